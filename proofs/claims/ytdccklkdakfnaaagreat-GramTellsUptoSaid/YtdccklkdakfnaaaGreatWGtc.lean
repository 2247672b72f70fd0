import Derived.Test.YtdccklkdakfnaaaGreatWGtb

set_option linter.unusedVariables false

set_option linter.unusedSimpArgs false

set_option maxRecDepth 100000

set_option maxHeartbeats 4000000

namespace Go.Gx

open Go.RowKit Go.Proofs

variable (nz : Nat) (wz : World) (S0 : Fz) (w0 : World) (Lr : List Ent)

noncomputable section

def Jo8 := Ys 111 B18 []
def Jo9 := Ys 1101 B18 Jo8
def Qit := Yq 1110100 B18
def Joc := Zl Qit (Zb 0 (Ys 1111 B18 []))
def Jod := Zc Qit Joc
def Qiw := Yq 1100 B18
def Jor := Ys 111010001 B18 (Ys 11101001 B18 Joc)
def Jou := Zb 1 (Ys 111010011 B18 Joc)

def Post.z3t (r : Bool) (v : Value) (w' : World) : Prop :=
 ∃ S', v = .bool r ∧ Ext S0 w0 S' w' ∧ Hp nz wz S' w' (Lr)

def LF.z3t : T38 × T38 → Bool → Prop := fun ⟨x0, x1⟩ r => ∀ {nz wz S0 w0 Lr} u5 u6 u7 u8a u8b u8c (_ : Hp nz wz S0 w0 (Lr)) (_ : Rd kT38 S0 w0 u5 u7 x0.L) (_ : x0.L.length = u6) (_ : Rd kT38 S0 w0 u8a u8c x1.L) (_ : x1.L.length = u8b),
 Calls Tryz.prog 18 #[(ag (wT29 x0.Op x0.Text u5 u6 u7)), (ag (wT29 x1.Op x1.Text u8a u8b u8c))] w0 (Rets (Post.z3t nz wz S0 w0 Lr r))

def L.z3u : T38 × T38 × Bool → Bool → Prop := fun ⟨x2v, x3v, x26⟩ r => ∀ S1 w1, Ext S0 w0 S1 w1 → ∀ gx2 u8p u8q u8r gx3 u9 ua ub (_ : Hp nz wz S1 w1 ((some gx2, .row 39 (wT29 x2v.Op x2v.Text u8p u8q u8r) 3 0) :: (some gx3, .row 39 (wT29 x3v.Op x3v.Text u9 ua ub) 3 0) :: Lr)) (_ : Rd kT38 S1 w1 u8p u8r x2v.L) (_ : x2v.L.length = u8q) (_ : Rd kT38 S1 w1 u9 ub x3v.L) (_ : x3v.L.length = ua) (junk : Nat → Value),
 Goes Tryz.prog (base 18) Jo9 ⟨lfr 46 [(2, (pt gx2 0)), (3, (pt gx3 0)), (26, .bool x26)] junk, []⟩ w1 (Done Tryz.prog 18 (Rets (Post.z3t nz wz S0 w0 Lr r)))

def LL.z3u : T38 × T38 × Bool → Bool → Prop := fun a r => ∀ {nz wz S0 w0 Lr}, L.z3u nz wz S0 w0 Lr a r

def L.z3v : T38 × T38 × Int → Bool → Prop := fun ⟨x2v, x3v, x5⟩ r => ∀ S1 w1, Ext S0 w0 S1 w1 → ∀ gx2 u8p u8q u8r gx3 u9 ua ub (_ : Hp nz wz S1 w1 ((some gx2, .row 39 (wT29 x2v.Op x2v.Text u8p u8q u8r) 3 0) :: (some gx3, .row 39 (wT29 x3v.Op x3v.Text u9 ua ub) 3 0) :: Lr)) (_ : Rd kT38 S1 w1 u8p u8r x2v.L) (_ : x2v.L.length = u8q) (_ : Rd kT38 S1 w1 u9 ub x3v.L) (_ : x3v.L.length = ua) (junk : Nat → Value),
 Goes Tryz.prog (base 18) Jod ⟨lfr 46 [(2, (pt gx2 0)), (3, (pt gx3 0)), (5, .i x5)] junk, []⟩ w1 (Done Tryz.prog 18 (Rets (Post.z3t nz wz S0 w0 Lr r)))

def LL.z3v : T38 × T38 × Int → Bool → Prop := fun a r => ∀ {nz wz S0 w0 Lr}, L.z3v nz wz S0 w0 Lr a r

theorem W.z3w : (∀ a r, M.a2t a = some r → LF.z3t a r) ∧ (∀ a r, M.a2u a = some r → LL.z3u a r) ∧ (∀ a r, M.a41 a = some r → LL.z3v a r) := by
 refine M.a2t.mutual_partial_correctness LF.z3t LL.z3u LL.z3v ?_ ?_ ?_
 ·
  intro ufz ug0 ⟨x0, x1⟩ r h nz wz S0 w0 Lr u5 u6 u7 u8a u8b u8c p0 un uo u8i u8j
  try dsimp only at h
  subst uo
  subst u8j
  refine Zf Tryz.f18 B18 44 ?_
  refine Gj 46 [(0, (ag (wT29 x0.Op x0.Text u5 x0.L.length u7))), (1, (ag (wT29 x1.Op x1.Text u8a x1.L.length u8c)))] fun junk => ?_
  refine Gn 2 [] (Yt 10 B18 [0, 1, 2] (Ys 11 B18 [])) ?_
  refine Ob 39 (.tmp 0) 2 0 ((ag (wT29 x0.Op x0.Text u5 x0.L.length u7))) (wT29 x0.Op x0.Text u5 x0.L.length u7) p0 Goes.v fun b1 w2 z2 p2 => ?_
  refine Ob 39 (.tmp 1) 3 0 ((ag (wT29 x1.Op x1.Text u8a x1.L.length u8c))) (wT29 x1.Op x1.Text u8a x1.L.length u8c) p2 Goes.v fun b3 w3 z3 p3 => ?_
  refine Gn 6 [(4, .bool false), (6, (pt b1 0))] (Zr Qiw [1, 2, 3, 4, 5, 6, 7, 8, 9, 10, 11, 12, 13, 14, 15, 16, 17, 18, 19, 20] Jo9) ?_
  refine Goes.ld 3 (.tmp 6) 7 3 ⟨b1, 0, none⟩ (.i x0.Op) (p3.c 1 0) ?_
  refine Gn 1 [(8, (pt b3 0))] (Zr Qiw [3, 4, 5, 6, 7, 8, 9, 10, 11, 12, 13, 14, 15, 16, 17, 18, 19, 20] Jo9) ?_
  refine Goes.ld 3 (.tmp 8) 9 3 ⟨b3, 0, none⟩ (.i x1.Op) (p3.c 0 0) ?_
  refine Gm 2 [([10, 11], .bool (!(decide (x0.Op = x1.Op))))] (Zr Qiw [6, 7, 8, 9, 10, 11, 12, 13, 14, 15, 16, 17, 18, 19, 20] Jo9) ?_
  refine Gi h (fun h5 h => ?_) fun h5 h => ?_
  ·
   rw [dt h5]
   refine Gn 1 [(12, (pt b1 1))] (Zr Qiw [7, 8, 9, 10, 11, 12, 13, 14, 15, 16, 17, 18, 19, 20] Jo9) ?_
   refine Goes.ld 9 (.tmp 12) 13 9 ⟨b1, 1, none⟩ (.string x0.Text) (p3.c 1 1) ?_
   refine Gn 1 [(14, (pt b3 1))] (Zr Qiw [9, 10, 11, 12, 13, 14, 15, 16, 17, 18, 19, 20] Jo9) ?_
   refine Goes.ld 9 (.tmp 14) 15 9 ⟨b3, 1, none⟩ (.string x1.Text) (p3.c 0 1) ?_
   refine Gm 3 [([16, 17, 18], .bool (!(x0.Text.toList == x1.Text.toList)))] (Zr Qiw [13, 14, 15, 16, 17, 18, 19, 20] Jo9) ?_
   refine Gi h (fun h6 h => ?_) fun h6 h => ?_
   ·
    rw [h6]
    refine Gn 1 [(19, (pt b1 2))] (Zr Qiw [14, 15, 16, 17, 18, 19, 20] Jo9) ?_
    refine Goes.ld 37 (.tmp 19) 20 37 ⟨b1, 2, none⟩ (.slice u5 x0.L.length u7) (p3.c 1 2) ?_
    refine Gn 2 [(21, .i (x0.L.length : Int)), (22, (pt b3 2))] (Zr Qiw [17, 18, 19, 20] Jo9) ?_
    refine Goes.ld 37 (.tmp 22) 23 37 ⟨b3, 2, none⟩ (.slice u8a x1.L.length u8c) (p3.c 0 2) ?_
    refine Gm 4 [([24], .i (x1.L.length : Int)), ([25, 26], .bool (!(decide ((x0.L.length : Int) = (x1.L.length : Int)))))] Jo9 ?_
    have p3 := (p3.fr 0).fr 1
    exact Gj 46 [(2, (pt b1 0)), (3, (pt b3 0)), (26, .bool (!(decide ((x0.L.length : Int) = (x1.L.length : Int)))))] (ug0 _ _ h _ _ (z2.t z3) _ _ _ _ _ _ _ _ p3 (un.ext (z2.t z3)) rfl (u8i.ext (z2.t z3)) rfl)
   ·
    rw [bf h6]
    refine Gm 9 [([19, 20, 21, 22, 23, 24, 25], undef), ([26], .bool true)] Jo9 ?_
    have p3 := (p3.fr 0).fr 1
    exact Gj 46 [(2, (pt b1 0)), (3, (pt b3 0)), (26, .bool true)] (ug0 _ _ h _ _ (z2.t z3) _ _ _ _ _ _ _ _ p3 (un.ext (z2.t z3)) rfl (u8i.ext (z2.t z3)) rfl)
  ·
   rw [df h5]
   refine Gm 14 [([12, 13, 14, 15, 16, 19, 20, 21, 22, 23, 24, 25], undef), ([17, 18], .bool true)] (Zr Qiw [20] Jo9) ?_
   refine Gn 2 [(26, .bool true)] Jo9 ?_
   have p3 := (p3.fr 0).fr 1
   exact Gj 46 [(2, (pt b1 0)), (3, (pt b3 0)), (26, .bool true)] (ug0 _ _ h _ _ (z2.t z3) _ _ _ _ _ _ _ _ p3 (un.ext (z2.t z3)) rfl (u8i.ext (z2.t z3)) rfl)
 ·
  intro ug1 ug2 ⟨x2v, x3v, x26⟩ r h nz wz S0 w0 Lr S1 w1 hx gx2 u8p u8q u8r gx3 u9 ua ub p1 u8s u8t ut uu junk
  try dsimp only at h
  subst u8t
  subst uu
  refine Gi h (fun h9 h => ?_) fun h9 h => ?_
  ·
   rw [h9]
   refine Gn 5 [(4, .bool false)] (Ys 110101 B18 Jo8) ?_
   obtain rfl := sj h
   have p1 := (p1.dp 0).dp 0
   exact Goes.rt Tryz.f18 (.bool false) ⟨_, rfl, hx, p1⟩
  ·
   rw [bf h9]
   refine Gn 9 [(5, .i 0)] Jod ?_
   exact Gj 46 [(2, (pt gx2 0)), (3, (pt gx3 0)), (5, .i 0)] (ug2 _ _ h _ _ hx _ _ _ _ _ _ _ _ p1 u8s rfl ut rfl)
 ·
  intro ug3 ug1 ug4 ug2 ⟨x2v, x3v, x5⟩ r h nz wz S0 w0 Lr S1 w1 hx gx2 u8p u8q u8r gx3 u9 ua ub p1 u8s u8t ut uu junk
  try dsimp only at h
  subst u8t
  subst uu
  refine Gn 5 [(27, .i x5), (28, (pt gx2 2))] (Yt 111010000 B18 [2, 3, 4] Jor) ?_
  refine Goes.ld 37 (.tmp 28) 29 37 ⟨gx2, 2, none⟩ (.slice u8p x2v.L.length u8r) (p1.c 0 2) ?_
  refine Gn 3 [(30, .i (x2v.L.length : Int)), (31, .bool (decide (x5 < (x2v.L.length : Int))))] Jor ?_
  refine Gi h (fun h12 h => ?_) fun h12 h => ?_
  ·
   rw [dt h12]
   refine Gn 5 [] (Ys 11101001000 B18 (Ys 11101001001 B18 Jou)) ?_
   have z4 : Ext S1 w1 S1 (w1).drew := Ext.draw
   have p4 := p1.draw
   refine Gd [10] (Fc S1 (w1).drew [(⟨gx2, 2, none⟩, .slice u8p x2v.L.length u8r), (⟨gx3, 2, none⟩, .slice u9 x3v.L.length ub)]) 6 12 ?_
   generalize (w1).drew = w4 at z4 p4 ⊢
   refine AnyG.pu 0 (.fieldAddr 39 (.tmp 2) 2) 34 0 ((pt gx2 2)) (Fc.here (p4.cs [(0, 2, 1), (1, 2, 1)])) ?_
   refine Al 1 37 (.tmp 34) 35 37 ⟨gx2, 2, none⟩ (.slice u8p x2v.L.length u8r) (Fc.here (p4.cs [(0, 2, 1), (1, 2, 1)])) (fun _ h => h.2.at_ 0 rfl) ?_
   refine AnyG.pu 2 (.move (.tmp 5)) 36 3 (.i x5) (Fc.here (p4.cs [(0, 2, 1), (1, 2, 1)])) ?_
   refine Gg h fun g13 h => ?_
   refine AnyG.ixR_n (i := 3) 37 (.tmp 35) (.tmp 36) 37 0 39 .i64 x5 (gi x2v.L x5) rfl rfl (u8s.ext z4) (by kernel_rfl) (by kernel_rfl) (Fc.here (p4.cs [(0, 2, 1), (1, 2, 1)])) (by kernel_rfl) (by kernel_rfl) (by kernel_rfl) (by kernel_rfl) g13 h12 fun a14 _ f15 q16 => ?_
   have q17 := q16
   obtain ⟨_, _, rfl, rfl, ⟨_, _, rfl, rfl, ⟨A18, c19, rfl, f20⟩⟩⟩ := kT38_open q17
   refine AnyG.ldN (i := 4) 39 (.tmp 37) 38 39 a14 ([.i ((gi x2v.L x5).Op)] ++ ([.string ((gi x2v.L x5).Text)] ++ [.slice A18 (((gi x2v.L x5).L).length) c19])) (by kernel_rfl) (by kernel_rfl) (Fc.here (p4.cs [(0, 2, 1), (1, 2, 1)])) (by kernel_rfl) (by kernel_rfl) (by kernel_rfl) (fun _ h => f15.fc h) ?_
   refine AnyG.pu 5 (.fieldAddr 39 (.tmp 3) 2) 39 0 ((pt gx3 2)) (Fc.here (p4.cs [(0, 2, 1), (1, 2, 1)])) ?_
   refine Al 6 37 (.tmp 39) 40 37 ⟨gx3, 2, none⟩ (.slice u9 x3v.L.length ub) (Fc.here (p4.cs [(0, 2, 1), (1, 2, 1)])) (fun _ h => h.2.at_ 1 rfl) ?_
   refine AnyG.pu 7 (.move (.tmp 5)) 41 3 (.i x5) (Fc.here (p4.cs [(0, 2, 1), (1, 2, 1)])) ?_
   refine Gg h fun g21 h => ?_
   refine AnyG.ixR_n (i := 8) 37 (.tmp 40) (.tmp 41) 42 0 39 .i64 x5 (gi x3v.L x5) rfl rfl (ut.ext z4) (by kernel_rfl) (by kernel_rfl) (Fc.here (p4.cs [(0, 2, 1), (1, 2, 1)])) (by kernel_rfl) (by kernel_rfl) (by kernel_rfl) (by kernel_rfl) g13 g21 fun a22 _ f23 q24 => ?_
   have q25 := q24
   obtain ⟨_, _, rfl, rfl, ⟨_, _, rfl, rfl, ⟨A26, c27, rfl, f28⟩⟩⟩ := kT38_open q25
   refine AnyG.ldN (i := 9) 39 (.tmp 42) 43 39 a22 ([.i ((gi x3v.L x5).Op)] ++ ([.string ((gi x3v.L x5).Text)] ++ [.slice A26 (((gi x3v.L x5).L).length) c27])) (by kernel_rfl) (by kernel_rfl) (Fc.here (p4.cs [(0, 2, 1), (1, 2, 1)])) (by kernel_rfl) (by kernel_rfl) (by kernel_rfl) (fun _ h => f23.fc h) ?_
   refine Gb h fun y29 e30 h => ?_
   refine Oc (kc 18 [38, 43] #[39, 39]) 44 4 18 #[(ag (wT29 (gi x2v.L x5).Op (gi x2v.L x5).Text A18 (((gi x2v.L x5).L).length) c19)), (ag (wT29 (gi x3v.L x5).Op (gi x3v.L x5).Text A26 (((gi x3v.L x5).L).length) c27))] (Ac 10) (ug4 (gi x2v.L x5, gi x3v.L x5) y29 e30 _ _ _ _ _ _ p4 f20 rfl f28 rfl) ?_
   rintro _ w5 ⟨S5, rfl, z5, p5⟩
   refine AnyG.last [] (Fc S5 w5 []) (by decide) ?_
   refine AnyG.pu 11 (.unOp .not 4 (.tmp 44)) 45 4 (.bool (!y29)) (Fc.here trivial) ?_
   refine Ad ?_
   refine Gi h (fun h31 h => ?_) fun h31 h => ?_
   ·
    rw [h31]
    refine Gm 9 [([32], .i x5), ([33, 5], .i (wr .i64 (x5 + 1)))] Jod ?_
    exact Gj 46 [(2, (pt gx2 0)), (3, (pt gx3 0)), (5, .i (wr .i64 (x5 + 1)))] (ug2 _ _ h _ _ ((hx.t z4).t z5) _ _ _ _ _ _ _ _ p5 (u8s.ext (z4.t z5)) rfl (ut.ext (z4.t z5)) rfl)
   ·
    rw [bf h31]
    refine Gn 5 [(4, .bool false)] (Ys 1110100100101 B18 Jou) ?_
    obtain rfl := sj h
    have p5 := (p5.dp 0).dp 0
    exact Goes.rt Tryz.f18 (.bool false) ⟨_, rfl, ((hx.t z4).t z5), p5⟩
  ·
   rw [df h12]
   refine Gn 6 [(4, .bool true)] (Ys 11111 B18 []) ?_
   obtain rfl := sj h
   have p1 := (p1.dp 0).dp 0
   exact Goes.rt Tryz.f18 (.bool true) ⟨_, rfl, hx, p1⟩

theorem W.z3t : ∀ a r, M.a2t a = some r → LF.z3t a r := (W.z3w).1

theorem W.z3u : ∀ a r, M.a2u a = some r → LL.z3u a r := (W.z3w).2.1

theorem W.z3v : ∀ a r, M.a41 a = some r → LL.z3v a r := (W.z3w).2.2

def Qj7 := Yq 11111110100 B124
def Jp1 := Zl Qj7 (Zb 2 (Ys 11111111 B124 []))
def Jp2 := Zc Qj7 Jp1
def Jp4 := Zb 3 (Ys 1111111010011 B124 Jp1)
def Qja := Yq 11111110100100110100 B124
def Jp7 := Zl Qja (Zb 4 (Ys 11111110100100111 B124 Jp4))
def Jp8 := Zc Qja Jp7
def Jpa := Zb 5 (Ys 1111111010010011010011 B124 Jp7)
def Jpd := Ys 111111101001001 B124 Jp4
def Jpe := Ys 1111111010010001 B124 Jpd
def Qjg := Yq 1111111010010000 B124
def Jph := Ys 111111101001000101 B124 Jpd
def Jpj := Ys 1111111010010011 B124 Jp4
def Qjk := Yq 1111111010010010 B124
def Jpm := Ys 111111111 B124 []
def Jpo := Ys 111111110101 B124 Jpm
def Jpq := Ys 1111111111 B124 []
def Jps := Ys 1111111110101 B124 Jpq
def Jpu := Ys 11111111111 B124 []

def Post.z3x (r : T38) (v : Value) (w' : World) : Prop :=
 ∃ S' u9d u1 u2, v = (ag (wT29 r.Op r.Text u9d u1 u2)) ∧ Ext S0 w0 S' w' ∧ Hp nz wz S' w' (Lr) ∧ Rd kT38 S' w' u9d u2 r.L ∧ r.L.length = u1

def L.z3y : Int × T38 × Int × Int × (List T38) × (List T38) × Int → T38 → Prop := fun ⟨x0, x4v, x5, x6, x7, x9, x10⟩ r => ∀ S1 w1, Ext S0 w0 S1 w1 → ∀ gx4 u9e u9f u9g u9h Gx7 nx7 cx7 u4t Gx9 nx9 cx9 ug6 (_ : Hp nz wz S1 w1 ((some gx4, .row 39 (wT29 x4v.Op x4v.Text (Gp u9e) u9f u9g) 3 0) :: (u9e, .row 39 u9h (u9g * kT38.size) 0) :: (Gx7, .row 39 u4t (cx7 * kT38.size) 0) :: (Gx9, .row 39 ug6 (cx9 * kT38.size) 0) :: Lr)) (_ : Els kT38 S1 w1 u9h x4v.L) (_ : x4v.L.length = u9f) (_ : Els kT38 S1 w1 u4t x7) (_ : x7.length = nx7) (_ : Els kT38 S1 w1 ug6 x9) (_ : x9.length = nx9) (junk : Nat → Value),
 Goes Tryz.prog (base 124) Jp2 ⟨lfr 107 [(0, .i x0), (4, (pt gx4 0)), (5, .i x5), (6, .i x6), (7, .slice (Gp Gx7) nx7 cx7), (9, .slice (Gp Gx9) nx9 cx9), (10, .i x10)] junk, []⟩ w1 (Done Tryz.prog 124 (Rets (Post.z3x nz wz S0 w0 Lr r)))

def L.z3z : Int × T38 × Int × Int × (List T38) × (List T38) × Int × Bool × Int → T38 → Prop := fun ⟨x0, x4v, x5, x6, x7, x9, x10, x11, x12⟩ r => ∀ S1 w1, Ext S0 w0 S1 w1 → ∀ gx4 u9e u9f u9g u9h Gx7 nx7 cx7 u4t Gx9 nx9 cx9 ug6 (_ : Hp nz wz S1 w1 ((some gx4, .row 39 (wT29 x4v.Op x4v.Text (Gp u9e) u9f u9g) 3 0) :: (u9e, .row 39 u9h (u9g * kT38.size) 0) :: (Gx7, .row 39 u4t (cx7 * kT38.size) 0) :: (Gx9, .row 39 ug6 (cx9 * kT38.size) 0) :: Lr)) (_ : Els kT38 S1 w1 u9h x4v.L) (_ : x4v.L.length = u9f) (_ : Els kT38 S1 w1 u4t x7) (_ : x7.length = nx7) (_ : Els kT38 S1 w1 ug6 x9) (_ : x9.length = nx9) (junk : Nat → Value),
 Goes Tryz.prog (base 124) Jp8 ⟨lfr 107 [(0, .i x0), (4, (pt gx4 0)), (5, .i x5), (6, .i x6), (7, .slice (Gp Gx7) nx7 cx7), (9, .slice (Gp Gx9) nx9 cx9), (10, .i x10), (11, .bool x11), (12, .i x12)] junk, []⟩ w1 (Done Tryz.prog 124 (Rets (Post.z3x nz wz S0 w0 Lr r)))

def L.z40 : Int × T38 × Int × Int × (List T38) × (List T38) × Int × Bool × Int → T38 → Prop := fun ⟨x0, x4v, x5, x6, x7, x9, x10, x11, x12⟩ r => ∀ S1 w1, Ext S0 w0 S1 w1 → ∀ gx4 u9e u9f u9g u9h Gx7 nx7 cx7 u4t Gx9 nx9 cx9 ug6 (_ : Hp nz wz S1 w1 ((some gx4, .row 39 (wT29 x4v.Op x4v.Text (Gp u9e) u9f u9g) 3 0) :: (u9e, .row 39 u9h (u9g * kT38.size) 0) :: (Gx7, .row 39 u4t (cx7 * kT38.size) 0) :: (Gx9, .row 39 ug6 (cx9 * kT38.size) 0) :: Lr)) (_ : Els kT38 S1 w1 u9h x4v.L) (_ : x4v.L.length = u9f) (_ : Els kT38 S1 w1 u4t x7) (_ : x7.length = nx7) (_ : Els kT38 S1 w1 ug6 x9) (_ : x9.length = nx9) (junk : Nat → Value),
 Goes Tryz.prog (base 124) Jpa ⟨lfr 107 [(0, .i x0), (4, (pt gx4 0)), (5, .i x5), (6, .i x6), (7, .slice (Gp Gx7) nx7 cx7), (9, .slice (Gp Gx9) nx9 cx9), (10, .i x10), (11, .bool x11), (12, .i x12)] junk, []⟩ w1 (Done Tryz.prog 124 (Rets (Post.z3x nz wz S0 w0 Lr r)))

def L.z41 : Int × T38 × Int × Int × (List T38) × (List T38) × Int → T38 → Prop := fun ⟨x0, x4v, x5, x6, x7, x9, x10⟩ r => ∀ S1 w1, Ext S0 w0 S1 w1 → ∀ gx4 u9e u9f u9g u9h Gx7 nx7 cx7 u4t Gx9 nx9 cx9 ug6 (_ : Hp nz wz S1 w1 ((some gx4, .row 39 (wT29 x4v.Op x4v.Text (Gp u9e) u9f u9g) 3 0) :: (u9e, .row 39 u9h (u9g * kT38.size) 0) :: (Gx7, .row 39 u4t (cx7 * kT38.size) 0) :: (Gx9, .row 39 ug6 (cx9 * kT38.size) 0) :: Lr)) (_ : Els kT38 S1 w1 u9h x4v.L) (_ : x4v.L.length = u9f) (_ : Els kT38 S1 w1 u4t x7) (_ : x7.length = nx7) (_ : Els kT38 S1 w1 ug6 x9) (_ : x9.length = nx9) (junk : Nat → Value),
 Goes Tryz.prog (base 124) Jp4 ⟨lfr 107 [(0, .i x0), (4, (pt gx4 0)), (5, .i x5), (6, .i x6), (7, .slice (Gp Gx7) nx7 cx7), (9, .slice (Gp Gx9) nx9 cx9), (10, .i x10)] junk, []⟩ w1 (Done Tryz.prog 124 (Rets (Post.z3x nz wz S0 w0 Lr r)))

theorem W.z42 {nz wz S0 w0 Lr} : (∀ a r, M.ah a = some r → (L.z3y nz wz S0 w0 Lr) a r) ∧ (∀ a r, M.a2v a = some r → (L.z3z nz wz S0 w0 Lr) a r) ∧ (∀ a r, M.a59 a = some r → (L.z41 nz wz S0 w0 Lr) a r) ∧ (∀ a r, M.a58 a = some r → (L.z40 nz wz S0 w0 Lr) a r) := by
 refine M.ah.mutual_partial_correctness (L.z3y nz wz S0 w0 Lr) (L.z3z nz wz S0 w0 Lr) (L.z41 nz wz S0 w0 Lr) (L.z40 nz wz S0 w0 Lr) ?_ ?_ ?_ ?_
 ·
  intro ug7 ug8 ⟨x0, x4v, x5, x6, x7, x9, x10⟩ r h S1 w1 hx gx4 u9e u9f u9g u9h Gx7 nx7 cx7 u4t Gx9 nx9 cx9 ug6 p1 u9k u9l fx7 lx7 fx9 lx9 junk
  try dsimp only at h
  subst u9l
  subst lx7
  subst lx9
  refine Gn 8 [(44, .i x10), (45, .slice (Gp Gx7) x7.length cx7), (46, .i (x7.length : Int)), (47, .bool (decide (x10 < (x7.length : Int))))] (Ys 1111111010001 B124 (Ys 111111101001 B124 Jp1)) ?_
  refine Gi h (fun h67 h => ?_) fun h67 h => ?_
  ·
   rw [dt h67]
   refine Gn 9 [(50, .slice (Gp Gx7) x7.length cx7), (51, .i x10)] (Zr Qjg [2, 3, 4, 5, 6] Jpe) ?_
   refine Gg h fun g68 h => ?_
   refine Op_.ixO_n 37 (.tmp 50) (.tmp 51) 52 0 39 .i64 x10 2 x7.length cx7 (gi x7 x10) rfl rfl p1 rfl fx7 Goes.v (by kernel_rfl) (by kernel_rfl) (by kernel_rfl) (by kernel_rfl) (by decide) g68 h67 ?_
   rintro b69 _ rfl q71 f70
   have q72 := q71
   obtain ⟨_, _, rfl, rfl, ⟨_, _, rfl, rfl, ⟨A73, c74, rfl, f75⟩⟩⟩ := kT38_open q72
   refine Gn 1 [(53, .pointer (some (Addr.add ⟨b69, (x10 : Int).toNat * kT38.size, none⟩ 0)))] (Zr Qjg [4, 5, 6] Jpe) ?_
   refine Goes.ld 3 (.tmp 53) 54 3 (Addr.add ⟨b69, (x10 : Int).toNat * kT38.size, none⟩ 0) (.i ((gi x7 x10).Op)) ((hc_part (us := []) (vs := [.i ((gi x7 x10).Op)]) (ws := [.string ((gi x7 x10).Text), .slice A73 (((gi x7 x10).L).length) c74]) f70) 0 _ rfl) ?_
   refine Gn 3 [(55, .i x6), (56, .bool (decide ((gi x7 x10).Op = x6)))] Jpe ?_
   refine Gi h (fun h77 h => ?_) fun h77 h => ?_
   ·
    rw [dt h77]
    refine Gn 5 [(57, .i x6), (58, .agg #[.i x6, .string (⟨#[]⟩ : ByteArray), .slice none 0 0])] (Yt 111111101001000100 B124 [2] Jph) ?_
    refine So 39 (.tmp 4) (.tmp 58) 0 0 gx4 0 (.agg #[.i x6, .string (⟨#[]⟩ : ByteArray), .slice none 0 0]) [.i x6, .string (⟨#[]⟩ : ByteArray), .slice none 0 0] p1 rfl Goes.s fun w8 z8 p8 => ?_
    refine Gn 1 [] Jph ?_
    obtain rfl := sj h
    have p8 := ((p8.dp 1).dp 1).dp 1
    exact R1 Tryz.f124 (.cell 4 39) (.agg #[.i x6, .string (⟨#[]⟩ : ByteArray), .slice none 0 0]) (Rn gx4 (p8.pa 0 0)) ⟨_, _, _, _, rfl, (hx.t z8), p8.drop, Rd.none_, rfl⟩
   ·
    rw [df h77]
    refine Gn 6 [(59, .slice (Gp (some b69)) x7.length cx7), (60, .i x10)] (Zr Qjk [2, 3, 4, 5, 6, 7] Jpj) ?_
    refine Op_.ixO_n 37 (.tmp 59) (.tmp 60) 61 0 39 .i64 x10 2 x7.length cx7 (gi x7 x10) rfl rfl p1 rfl fx7 Goes.v (by kernel_rfl) (by kernel_rfl) (by kernel_rfl) (by kernel_rfl) (by decide) g68 h67 ?_
    rintro b78 _ e85 q80 f79
    injection e85 with ug9; subst ug9
    have q81 := q80
    obtain ⟨_, _, rfl, rfl, ⟨_, _, rfl, rfl, ⟨A82, c83, rfl, f84⟩⟩⟩ := kT38_open q81
    refine Gn 1 [(62, .pointer (some (Addr.add ⟨b69, (x10 : Int).toNat * kT38.size, none⟩ 0)))] (Zr Qjk [4, 5, 6, 7] Jpj) ?_
    refine Goes.ld 3 (.tmp 62) 63 3 (Addr.add ⟨b69, (x10 : Int).toNat * kT38.size, none⟩ 0) (.i ((gi x7 x10).Op)) ((hc_part (us := []) (vs := [.i ((gi x7 x10).Op)]) (ws := [.string ((gi x7 x10).Text), .slice A82 (((gi x7 x10).L).length) c83]) f79) 0 _ rfl) ?_
    refine Gm 11 [([64], .i x5), ([65, 11], .bool (decide ((gi x7 x10).Op = x5))), ([12], .i 0)] Jp8 ?_
    exact Gj 107 [(0, .i x0), (4, (pt gx4 0)), (5, .i x5), (6, .i x6), (7, .slice (Gp (some b69)) x7.length cx7), (9, .slice (Gp Gx9) x9.length cx9), (10, .i x10), (11, .bool (decide ((gi x7 x10).Op = x5))), (12, .i 0)] (ug8 _ _ h _ _ hx _ _ _ _ _ (some b69) _ _ _ _ _ _ _ p1 u9k rfl fx7 rfl fx9 rfl)
  ·
   rw [df h67]
   refine Gn 9 [(93, .slice (Gp Gx9) x9.length cx9), (94, .i (x9.length : Int)), (95, .bool (decide ((x9.length : Int) = 0)))] (Ys 1111111101 B124 Jpm) ?_
   refine Gi h (fun h90 h => ?_) fun h90 h => ?_
   ·
    rw [dt h90]
    refine Gn 5 [(96, .i x5), (97, .agg #[.i x5, .string (⟨#[]⟩ : ByteArray), .slice none 0 0])] (Yt 111111110100 B124 [2] Jpo) ?_
    refine So 39 (.tmp 4) (.tmp 97) 0 0 gx4 0 (.agg #[.i x5, .string (⟨#[]⟩ : ByteArray), .slice none 0 0]) [.i x5, .string (⟨#[]⟩ : ByteArray), .slice none 0 0] p1 rfl Goes.s fun w9 z9 p9 => ?_
    refine Gn 1 [] Jpo ?_
    obtain rfl := sj h
    have p9 := ((p9.dp 1).dp 1).dp 1
    exact R1 Tryz.f124 (.cell 4 39) (.agg #[.i x5, .string (⟨#[]⟩ : ByteArray), .slice none 0 0]) (Rn gx4 (p9.pa 0 0)) ⟨_, _, _, _, rfl, (hx.t z9), p9.drop, Rd.none_, rfl⟩
   ·
    rw [df h90]
    refine Gn 9 [(98, .slice (Gp Gx9) x9.length cx9), (99, .i (x9.length : Int)), (100, .bool (decide ((x9.length : Int) = 1)))] (Ys 11111111101 B124 Jpq) ?_
    refine Gi h (fun h91 h => ?_) fun h91 h => ?_
    ·
     rw [dt h91]
     refine Gn 4 [(101, .slice (Gp Gx9) x9.length cx9)] (Yt 1111111110100 B124 [1, 2, 3] Jps) ?_
     refine Gg h fun g92 h => ?_
     refine Op_.ixO_n 37 (.tmp 101) (.const (.int .i64 0)) 102 0 39 .i64 0 3 x9.length cx9 (gi x9 0) rfl rfl p1 rfl fx9 Goes.v (by kernel_rfl) (by kernel_rfl) (by kernel_rfl) (by kernel_rfl) (by decide) (by decide : (0 : Int) ≤ 0) g92 ?_
     rintro b93 _ rfl q95 f94
     have q96 := q95
     obtain ⟨_, _, rfl, rfl, ⟨_, _, rfl, rfl, ⟨A97, c98, rfl, f99⟩⟩⟩ := kT38_open q96
     refine Goes.ldN 39 (.tmp 102) 103 39 ⟨b93, (0 : Int).toNat * kT38.size, none⟩ ([.i ((gi x9 0).Op)] ++ ([.string ((gi x9 0).Text)] ++ [.slice A97 (((gi x9 0).L).length) c98])) f94 ?_
     refine So 39 (.tmp 4) (.tmp 103) 0 0 gx4 0 ((ag (wT29 (gi x9 0).Op (gi x9 0).Text A97 (((gi x9 0).L).length) c98))) (wT29 (gi x9 0).Op (gi x9 0).Text A97 (((gi x9 0).L).length) c98) p1 rfl Goes.s fun w10 z10 p10 => ?_
     refine Gn 1 [] Jps ?_
     obtain rfl := sj h
     have p10 := ((p10.dp 1).dp 1).dp 1
     exact R1 Tryz.f124 (.cell 4 39) ((ag (wT29 (gi x9 0).Op (gi x9 0).Text A97 (((gi x9 0).L).length) c98))) (Rn gx4 (p10.pa 0 0)) ⟨_, _, _, _, rfl, (hx.t z10), p10.drop, (f99.ext z10), rfl⟩
    ·
     rw [df h91]
     refine Gn 7 [(104, .i x0), (105, .slice (Gp Gx9) x9.length cx9), (106, .agg #[.i x0, .string (⟨#[]⟩ : ByteArray), .slice (Gp Gx9) x9.length cx9])] (Yt 11111111110 B124 [3] Jpu) ?_
     refine So 39 (.tmp 4) (.tmp 106) 0 0 gx4 0 (.agg #[.i x0, .string (⟨#[]⟩ : ByteArray), .slice (Gp Gx9) x9.length cx9]) [.i x0, .string (⟨#[]⟩ : ByteArray), .slice (Gp Gx9) x9.length cx9] p1 rfl Goes.s fun w11 z11 p11 => ?_
     refine Gn 1 [] Jpu ?_
     obtain ⟨S12, z12, p12, uga⟩ := p11.freezeRd 3 rfl (fx9.ext z11) (by decide)
     obtain rfl := sj h
     have p12 := ((p12.dp 1).dp 1).dp 1
     exact R1 Tryz.f124 (.cell 4 39) (.agg #[.i x0, .string (⟨#[]⟩ : ByteArray), .slice (Gp Gx9) x9.length cx9]) (Rn gx4 (p12.pa 0 0)) ⟨_, _, _, _, rfl, ((hx.t z11).t z12), p12.drop, uga, rfl⟩
 ·
  intro ugb ugc ugd uge ⟨x0, x4v, x5, x6, x7, x9, x10, x11, x12⟩ r h S1 w1 hx gx4 u9e u9f u9g u9h Gx7 nx7 cx7 u4t Gx9 nx9 cx9 ug6 p1 u9k u9l fx7 lx7 fx9 lx9 junk
  try dsimp only at h
  subst u9l
  subst lx7
  subst lx9
  refine Gn 8 [(66, .i x12), (67, .slice (Gp Gx9) x9.length cx9), (68, .i (x9.length : Int)), (69, .bool (decide (x12 < (x9.length : Int))))] (Ys 1111111010010011010001 B124 (Ys 111111101001001101001 B124 Jp7)) ?_
  refine Gi h (fun ugf h => ?_) fun ugf h => ?_
  ·
   rw [dt ugf]
   refine Gn 4 [] (Ys 11111110100100110100100 B124 Jpa) ?_
   have z13 : Ext S1 w1 S1 (w1).drew := Ext.draw
   have p13 := p1.draw
   refine Gd [10] (Fc S1 (w1).drew ([] ++ (rowCellsO Gx9 ug6 ++ (rowCellsO Gx7 u4t ++ [])))) 21 13 ?_
   generalize (w1).drew = w13 at z13 p13 ⊢
   refine AnyG.pu 0 (.move (.tmp 11)) 72 4 (.bool x11) (Fc.here (Cells.app trivial (Cells.app (Cells.rowO (p13.mem 3 rfl)) (Cells.app (Cells.rowO (p13.mem 2 rfl)) trivial)))) ?_
   refine AnyG.pu 1 (.move (.tmp 72)) 73 4 (.bool x11) (Fc.here (Cells.app trivial (Cells.app (Cells.rowO (p13.mem 3 rfl)) (Cells.app (Cells.rowO (p13.mem 2 rfl)) trivial)))) ?_
   refine Gi h (fun ugg h => ?_) fun ugg h => ?_
   ·
    rw [ugg]
    refine AnyG.s1 2 74 (Fc.here (Cells.app trivial (Cells.app (Cells.rowO (p13.mem 3 rfl)) (Cells.app (Cells.rowO (p13.mem 2 rfl)) trivial)))) ?_
    refine AnyG.s1 3 75 (Fc.here (Cells.app trivial (Cells.app (Cells.rowO (p13.mem 3 rfl)) (Cells.app (Cells.rowO (p13.mem 2 rfl)) trivial)))) ?_
    refine AnyG.s1 4 76 (Fc.here (Cells.app trivial (Cells.app (Cells.rowO (p13.mem 3 rfl)) (Cells.app (Cells.rowO (p13.mem 2 rfl)) trivial)))) ?_
    refine AnyG.s1 5 77 (Fc.here (Cells.app trivial (Cells.app (Cells.rowO (p13.mem 3 rfl)) (Cells.app (Cells.rowO (p13.mem 2 rfl)) trivial)))) ?_
    refine AnyG.s1 6 78 (Fc.here (Cells.app trivial (Cells.app (Cells.rowO (p13.mem 3 rfl)) (Cells.app (Cells.rowO (p13.mem 2 rfl)) trivial)))) ?_
    refine AnyG.s1 7 79 (Fc.here (Cells.app trivial (Cells.app (Cells.rowO (p13.mem 3 rfl)) (Cells.app (Cells.rowO (p13.mem 2 rfl)) trivial)))) ?_
    refine AnyG.s1 8 80 (Fc.here (Cells.app trivial (Cells.app (Cells.rowO (p13.mem 3 rfl)) (Cells.app (Cells.rowO (p13.mem 2 rfl)) trivial)))) ?_
    refine AnyG.s1 9 81 (Fc.here (Cells.app trivial (Cells.app (Cells.rowO (p13.mem 3 rfl)) (Cells.app (Cells.rowO (p13.mem 2 rfl)) trivial)))) ?_
    refine Ak 10 82 ?_
    refine AnyG.pu 11 (.pick (.tmp 73) (.const (.bool true)) (.tmp 82)) 83 4 (.bool true) (Fc.here (Cells.app trivial (Cells.app (Cells.rowO (p13.mem 3 rfl)) (Cells.app (Cells.rowO (p13.mem 2 rfl)) trivial)))) ?_
    refine AnyG.pu 12 (.assign (.tmp 83)) 11 4 (.bool true) (Fc.here (Cells.app trivial (Cells.app (Cells.rowO (p13.mem 3 rfl)) (Cells.app (Cells.rowO (p13.mem 2 rfl)) trivial)))) ?_
    refine Ad ?_
    exact Gj 107 [(0, .i x0), (4, (pt gx4 0)), (5, .i x5), (6, .i x6), (7, .slice (Gp Gx7) x7.length cx7), (9, .slice (Gp Gx9) x9.length cx9), (10, .i x10), (11, .bool true), (12, .i x12)] (uge _ _ h _ _ (hx.t z13) _ _ _ _ _ _ _ _ _ _ _ _ _ p13 (u9k.ext z13) rfl (fx7.ext z13) rfl (fx9.ext z13) rfl)
   ·
    rw [bf ugg]
    refine AnyG.pu 2 (.move (.tmp 9)) 74 37 (.slice (Gp Gx9) x9.length cx9) (Fc.here (Cells.app trivial (Cells.app (Cells.rowO (p13.mem 3 rfl)) (Cells.app (Cells.rowO (p13.mem 2 rfl)) trivial)))) ?_
    refine AnyG.pu 3 (.move (.tmp 12)) 75 3 (.i x12) (Fc.here (Cells.app trivial (Cells.app (Cells.rowO (p13.mem 3 rfl)) (Cells.app (Cells.rowO (p13.mem 2 rfl)) trivial)))) ?_
    refine Gg h fun ugi h => ?_
    refine AnyG.ixO_n (i := 4) 37 (.tmp 74) (.tmp 75) 76 0 39 .i64 x12 3 x9.length cx9 (gi x9 x12) rfl rfl p13 rfl (fx9.ext z13) (by kernel_rfl) (by kernel_rfl) (Fc.here (Cells.app trivial (Cells.app (Cells.rowO (p13.mem 3 rfl)) (Cells.app (Cells.rowO (p13.mem 2 rfl)) trivial)))) (by kernel_rfl) (by kernel_rfl) (by kernel_rfl) (by kernel_rfl) (by decide) ugi ugf ?_
    rintro ugj _ rfl uef ugk ugl
    have ugm := uef
    obtain ⟨_, _, rfl, rfl, ⟨_, _, rfl, rfl, ⟨ugn, ugo, rfl, ugp⟩⟩⟩ := kT38_open ugm
    refine AnyG.ldN (i := 5) 39 (.tmp 76) 77 39 ⟨ugj, (x12 : Int).toNat * kT38.size, none⟩ ([.i ((gi x9 x12).Op)] ++ ([.string ((gi x9 x12).Text)] ++ [.slice ugn (((gi x9 x12).L).length) ugo])) (by kernel_rfl) (by kernel_rfl) (Fc.here (Cells.app trivial (Cells.app (Cells.rowO (p13.mem 3 rfl)) (Cells.app (Cells.rowO (p13.mem 2 rfl)) trivial)))) (by kernel_rfl) (by kernel_rfl) (by kernel_rfl) (fun _ h => h.2.right.left.rowsAt ugk) ?_
    refine AnyG.pu 6 (.move (.tmp 7)) 78 37 (.slice (Gp Gx7) x7.length cx7) (Fc.here (Cells.app trivial (Cells.app (Cells.rowO (p13.mem 3 rfl)) (Cells.app (Cells.rowO (p13.mem 2 rfl)) trivial)))) ?_
    refine AnyG.pu 7 (.move (.tmp 10)) 79 3 (.i x10) (Fc.here (Cells.app trivial (Cells.app (Cells.rowO (p13.mem 3 rfl)) (Cells.app (Cells.rowO (p13.mem 2 rfl)) trivial)))) ?_
    refine Gg h fun ugq h => ?_
    refine Gg h fun ugr h => ?_
    refine AnyG.ixO_n (i := 8) 37 (.tmp 78) (.tmp 79) 80 0 39 .i64 x10 2 x7.length cx7 (gi x7 x10) rfl rfl p13 rfl (fx7.ext z13) (by kernel_rfl) (by kernel_rfl) (Fc.here (Cells.app trivial (Cells.app (Cells.rowO (p13.mem 3 rfl)) (Cells.app (Cells.rowO (p13.mem 2 rfl)) trivial)))) (by kernel_rfl) (by kernel_rfl) (by kernel_rfl) (by kernel_rfl) (by decide) ugq ugr ?_
    rintro ugs _ rfl ugt ugu ueq
    have ugv := ugt
    obtain ⟨_, _, rfl, rfl, ⟨_, _, rfl, rfl, ⟨ugw, ugx, rfl, ugy⟩⟩⟩ := kT38_open ugv
    refine AnyG.ldN (i := 9) 39 (.tmp 80) 81 39 ⟨ugs, (x10 : Int).toNat * kT38.size, none⟩ ([.i ((gi x7 x10).Op)] ++ ([.string ((gi x7 x10).Text)] ++ [.slice ugw (((gi x7 x10).L).length) ugx])) (by kernel_rfl) (by kernel_rfl) (Fc.here (Cells.app trivial (Cells.app (Cells.rowO (p13.mem 3 rfl)) (Cells.app (Cells.rowO (p13.mem 2 rfl)) trivial)))) (by kernel_rfl) (by kernel_rfl) (by kernel_rfl) (fun _ h => h.2.right.right.left.rowsAt ugu) ?_
    refine Gb h fun ugz uh0 h => ?_
    refine Oc (kc 18 [77, 81] #[39, 39]) 82 4 18 #[(ag (wT29 (gi x9 x12).Op (gi x9 x12).Text ugn (((gi x9 x12).L).length) ugo)), (ag (wT29 (gi x7 x10).Op (gi x7 x10).Text ugw (((gi x7 x10).L).length) ugx))] (Ac 10) (W.z3t (gi x9 x12, gi x7 x10) ugz uh0 _ _ _ _ _ _ p13 ugp rfl ugy rfl) ?_
    rintro _ w14 ⟨S14, rfl, z14, p14⟩
    refine AnyG.last [] (Fc S14 w14 []) (by decide) ?_
    refine AnyG.pu 11 (.pick (.tmp 73) (.const (.bool true)) (.tmp 82)) 83 4 (.bool ugz) (Fc.here trivial) ?_
    refine AnyG.pu 12 (.assign (.tmp 83)) 11 4 (.bool ugz) (Fc.here trivial) ?_
    refine Ad ?_
    exact Gj 107 [(0, .i x0), (4, (pt gx4 0)), (5, .i x5), (6, .i x6), (7, .slice (Gp (some ugs)) x7.length cx7), (9, .slice (Gp (some ugj)) x9.length cx9), (10, .i x10), (11, .bool ugz), (12, .i x12)] (uge _ _ h _ _ ((hx.t z13).t z14) _ _ _ _ _ (some ugs) _ _ _ (some ugj) _ _ _ p14 (u9k.ext (z13.t z14)) rfl (fx7.ext (z13.t z14)) rfl (fx9.ext (z13.t z14)) rfl)
  ·
   rw [df ugf]
   refine Gn 7 [(84, .bool x11), (85, .bool (!x11))] (Ys 111111101001001111 B124 Jp4) ?_
   refine Gi h (fun uh1 h => ?_) fun uh1 h => ?_
   ·
    rw [uh1]
    refine Gn 2 [] Jp4 ?_
    exact Gj 107 [(0, .i x0), (4, (pt gx4 0)), (5, .i x5), (6, .i x6), (7, .slice (Gp Gx7) x7.length cx7), (9, .slice (Gp Gx9) x9.length cx9), (10, .i x10)] (ugd _ _ h _ _ hx _ _ _ _ _ _ _ _ _ _ _ _ _ p1 u9k rfl fx7 rfl fx9 rfl)
   ·
    rw [bf uh1]
    refine Gn 5 [(86, .slice (Gp Gx9) x9.length cx9), (87, .slice (Gp Gx7) x7.length cx7), (88, .i x10)] (Yt 1111111010010011110 B124 [3, 4, 5, 6, 7] Jp4) ?_
    refine Gg h fun uh3 h => ?_
    refine Gg h fun uh4 h => ?_
    refine Op_.ixO_n 37 (.tmp 87) (.tmp 88) 89 0 39 .i64 x10 2 x7.length cx7 (gi x7 x10) rfl rfl p1 rfl fx7 Goes.v (by kernel_rfl) (by kernel_rfl) (by kernel_rfl) (by kernel_rfl) (by decide) uh3 uh4 ?_
    rintro uh5 _ rfl uh6 uh7
    have uh8 := uh6
    obtain ⟨_, _, rfl, rfl, ⟨_, _, rfl, rfl, ⟨uh9, uha, rfl, uhb⟩⟩⟩ := kT38_open uh8
    refine Goes.ldN 39 (.tmp 89) 90 39 ⟨uh5, (x10 : Int).toNat * kT38.size, none⟩ ([.i ((gi x7 x10).Op)] ++ ([.string ((gi x7 x10).Text)] ++ [.slice uh9 (((gi x7 x10).L).length) uha])) uh7 ?_
    have uhc : Els kT38 S1 w1 ((wT29 (gi x7 x10).Op (gi x7 x10).Text uh9 (((gi x7 x10).L).length) uha) : List Value) [gi x7 x10] := by exact (Els.cons (K := kT38) (vs := (wT29 (gi x7 x10).Op (gi x7 x10).Text uh9 (((gi x7 x10).L).length) uha)) (x := gi x7 x10) (kT38_close ⟨[.i ((gi x7 x10).Op)], [.string ((gi x7 x10).Text), .slice uh9 (((gi x7 x10).L).length) uha], rfl, rfl, ⟨[.string ((gi x7 x10).Text)], [.slice uh9 (((gi x7 x10).L).length) uha], rfl, rfl, ⟨_, _, rfl, uhb⟩⟩⟩) Els.nil)
    refine Op_.made (.buildSlice 37 1 #[(0, (.tmp 90))]) 91 37 (fun b => .slice (Gp (some b)) 1 1) 39 ((wT29 (gi x7 x10).Op (gi x7 x10).Text uh9 (((gi x7 x10).L).length) uha) : List Value) p1 Goes.v (by kernel_rfl) fun uhd w15 z15 p15 => ?_
    have p15 : Hp nz wz S1 w15 (((some uhd), .row 39 ((wT29 (gi x7 x10).Op (gi x7 x10).Text uh9 (((gi x7 x10).L).length) uha) : List Value) (1 * kT38.size) 0) :: (some gx4, .row 39 (wT29 x4v.Op x4v.Text (Gp u9e) x4v.L.length u9g) 3 0) :: (u9e, .row 39 u9h (u9g * kT38.size) 0) :: ((some uh5), .row 39 u4t (cx7 * kT38.size) 0) :: (Gx9, .row 39 ug6 (cx9 * kT38.size) 0) :: Lr) := p15
    refine Gg h fun uhe h => ?_
    refine Op_.ap_n (K := kT38) 37 (.tmp 86) (.tmp 91) 92 37 39 4 (.agg #[.i 0, .string ⟨#[]⟩, .slice none 0 0]) 48 x9.length cx9 1 x9 [gi x7 x10] (x9 ++ [gi x7 x10]) (Gp (some uhd)) 1 rfl rfl rfl p15 rfl (fx9.ext z15) Goes.v (by kernel_rfl) (by kernel_rfl) (by kernel_rfl) (by kernel_rfl) rfl (by decide) (uhc.ext z15) (src_own p15 (q := 0) rfl) (by have := uhe; omega) (by have := uhe; omega) fun w16 uhf uhg uhh z16 p16 uhi => ?_
    refine Gn 2 [(9, .slice (Gp uhf) ((x9 ++ [gi x7 x10]).length) uhg)] Jp4 ?_
    have p16 := p16.dp 0
    exact Gj 107 [(0, .i x0), (4, (pt gx4 0)), (5, .i x5), (6, .i x6), (7, .slice (Gp (some uh5)) x7.length cx7), (9, .slice (Gp uhf) ((x9 ++ [gi x7 x10]).length) uhg), (10, .i x10)] (ugd _ _ h _ _ ((hx.t z15).t z16) _ _ _ _ _ (some uh5) _ _ _ _ _ _ _ p16 (u9k.ext (z15.t z16)) rfl (fx7.ext (z15.t z16)) rfl uhi rfl)
 ·
  intro uhj uhk ⟨x0, x4v, x5, x6, x7, x9, x10⟩ r h S1 w1 hx gx4 u9e u9f u9g u9h Gx7 nx7 cx7 u4t Gx9 nx9 cx9 ug6 p1 u9k u9l fx7 lx7 fx9 lx9 junk
  try dsimp only at h
  subst u9l
  subst lx7
  subst lx9
  refine Gm 7 [([48], .i x10), ([49, 10], .i (wr .i64 (x10 + 1)))] Jp2 ?_
  exact Gj 107 [(0, .i x0), (4, (pt gx4 0)), (5, .i x5), (6, .i x6), (7, .slice (Gp Gx7) x7.length cx7), (9, .slice (Gp Gx9) x9.length cx9), (10, .i (wr .i64 (x10 + 1)))] (uhk _ _ h _ _ hx _ _ _ _ _ _ _ _ _ _ _ _ _ p1 u9k rfl fx7 rfl fx9 rfl)
 ·
  intro ug7 ug8 ⟨x0, x4v, x5, x6, x7, x9, x10, x11, x12⟩ r h S1 w1 hx gx4 u9e u9f u9g u9h Gx7 nx7 cx7 u4t Gx9 nx9 cx9 ug6 p1 u9k u9l fx7 lx7 fx9 lx9 junk
  try dsimp only at h
  subst u9l
  subst lx7
  subst lx9
  refine Gm 7 [([70], .i x12), ([71, 12], .i (wr .i64 (x12 + 1)))] Jp8 ?_
  exact Gj 107 [(0, .i x0), (4, (pt gx4 0)), (5, .i x5), (6, .i x6), (7, .slice (Gp Gx7) x7.length cx7), (9, .slice (Gp Gx9) x9.length cx9), (10, .i x10), (11, .bool x11), (12, .i (wr .i64 (x12 + 1)))] (ug8 _ _ h _ _ hx _ _ _ _ _ _ _ _ _ _ _ _ _ p1 u9k rfl fx7 rfl fx9 rfl)

theorem W.z3y {nz wz S0 w0 Lr} : ∀ a r, M.ah a = some r → (L.z3y nz wz S0 w0 Lr) a r := (W.z42).1

theorem W.z3z {nz wz S0 w0 Lr} : ∀ a r, M.a2v a = some r → (L.z3z nz wz S0 w0 Lr) a r := (W.z42).2.1

theorem W.z41 {nz wz S0 w0 Lr} : ∀ a r, M.a59 a = some r → (L.z41 nz wz S0 w0 Lr) a r := (W.z42).2.2.1

theorem W.z40 {nz wz S0 w0 Lr} : ∀ a r, M.a58 a = some r → (L.z40 nz wz S0 w0 Lr) a r := (W.z42).2.2.2

def Qk1 := Yq 111110100 B124
def Jq3 := Zl Qk1 (Zb 0 (Ys 111111 B124 []))
def Jq4 := Zc Qk1 Jq3
def Jq6 := Zb 1 (Ys 11111010011 B124 Jq3)
def Jq9 := Ys 1111101001001 B124 Jq6
def Qk6 := Yq 1111101001000 B124
def Qk7 := Yq 11111010010010 B124

def L.z43 : Int × (List T38) × T38 × Int × Int × (List T38) × Int → T38 → Prop := fun ⟨x0, x1, x4v, x5, x6, x7, x8⟩ r => ∀ S1 w1, Ext S0 w0 S1 w1 → ∀ Ax1 nx1 cx1 gx4 u9e u9f u9g u9h Gx7 nx7 cx7 u4t (_ : Hp nz wz S1 w1 ((some gx4, .row 39 (wT29 x4v.Op x4v.Text (Gp u9e) u9f u9g) 3 0) :: (u9e, .row 39 u9h (u9g * kT38.size) 0) :: (Gx7, .row 39 u4t (cx7 * kT38.size) 0) :: Lr)) (_ : Rd kT38 S1 w1 Ax1 cx1 x1) (_ : x1.length = nx1) (_ : Els kT38 S1 w1 u9h x4v.L) (_ : x4v.L.length = u9f) (_ : Els kT38 S1 w1 u4t x7) (_ : x7.length = nx7) (junk : Nat → Value),
 Goes Tryz.prog (base 124) Jq4 ⟨lfr 107 [(0, .i x0), (1, .slice Ax1 nx1 cx1), (4, (pt gx4 0)), (5, .i x5), (6, .i x6), (7, .slice (Gp Gx7) nx7 cx7), (8, .i x8)] junk, []⟩ w1 (Done Tryz.prog 124 (Rets (Post.z3x nz wz S0 w0 Lr r)))

def L.z44 : Int × (List T38) × T38 × Int × Int × (List T38) × Int → T38 → Prop := fun ⟨x0, x1, x4v, x5, x6, x7, x8⟩ r => ∀ S1 w1, Ext S0 w0 S1 w1 → ∀ Ax1 nx1 cx1 gx4 u9e u9f u9g u9h Gx7 nx7 cx7 u4t (_ : Hp nz wz S1 w1 ((some gx4, .row 39 (wT29 x4v.Op x4v.Text (Gp u9e) u9f u9g) 3 0) :: (u9e, .row 39 u9h (u9g * kT38.size) 0) :: (Gx7, .row 39 u4t (cx7 * kT38.size) 0) :: Lr)) (_ : Rd kT38 S1 w1 Ax1 cx1 x1) (_ : x1.length = nx1) (_ : Els kT38 S1 w1 u9h x4v.L) (_ : x4v.L.length = u9f) (_ : Els kT38 S1 w1 u4t x7) (_ : x7.length = nx7) (junk : Nat → Value),
 Goes Tryz.prog (base 124) Jq6 ⟨lfr 107 [(0, .i x0), (1, .slice Ax1 nx1 cx1), (4, (pt gx4 0)), (5, .i x5), (6, .i x6), (7, .slice (Gp Gx7) nx7 cx7), (8, .i x8)] junk, []⟩ w1 (Done Tryz.prog 124 (Rets (Post.z3x nz wz S0 w0 Lr r)))

theorem W.z45 {nz wz S0 w0 Lr} : (∀ a r, M.a1o a = some r → (L.z43 nz wz S0 w0 Lr) a r) ∧ (∀ a r, M.a5a a = some r → (L.z44 nz wz S0 w0 Lr) a r) := by
 refine M.a1o.mutual_partial_correctness (L.z43 nz wz S0 w0 Lr) (L.z44 nz wz S0 w0 Lr) ?_ ?_
 ·
  intro uhl uhm ⟨x0, x1, x4v, x5, x6, x7, x8⟩ r h S1 w1 hx Ax1 nx1 cx1 gx4 u9e u9f u9g u9h Gx7 nx7 cx7 u4t p1 fx1 lx1 u9k u9l fx7 lx7 junk
  try dsimp only at h
  subst lx1
  subst u9l
  subst lx7
  refine Gn 8 [(16, .i x8), (17, .slice Ax1 x1.length cx1), (18, .i (x1.length : Int)), (19, .bool (decide (x8 < (x1.length : Int))))] (Ys 11111010001 B124 (Ys 1111101001 B124 Jq3)) ?_
  refine Gi h (fun h14 h => ?_) fun h14 h => ?_
  ·
   rw [dt h14]
   refine Gn 8 [(22, .slice Ax1 x1.length cx1), (23, .i x8)] (Zr Qk6 [2, 3, 4, 5, 6] Jq9) ?_
   refine Gg h fun g15 h => ?_
   refine Oi 37 (.tmp 22) (.tmp 23) 24 0 39 .i64 x8 (gi x1 x8) rfl rfl fx1 Goes.v g15 h14 fun a16 _ f17 q18 => ?_
   have q19 := q18
   obtain ⟨_, _, rfl, rfl, ⟨_, _, rfl, rfl, ⟨A20, c21, rfl, f22⟩⟩⟩ := kT38_open q19
   refine Gn 1 [(25, .pointer (some (Addr.add a16 0)))] (Zr Qk6 [4, 5, 6] Jq9) ?_
   refine Goes.ld 3 (.tmp 25) 26 3 (Addr.add a16 0) (.i ((gi x1 x8).Op)) ((Cs.left (us := [.i ((gi x1 x8).Op)]) (vs := [.string ((gi x1 x8).Text), .slice A20 (((gi x1 x8).L).length) c21]) (Cs.add (us := []) (vs := (wT29 (gi x1 x8).Op (gi x1 x8).Text A20 (((gi x1 x8).L).length) c21)) f17)).cell 0 _ rfl) ?_
   refine Gn 3 [(27, .i x0), (28, .bool (decide ((gi x1 x8).Op = x0)))] Jq9 ?_
   refine Gi h (fun h23 h => ?_) fun h23 h => ?_
   ·
    rw [dt h23]
    refine Gn 5 [(29, .slice (Gp Gx7) x7.length cx7), (30, .slice Ax1 x1.length cx1), (31, .i x8)] (Zr Qk7 [3, 4, 5, 6, 7] Jq6) ?_
    refine Oi 37 (.tmp 30) (.tmp 31) 32 0 39 .i64 x8 (gi x1 x8) rfl rfl fx1 Goes.v g15 h14 fun a24 _ f25 q26 => ?_
    have q27 := q26
    obtain ⟨_, _, rfl, rfl, ⟨_, _, rfl, rfl, ⟨A28, c29, rfl, f30⟩⟩⟩ := kT38_open q27
    refine Gn 1 [(33, .pointer (some (Addr.add a24 2)))] (Zr Qk7 [5, 6, 7] Jq6) ?_
    refine Goes.ld 37 (.tmp 33) 34 37 (Addr.add a24 2) (.slice A28 (((gi x1 x8).L).length) c29) ((Cs.left (us := [.slice A28 (((gi x1 x8).L).length) c29]) (vs := []) (Cs.add (us := [.i ((gi x1 x8).Op), .string ((gi x1 x8).Text)]) (vs := [.slice A28 (((gi x1 x8).L).length) c29]) f25)).cell 0 _ rfl) ?_
    obtain ⟨uhn, f32, f33⟩ := src_rd f30
    refine Gg h fun g34 h => ?_
    refine On (K := kT38) 37 (.tmp 29) (.tmp 34) 35 37 39 2 (.agg #[.i 0, .string ⟨#[]⟩, .slice none 0 0]) 48 x7.length cx7 (((gi x1 x8).L).length) x7 ((gi x1 x8).L) (x7 ++ (gi x1 x8).L) A28 c29 rfl rfl rfl p1 rfl fx7 Goes.v f32 f33 g34 fun w4 G35 c36 uho z4 p4 f38 => ?_
    refine Gn 2 [(7, .slice (Gp G35) ((x7 ++ (gi x1 x8).L).length) c36)] Jq6 ?_
    exact Gj 107 [(0, .i x0), (1, .slice Ax1 x1.length cx1), (4, (pt gx4 0)), (5, .i x5), (6, .i x6), (7, .slice (Gp G35) ((x7 ++ (gi x1 x8).L).length) c36), (8, .i x8)] (uhm _ _ h _ _ (hx.t z4) _ _ _ _ _ _ _ _ _ _ _ _ p4 (fx1.ext z4) rfl (u9k.ext z4) rfl f38 rfl)
   ·
    rw [df h23]
    refine Gn 5 [(36, .slice (Gp Gx7) x7.length cx7), (37, .slice Ax1 x1.length cx1), (38, .i x8)] (Yt 11111010010011 B124 [3, 4, 5, 6, 7] Jq6) ?_
    refine Oi 37 (.tmp 37) (.tmp 38) 39 0 39 .i64 x8 (gi x1 x8) rfl rfl fx1 Goes.v g15 h14 fun a42 _ f43 q44 => ?_
    have q45 := q44
    obtain ⟨_, _, rfl, rfl, ⟨_, _, rfl, rfl, ⟨A46, c47, rfl, f48⟩⟩⟩ := kT38_open q45
    refine Goes.ldN 39 (.tmp 39) 40 39 a42 ([.i ((gi x1 x8).Op)] ++ ([.string ((gi x1 x8).Text)] ++ [.slice A46 (((gi x1 x8).L).length) c47])) (f43.cell) ?_
    have f50 : Els kT38 S1 w1 ((wT29 (gi x1 x8).Op (gi x1 x8).Text A46 (((gi x1 x8).L).length) c47) : List Value) [gi x1 x8] := by exact (Els.cons (K := kT38) (vs := (wT29 (gi x1 x8).Op (gi x1 x8).Text A46 (((gi x1 x8).L).length) c47)) (x := gi x1 x8) (kT38_close ⟨[.i ((gi x1 x8).Op)], [.string ((gi x1 x8).Text), .slice A46 (((gi x1 x8).L).length) c47], rfl, rfl, ⟨[.string ((gi x1 x8).Text)], [.slice A46 (((gi x1 x8).L).length) c47], rfl, rfl, ⟨_, _, rfl, f48⟩⟩⟩) Els.nil)
    refine Om (.buildSlice 37 1 #[(0, (.tmp 40))]) 41 37 (fun b => .slice (Gp (some b)) 1 1) 39 ((wT29 (gi x1 x8).Op (gi x1 x8).Text A46 (((gi x1 x8).L).length) c47) : List Value) (1 * kT38.size) p1 Goes.v fun b49 w5 z5 p5 => ?_
    refine Gg h fun g55 h => ?_
    refine On (K := kT38) 37 (.tmp 36) (.tmp 41) 42 37 39 3 (.agg #[.i 0, .string ⟨#[]⟩, .slice none 0 0]) 48 x7.length cx7 1 x7 [gi x1 x8] (x7 ++ [gi x1 x8]) (Gp (some b49)) 1 rfl rfl rfl p5 rfl (fx7.ext z5) Goes.v (f50.ext z5) (src_own p5 (q := 0) rfl) g55 fun w6 G56 c57 uhp z6 p6 f59 => ?_
    refine Gn 2 [(7, .slice (Gp G56) ((x7 ++ [gi x1 x8]).length) c57)] Jq6 ?_
    have p6 := p6.dp 0
    exact Gj 107 [(0, .i x0), (1, .slice Ax1 x1.length cx1), (4, (pt gx4 0)), (5, .i x5), (6, .i x6), (7, .slice (Gp G56) ((x7 ++ [gi x1 x8]).length) c57), (8, .i x8)] (uhm _ _ h _ _ ((hx.t z5).t z6) _ _ _ _ _ _ _ _ _ _ _ _ p6 (fx1.ext (z5.t z6)) rfl (u9k.ext (z5.t z6)) rfl f59 rfl)
  ·
   rw [df h14]
   refine Gn 4 [] (Yt 1111110 B124 [0, 1] (Ys 1111111 B124 [])) ?_
   have f61 : Els kT38 S1 w1 ([] : List Value) ([] : List T38) := by exact Els.nil
   refine Om (.buildSlice 37 0 #[]) 43 37 (fun b => .slice (Gp (some b)) 0 0) 39 ([] : List Value) (0 * kT38.size) p1 Goes.v fun b60 w7 z7 p7 => ?_
   refine Gn 9 [(9, .slice (Gp (some b60)) 0 0), (10, .i 0)] Jp2 ?_
   have p7 := (((p7.fr 0).fr 3).fr 3).fr 3
   exact Gj 107 [(0, .i x0), (4, (pt gx4 0)), (5, .i x5), (6, .i x6), (7, .slice (Gp Gx7) x7.length cx7), (9, .slice (Gp (some b60)) 0 0), (10, .i 0)] (W.z3y _ _ h _ _ (hx.t z7) _ _ _ _ _ _ _ _ _ (some b60) 0 0 _ p7 (u9k.ext z7) rfl (fx7.ext z7) rfl (f61.ext z7) rfl)
 ·
  intro uhq uhr ⟨x0, x1, x4v, x5, x6, x7, x8⟩ r h S1 w1 hx Ax1 nx1 cx1 gx4 u9e u9f u9g u9h Gx7 nx7 cx7 u4t p1 fx1 lx1 u9k u9l fx7 lx7 junk
  try dsimp only at h
  subst lx1
  subst u9l
  subst lx7
  refine Gm 7 [([20], .i x8), ([21, 8], .i (wr .i64 (x8 + 1)))] Jq4 ?_
  exact Gj 107 [(0, .i x0), (1, .slice Ax1 x1.length cx1), (4, (pt gx4 0)), (5, .i x5), (6, .i x6), (7, .slice (Gp Gx7) x7.length cx7), (8, .i (wr .i64 (x8 + 1)))] (uhr _ _ h _ _ hx _ _ _ _ _ _ _ _ _ _ _ _ p1 fx1 rfl u9k rfl fx7 rfl)

theorem W.z43 {nz wz S0 w0 Lr} : ∀ a r, M.a1o a = some r → (L.z43 nz wz S0 w0 Lr) a r := (W.z45).1

theorem W.z44 {nz wz S0 w0 Lr} : ∀ a r, M.a5a a = some r → (L.z44 nz wz S0 w0 Lr) a r := (W.z45).2

def Jqh := Ys 1111 B124 []

def L.z46 : Int × (List T38) × T38 × Int × Int → T38 → Prop := fun ⟨x0, x1, x4v, x5, x6⟩ r => ∀ S1 w1, Ext S0 w0 S1 w1 → ∀ Ax1 nx1 cx1 gx4 u9e u9f u9g u9h (_ : Hp nz wz S1 w1 ((some gx4, .row 39 (wT29 x4v.Op x4v.Text (Gp u9e) u9f u9g) 3 0) :: (u9e, .row 39 u9h (u9g * kT38.size) 0) :: Lr)) (_ : Rd kT38 S1 w1 Ax1 cx1 x1) (_ : x1.length = nx1) (_ : Els kT38 S1 w1 u9h x4v.L) (_ : x4v.L.length = u9f) (junk : Nat → Value),
 Goes Tryz.prog (base 124) Jqh ⟨lfr 107 [(0, .i x0), (1, .slice Ax1 nx1 cx1), (4, (pt gx4 0)), (5, .i x5), (6, .i x6)] junk, []⟩ w1 (Done Tryz.prog 124 (Rets (Post.z3x nz wz S0 w0 Lr r)))

theorem W.z46 {nz wz S0 w0 Lr} : ∀ a r, M.a5b a = some r → L.z46 nz wz S0 w0 Lr a r := by
 intro ⟨x0, x1, x4v, x5, x6⟩ r h S1 w1 hx Ax1 nx1 cx1 gx4 u9e u9f u9g u9h p1 fx1 lx1 u9k u9l junk
 rw [M.a5b] at h
 try dsimp only at h
 subst lx1
 subst u9l
 refine Gn 2 [] (Yt 11110 B124 [0, 1] (Ys 11111 B124 [])) ?_
 have f9 : Els kT38 S1 w1 ([] : List Value) ([] : List T38) := by exact Els.nil
 refine Om (.buildSlice 37 0 #[]) 15 37 (fun b => .slice (Gp (some b)) 0 0) 39 ([] : List Value) (0 * kT38.size) p1 Goes.v fun b8 w3 z3 p3 => ?_
 refine Gn 9 [(7, .slice (Gp (some b8)) 0 0), (8, .i 0)] Jq4 ?_
 have p3 := ((p3.fr 0).fr 2).fr 2
 exact Gj 107 [(0, .i x0), (1, .slice Ax1 x1.length cx1), (4, (pt gx4 0)), (5, .i x5), (6, .i x6), (7, .slice (Gp (some b8)) 0 0), (8, .i 0)] (W.z43 _ _ h _ _ (hx.t z3) _ _ _ _ _ _ _ _ (some b8) 0 0 _ p3 (fx1.ext z3) rfl (u9k.ext z3) rfl (f9.ext z3) rfl)


theorem W.z3x (x0 : Int) (x1 : List T38) (r : T38) (h : M.a2w x0 x1 = some r) {nz wz S0 w0 Lr} (Ax1 nx1 cx1) (p0 : Hp nz wz S0 w0 (Lr)) (fx1 : Rd kT38 S0 w0 Ax1 cx1 x1) (lx1 : x1.length = nx1) :
  Calls Tryz.prog 124 #[.i x0, .slice Ax1 nx1 cx1] w0 (Rets (Post.z3x nz wz S0 w0 Lr r)) := by
 subst lx1
 refine Zf Tryz.f124 B124 105 ?_
 refine Gj 107 [(0, .i x0), (1, .slice Ax1 x1.length cx1)] fun junk => ?_
 delta M.a2w at h
 refine Gn 2 [] (Yt 10 B124 [0] (Ys 11 B124 [])) ?_
 refine Oa 39 4 0 (.agg #[.i 0, .string (⟨#[]⟩ : ByteArray), .slice none 0 0]) [.i 0, .string (⟨#[]⟩ : ByteArray), .slice none 0 0] p0 Goes.v fun b1 w2 z2 p2 => ?_
 refine Gn 12 [(5, .i 0), (6, .i 1), (13, .i x0), (14, .bool (decide (x0 = 4)))] (Ys 11101 B124 Jqh) ?_
 refine Gi h (fun h3 h => ?_) fun h3 h => ?_
 ·
  rw [dt h3]
  refine Gn 5 [(5, .i 1), (6, .i 0)] Jqh ?_
  have p2 : Hp nz wz S0 w2 ((none, .row 39 [] (0 * kT38.size) 0) :: (some b1, .row 39 [.i 0, .string (⟨#[]⟩ : ByteArray), .slice none 0 0] 3 0) :: Lr) := p2.nilRow' 39
  have p2 := (p2.fr 0).fr 1
  exact Gj 107 [(0, .i x0), (1, .slice Ax1 x1.length cx1), (4, (pt b1 0)), (5, .i 1), (6, .i 0)] (W.z46 _ _ h _ _ z2 _ _ _ _ none 0 0 [] p2 (fx1.ext z2) rfl (Els.nil (K := kT38)) rfl)
 ·
  rw [df h3]
  refine Gn 2 [] Jqh ?_
  have p2 : Hp nz wz S0 w2 ((none, .row 39 [] (0 * kT38.size) 0) :: (some b1, .row 39 [.i 0, .string (⟨#[]⟩ : ByteArray), .slice none 0 0] 3 0) :: Lr) := p2.nilRow' 39
  have p2 := (p2.fr 0).fr 1
  exact Gj 107 [(0, .i x0), (1, .slice Ax1 x1.length cx1), (4, (pt b1 0)), (5, .i 0), (6, .i 1)] (W.z46 _ _ h _ _ z2 _ _ _ _ none 0 0 [] p2 (fx1.ext z2) rfl (Els.nil (K := kT38)) rfl)

def Qki := Yq 1110100 B122
def Jqp := Zl Qki (Zb 0 (Ys 1111 B122 []))
def Jqq := Zc Qki Jqp
def Jqs := Zb 1 (Ys 111010011 B122 Jqp)
def Qkk := Yq 1110100100111 B122
def Qkl := Yq 1110100100110100 B122
def Jqv := Zl Qkl (Zb 2 (Zc Qkk Jqs))
def Jqw := Zc Qkl Jqv
def Jr3 := Ys 11111 B122 []
def Jr8 := Zb 3 (Ys 111010010011010011 B122 Jqv)
def Qkx := Yq 1110100100110100100 B122

def Post.z47 (r : T38) (v : Value) (w' : World) : Prop :=
 ∃ S' u9d u1 u2, v = (ag (wT29 r.Op r.Text u9d u1 u2)) ∧ Ext S0 w0 S' w' ∧ Hp nz wz S' w' (Lr) ∧ Rd kT38 S' w' u9d u2 r.L ∧ r.L.length = u1

def L.z48 : (List ByteArray) × T38 × (List T38) × Int → T38 → Prop := fun ⟨x0, x2v, x3, x4⟩ r => ∀ S1 w1, Ext S0 w0 S1 w1 → ∀ Ax0 nx0 cx0 gx2 u9q u8q u8r u9r Gx3 nx3 cx3 u2l (_ : Hp nz wz S1 w1 ((some gx2, .row 39 (wT29 x2v.Op x2v.Text (Gp u9q) u8q u8r) 3 0) :: (u9q, .row 39 u9r (u8r * kT38.size) 0) :: (Gx3, .row 39 u2l (cx3 * kT38.size) 0) :: Lr)) (_ : Rd kStr S1 w1 Ax0 cx0 x0) (_ : x0.length = nx0) (_ : Els kT38 S1 w1 u9r x2v.L) (_ : x2v.L.length = u8q) (_ : Els kT38 S1 w1 u2l x3) (_ : x3.length = nx3) (junk : Nat → Value),
 Goes Tryz.prog (base 122) Jqq ⟨lfr 42 [(0, .slice Ax0 nx0 cx0), (2, (pt gx2 0)), (3, .slice (Gp Gx3) nx3 cx3), (4, .i x4)] junk, []⟩ w1 (Done Tryz.prog 122 (Rets (Post.z47 nz wz S0 w0 Lr r)))

def L.z49 : (List ByteArray) × T38 × (List T38) × Int × (List ByteArray) × (List T38) × Int → T38 → Prop := fun ⟨x0, x2v, x3, x4, x5, x6, x7⟩ r => ∀ S1 w1, Ext S0 w0 S1 w1 → ∀ Ax0 nx0 cx0 gx2 u9q u8q u8r u9r Gx3 nx3 cx3 u2l Gx5 nx5 cx5 u3a Gx6 nx6 cx6 u4a (_ : Hp nz wz S1 w1 ((some gx2, .row 39 (wT29 x2v.Op x2v.Text (Gp u9q) u8q u8r) 3 0) :: (u9q, .row 39 u9r (u8r * kT38.size) 0) :: (Gx3, .row 39 u2l (cx3 * kT38.size) 0) :: (Gx5, .row 9 u3a (cx5 * kStr.size) 0) :: (Gx6, .row 39 u4a (cx6 * kT38.size) 0) :: Lr)) (_ : Rd kStr S1 w1 Ax0 cx0 x0) (_ : x0.length = nx0) (_ : Els kT38 S1 w1 u9r x2v.L) (_ : x2v.L.length = u8q) (_ : Els kT38 S1 w1 u2l x3) (_ : x3.length = nx3) (_ : Els kStr S1 w1 u3a x5) (_ : x5.length = nx5) (_ : Els kT38 S1 w1 u4a x6) (_ : x6.length = nx6) (junk : Nat → Value),
 Goes Tryz.prog (base 122) Jqw ⟨lfr 42 [(0, .slice Ax0 nx0 cx0), (2, (pt gx2 0)), (3, .slice (Gp Gx3) nx3 cx3), (4, .i x4), (5, .slice (Gp Gx5) nx5 cx5), (6, .slice (Gp Gx6) nx6 cx6), (7, .i x7)] junk, []⟩ w1 (Done Tryz.prog 122 (Rets (Post.z47 nz wz S0 w0 Lr r)))

theorem W.z4a {nz wz S0 w0 Lr} : (∀ a r, M.a2x a = some r → (L.z48 nz wz S0 w0 Lr) a r) ∧ (∀ a r, M.a42 a = some r → (L.z49 nz wz S0 w0 Lr) a r) := by
 refine M.a2x.mutual_partial_correctness (L.z48 nz wz S0 w0 Lr) (L.z49 nz wz S0 w0 Lr) ?_ ?_
 ·
  intro uhs uht ⟨x0, x2v, x3, x4⟩ r h S1 w1 hx Ax0 nx0 cx0 gx2 u9q u8q u8r u9r Gx3 nx3 cx3 u2l p1 fx0 lx0 u8s u8t fx3 lx3 junk
  try dsimp only at h
  subst lx0
  subst u8t
  subst lx3
  refine Gn 8 [(9, .i x4), (10, .slice Ax0 x0.length cx0), (11, .i (x0.length : Int)), (12, .bool (decide (x4 < (x0.length : Int))))] (Ys 111010001 B122 (Ys 11101001 B122 Jqp)) ?_
  refine Gi h (fun h10 h => ?_) fun h10 h => ?_
  ·
   rw [dt h10]
   refine Gn 8 [(15, .slice Ax0 x0.length cx0), (16, .i x4)] (Yt 11101001000 B122 [2, 3, 4, 5] (Ys 11101001001 B122 Jqs)) ?_
   refine Gg h fun g11 h => ?_
   refine Oi 43 (.tmp 15) (.tmp 16) 17 0 9 .i64 x4 (gi x0 x4) rfl rfl fx0 Goes.v g11 h10 fun a12 _ f13 q14 => ?_
   obtain rfl := q14
   refine Goes.ld 9 (.tmp 17) 18 9 a12 (.string (gi x0 x4)) (f13.cell 0 _ rfl) ?_
   refine Gb h fun y15 e16 h => ?_
   refine Gc (kc 17 [18] #[9]) 19 43 17 _ (W.z3r (gi x0 x4) y15 e16  p1 ) ?_
   rintro _ w4 ⟨S4, ua3, ua4, ua5, ua6, rfl, z4, p4, ua7, rfl⟩
   refine Gn 4 [(5, .slice (Gp ua3) y15.length ua5)] (Yt 111010010010 B122 [0, 1] (Ys 111010010011 B122 Jqs)) ?_
   have f19 : Els kT38 S4 w4 ([] : List Value) ([] : List T38) := by exact Els.nil
   refine Om (.buildSlice 37 0 #[]) 20 37 (fun b => .slice (Gp (some b)) 0 0) 39 ([] : List Value) (0 * kT38.size) p4 Goes.v fun b18 w5 z5 p5 => ?_
   refine Gn 9 [(6, .slice (Gp (some b18)) 0 0), (7, .i 0)] Jqw ?_
   have p5 := ((((p5.fr 0).fr 1).fr 4).fr 4).fr 4
   exact Gj 42 [(0, .slice Ax0 x0.length cx0), (2, (pt gx2 0)), (3, .slice (Gp Gx3) x3.length cx3), (4, .i x4), (5, .slice (Gp ua3) y15.length ua5), (6, .slice (Gp (some b18)) 0 0), (7, .i 0)] (uht _ _ h _ _ ((hx.t z4).t z5) _ _ _ _ _ _ _ _ _ _ _ _ _ _ _ _ (some b18) 0 0 _ p5 (fx0.ext (z4.t z5)) rfl (u8s.ext (z4.t z5)) rfl (fx3.ext (z4.t z5)) rfl (ua7.ext z5) rfl (f19.ext z5) rfl)
  ·
   rw [df h10]
   refine Gn 5 [(40, .slice (Gp Gx3) x3.length cx3)] (Yt 11110 B122 [1, 2] Jr3) ?_
   obtain ⟨S6, z6, p6, f26⟩ := p1.freezeRd 2 rfl fx3 (by decide)
   refine Gb h fun y27 e28 h => ?_
   refine Gc (.call { callee := .value (.func 124), args := #[(.const (.int .i64 4)), (.tmp 40)], argTypes := #[3, 37] }) 41 39 124 _ (W.z3x 4 x3 y27 e28 _ _ _ p6 f26 rfl) ?_
   rintro _ w7 ⟨S7, ubh, ubi, ubj, rfl, z7, p7, ubk, rfl⟩
   have p7 := p7.dp 2
   refine So 39 (.tmp 2) (.tmp 41) 0 0 gx2 0 ((ag (wT29 y27.Op y27.Text ubh y27.L.length ubj))) (wT29 y27.Op y27.Text ubh y27.L.length ubj) p7 rfl Goes.s fun w8 z8 p8 => ?_
   refine Gn 1 [] Jr3 ?_
   obtain rfl := sj h
   have p8 := p8.dp 1
   exact R1 Tryz.f122 (.cell 2 39) ((ag (wT29 y27.Op y27.Text ubh y27.L.length ubj))) (Rn gx2 (p8.pa 0 0)) ⟨_, _, _, _, rfl, (((hx.t z6).t z7).t z8), p8.drop, (ubk.ext z8), rfl⟩
 ·
  intro uhu uhs uhv uht ⟨x0, x2v, x3, x4, x5, x6, x7⟩ r h S1 w1 hx Ax0 nx0 cx0 gx2 u9q u8q u8r u9r Gx3 nx3 cx3 u2l Gx5 nx5 cx5 u3a Gx6 nx6 cx6 u4a p1 fx0 lx0 u8s u8t fx3 lx3 fx5 lx5 fx6 lx6 junk
  try dsimp only at h
  subst lx0
  subst u8t
  subst lx3
  subst lx5
  subst lx6
  refine Gn 8 [(21, .i x7), (22, .slice (Gp Gx5) x5.length cx5), (23, .i (x5.length : Int)), (24, .bool (decide (x7 < (x5.length : Int))))] (Ys 111010010011010001 B122 (Ys 11101001001101001 B122 Jqv)) ?_
  refine Gi h (fun h29 h => ?_) fun h29 h => ?_
  ·
   rw [dt h29]
   refine Gn 8 [(27, .slice (Gp Gx6) x6.length cx6), (28, .slice (Gp Gx5) x5.length cx5), (29, .i x7)] (Zr Qkx [3, 4, 5, 6, 7, 8] Jr8) ?_
   refine Gg h fun g30 h => ?_
   refine Op_.ixO_n 43 (.tmp 28) (.tmp 29) 30 0 9 .i64 x7 3 x5.length cx5 (gi x5 x7) rfl rfl p1 rfl fx5 Goes.v (by kernel_rfl) (by kernel_rfl) (by kernel_rfl) (by kernel_rfl) (by decide) g30 h29 ?_
   rintro b31 _ rfl q33 f32
   obtain rfl := q33
   refine Goes.ld 9 (.tmp 30) 31 9 ⟨b31, (x7 : Int).toNat * kStr.size, none⟩ (.string (gi x5 x7)) (f32 0 _ rfl) ?_
   refine Gn 1 [(32, .agg #[.i 2, .string (gi x5 x7), .slice none 0 0])] (Zr Qkx [6, 7, 8] Jr8) ?_
   have f36 : Els kT38 S1 w1 ([.i 2, .string (gi x5 x7), .slice none 0 0] : List Value) [(⟨2, gi x5 x7, ([] : List T38)⟩ : T38)] := by exact (Els.cons (K := kT38) (vs := [.i 2, .string (gi x5 x7), .slice none 0 0]) (x := (⟨2, gi x5 x7, ([] : List T38)⟩ : T38)) (kT38_close ⟨[.i 2], [.string (gi x5 x7), .slice none 0 0], rfl, rfl, ⟨[.string (gi x5 x7)], [.slice none 0 0], rfl, rfl, ⟨none, 0, rfl, Rd.none_⟩⟩⟩) Els.nil)
   refine Om (.buildSlice 37 1 #[(0, (.tmp 32))]) 33 37 (fun b => .slice (Gp (some b)) 1 1) 39 ([.i 2, .string (gi x5 x7), .slice none 0 0] : List Value) (1 * kT38.size) p1 Goes.v fun b35 w9 z9 p9 => ?_
   refine Gl h fun v41 e42 h => ?_
   refine Gg h fun g43 h => ?_
   refine On (K := kT38) 37 (.tmp 27) (.tmp 33) 34 37 39 5 (.agg #[.i 0, .string ⟨#[]⟩, .slice none 0 0]) 48 x6.length cx6 1 x6 [(⟨2, gi x5 x7, ([] : List T38)⟩ : T38)] v41 (Gp (some b35)) 1 rfl rfl e42 p9 rfl (fx6.ext z9) Goes.v (f36.ext z9) (src_own p9 (q := 0) rfl) g43 fun w10 G44 c45 uhw z10 p10 f47 => ?_
   refine Gm 9 [([6], .slice (Gp G44) v41.length c45), ([25], .i x7), ([26, 7], .i (wr .i64 (x7 + 1)))] Jqw ?_
   have p10 := p10.dp 0
   exact Gj 42 [(0, .slice Ax0 x0.length cx0), (2, (pt gx2 0)), (3, .slice (Gp Gx3) x3.length cx3), (4, .i x4), (5, .slice (Gp (some b31)) x5.length cx5), (6, .slice (Gp G44) v41.length c45), (7, .i (wr .i64 (x7 + 1)))] (uht _ _ h _ _ ((hx.t z9).t z10) _ _ _ _ _ _ _ _ _ _ _ _ (some b31) _ _ _ _ _ _ _ p10 (fx0.ext (z9.t z10)) rfl (u8s.ext (z9.t z10)) rfl (fx3.ext (z9.t z10)) rfl (fx5.ext (z9.t z10)) rfl f47 rfl)
  ·
   rw [df h29]
   refine Gn 5 [(35, .slice (Gp Gx3) x3.length cx3), (36, .slice (Gp Gx6) x6.length cx6)] (Zr Qkk [2, 3, 4, 5] Jqs) ?_
   obtain ⟨S11, z11, p11, f48⟩ := p1.freezeRd 4 rfl fx6 (by decide)
   refine Gb h fun y49 e50 h => ?_
   refine Gc (.call { callee := .value (.func 124), args := #[(.const (.int .i64 3)), (.tmp 36)], argTypes := #[3, 37] }) 37 39 124 _ (W.z3x 3 x6 y49 e50 _ _ _ p11 f48 rfl) ?_
   rintro _ w12 ⟨S12, uhx, uhy, uhz, rfl, z12, p12, ui0, rfl⟩
   have p12 := (p12.dp 3).dp 3
   have f52 : Els kT38 S12 w12 ((wT29 y49.Op y49.Text uhx y49.L.length uhz) : List Value) [y49] := by exact (Els.cons (K := kT38) (vs := (wT29 y49.Op y49.Text uhx y49.L.length uhz)) (x := y49) (kT38_close ⟨[.i y49.Op], [.string y49.Text, .slice uhx y49.L.length uhz], rfl, rfl, ⟨[.string y49.Text], [.slice uhx y49.L.length uhz], rfl, rfl, ⟨_, _, rfl, ui0⟩⟩⟩) Els.nil)
   refine Om (.buildSlice 37 1 #[(0, (.tmp 37))]) 38 37 (fun b => .slice (Gp (some b)) 1 1) 39 ((wT29 y49.Op y49.Text uhx y49.L.length uhz) : List Value) (1 * kT38.size) p12 Goes.v fun b51 w13 z13 p13 => ?_
   refine Gg h fun g57 h => ?_
   refine On (K := kT38) 37 (.tmp 35) (.tmp 38) 39 37 39 3 (.agg #[.i 0, .string ⟨#[]⟩, .slice none 0 0]) 48 x3.length cx3 1 x3 [y49] (x3 ++ [y49]) (Gp (some b51)) 1 rfl rfl rfl p13 rfl (fx3.ext ((z11.t z12).t z13)) Goes.v (f52.ext z13) (src_own p13 (q := 0) rfl) g57 fun w14 G58 c59 ubu z14 p14 f61 => ?_
   refine Gm 9 [([3], .slice (Gp G58) ((x3 ++ [y49]).length) c59), ([13], .i x4), ([14, 4], .i (wr .i64 (x4 + 1)))] Jqq ?_
   have p14 := p14.dp 0
   exact Gj 42 [(0, .slice Ax0 x0.length cx0), (2, (pt gx2 0)), (3, .slice (Gp G58) ((x3 ++ [y49]).length) c59), (4, .i (wr .i64 (x4 + 1)))] (uhv _ _ h _ _ ((((hx.t z11).t z12).t z13).t z14) _ _ _ _ _ _ _ _ _ _ _ _ p14 (fx0.ext (((z11.t z12).t z13).t z14)) rfl (u8s.ext (((z11.t z12).t z13).t z14)) rfl f61 rfl)

theorem W.z48 {nz wz S0 w0 Lr} : ∀ a r, M.a2x a = some r → (L.z48 nz wz S0 w0 Lr) a r := (W.z4a).1

theorem W.z49 {nz wz S0 w0 Lr} : ∀ a r, M.a42 a = some r → (L.z49 nz wz S0 w0 Lr) a r := (W.z4a).2


theorem W.z47 (x0 : List ByteArray) (r : T38) (h : M.a1p x0 = some r) {nz wz S0 w0 Lr} (Ax0 nx0 cx0) (p0 : Hp nz wz S0 w0 (Lr)) (fx0 : Rd kStr S0 w0 Ax0 cx0 x0) (lx0 : x0.length = nx0) :
  Calls Tryz.prog 122 #[.slice Ax0 nx0 cx0] w0 (Rets (Post.z47 nz wz S0 w0 Lr r)) := by
 subst lx0
 refine Zf Tryz.f122 B122 41 ?_
 refine Gj 42 [(0, .slice Ax0 x0.length cx0)] fun junk => ?_
 delta M.a1p at h
 refine Gn 2 [] (Yt 10 B122 [0] (Ys 11 B122 [])) ?_
 refine Oa 39 2 0 (.agg #[.i 0, .string (⟨#[]⟩ : ByteArray), .slice none 0 0]) [.i 0, .string (⟨#[]⟩ : ByteArray), .slice none 0 0] p0 Goes.v fun b1 w2 z2 p2 => ?_
 refine Gn 3 [] (Yt 110 B122 [0, 1] (Ys 111 B122 [])) ?_
 have f4 : Els kT38 S0 w2 ([] : List Value) ([] : List T38) := by exact Els.nil
 refine Om (.buildSlice 37 0 #[]) 8 37 (fun b => .slice (Gp (some b)) 0 0) 39 ([] : List Value) (0 * kT38.size) p2 Goes.v fun b3 w3 z3 p3 => ?_
 refine Gn 9 [(3, .slice (Gp (some b3)) 0 0), (4, .i 0)] Jqq ?_
 have p3 : Hp nz wz S0 w3 ((none, .row 39 [] (0 * kT38.size) 0) :: ((some b3), .row 39 ([] : List Value) (0 * kT38.size) 0) :: (some b1, .row 39 [.i 0, .string (⟨#[]⟩ : ByteArray), .slice none 0 0] 3 0) :: Lr) := p3.nilRow' 39
 have p3 := ((p3.fr 1).fr 1).fr 2
 exact Gj 42 [(0, .slice Ax0 x0.length cx0), (2, (pt b1 0)), (3, .slice (Gp (some b3)) 0 0), (4, .i 0)] (W.z48 _ _ h _ _ (z2.t z3) _ _ _ _ none 0 0 [] (some b3) 0 0 _ p3 (fx0.ext (z2.t z3)) rfl (Els.nil (K := kT38)) rfl (f4.ext z3) rfl)

def Jrg := Ys 11111 B56 []
def Jrh := Zb 0 Jrg
def Ql4 := Yq 1111010100100 B56
def Jrk := Zl Ql4 (Zb 1 (Ys 1111010101 B56 Jrh))
def Jrl := Zc Ql4 Jrk
def Jrm := Zb 2 Jrk
def Ql5 := Yq 1111010100100101111 B56
def Ql6 := Yq 111101010010010111000 B56
def Jrp := Zl Ql6 (Zb 3 (Zc Ql5 Jrm))
def Jrq := Zc Ql6 Jrp
def Ql8 := Yq 111101011100100 B56
def Jrt := Zl Ql8 (Zb 5 (Ys 111101011101 B56 Jrh))
def Jru := Zc Ql8 Jrt
def Jrx := Ys 111 B56 []
def Js1 := Ys 1101101 B56 Jrx
def Jsa := Ys 11110101111101 B56 Jrh
def Jsc := Ys 1111010111110101 B56 Jrh
def Jse := Ys 111111 B56 []
def Jsf := Yt 111110 B56 [1] Jse
def Jsh := Ys 11110101110010001 B56 (Ys 1111010111001001 B56 Jrt)
def Jsk := Zb 6 (Ys 11110101110010011 B56 Jrt)
def Qly := Yq 111101011100100100 B56
def Jsn := Ys 1111010111011 B56 Jrh
def Jsq := Ys 111101010010001 B56 (Ys 11110101001001 B56 Jrk)
def Jss := Ys 1111010100100101 B56 Jrm
def Qm5 := Yq 1111010100100100 B56
def Jsv := Ys 11110101001001011 B56 Jrm
def Jsx := Ys 11110101001001010101 B56 Jsv
def Qm9 := Yq 11110101001001010100 B56
def Jt0 := Ys 11110101011 B56 Jrh
def Jt3 := Ys 11110101001001011100001 B56 (Ys 1111010100100101110001 B56 Jrp)
def Jt5 := Zb 4 Jrp
def Jt6 := Ys 111101010010010111000101 B56 Jt5
def Qmg := Yq 111101010010010111000100 B56
def Jtf := Zr Ql5 [2, 3, 4, 5] Jrm

def Post.z4b (r : T38) (v : Value) (w' : World) : Prop :=
 ∃ S' u9d u1 u2, v = (ag (wT29 r.Op r.Text u9d u1 u2)) ∧ Ext S0 w0 S' w' ∧ Hp nz wz S' w' (Lr) ∧ Rd kT38 S' w' u9d u2 r.L ∧ r.L.length = u1

def LF.z4b : T26 → T38 → Prop := fun x0 r => ∀ {nz wz S0 w0 Lr} u5 u6 u7 (_ : Hp nz wz S0 w0 (Lr)) (_ : x0.Set.length = 4) (_ : Rd kT26 S0 w0 u5 u7 x0.L) (_ : x0.L.length = u6),
 Calls Tryz.prog 56 #[(ag (vT26 x0 u5 u6 u7))] w0 (Rets (Post.z4b nz wz S0 w0 Lr r))

def L.z4c : T26 × T38 × (List T38) × Int → T38 → Prop := fun ⟨x1v, x2v, x5, x6⟩ r => ∀ S1 w1, Ext S0 w0 S1 w1 → ∀ gx1 u1z u20 u21 gx2 u9q u8q u8r u9r Gx5 nx5 cx5 u3a (_ : Hp nz wz S1 w1 ((some gx1, .row 27 (vT26 x1v u1z u20 u21) 8 0) :: (some gx2, .row 39 (wT29 x2v.Op x2v.Text (Gp u9q) u8q u8r) 3 0) :: (u9q, .row 39 u9r (u8r * kT38.size) 0) :: (Gx5, .row 39 u3a (cx5 * kT38.size) 0) :: Lr)) (_ : x1v.Set.length = 4) (_ : Rd kT26 S1 w1 u1z u21 x1v.L) (_ : x1v.L.length = u20) (_ : Els kT38 S1 w1 u9r x2v.L) (_ : x2v.L.length = u8q) (_ : Els kT38 S1 w1 u3a x5) (_ : x5.length = nx5) (junk : Nat → Value),
 Goes Tryz.prog (base 56) Jrl ⟨lfr 121 [(1, (pt gx1 0)), (2, (pt gx2 0)), (5, .slice (Gp Gx5) nx5 cx5), (6, .i x6)] junk, []⟩ w1 (Done Tryz.prog 56 (Rets (Post.z4b nz wz S0 w0 Lr r)))

def LL.z4c : T26 × T38 × (List T38) × Int → T38 → Prop := fun a r => ∀ {nz wz S0 w0 Lr}, L.z4c nz wz S0 w0 Lr a r

def L.z4d : T26 × T38 × (List T38) × Int × (List ByteArray) → T38 → Prop := fun ⟨x1v, x2v, x5, x6, x7⟩ r => ∀ S1 w1, Ext S0 w0 S1 w1 → ∀ gx1 u1z u20 u21 gx2 u9q u8q u8r u9r Gx5 nx5 cx5 u3a Gx7 nx7 cx7 u4t (_ : Hp nz wz S1 w1 ((some gx1, .row 27 (vT26 x1v u1z u20 u21) 8 0) :: (some gx2, .row 39 (wT29 x2v.Op x2v.Text (Gp u9q) u8q u8r) 3 0) :: (u9q, .row 39 u9r (u8r * kT38.size) 0) :: (Gx5, .row 39 u3a (cx5 * kT38.size) 0) :: (Gx7, .row 9 u4t (cx7 * kStr.size) 0) :: Lr)) (_ : x1v.Set.length = 4) (_ : Rd kT26 S1 w1 u1z u21 x1v.L) (_ : x1v.L.length = u20) (_ : Els kT38 S1 w1 u9r x2v.L) (_ : x2v.L.length = u8q) (_ : Els kT38 S1 w1 u3a x5) (_ : x5.length = nx5) (_ : Els kStr S1 w1 u4t x7) (_ : x7.length = nx7) (junk : Nat → Value),
 Goes Tryz.prog (base 56) Jrq ⟨lfr 121 [(1, (pt gx1 0)), (2, (pt gx2 0)), (5, .slice (Gp Gx5) nx5 cx5), (6, .i x6), (7, .slice (Gp Gx7) nx7 cx7)] junk, []⟩ w1 (Done Tryz.prog 56 (Rets (Post.z4b nz wz S0 w0 Lr r)))

def LL.z4d : T26 × T38 × (List T38) × Int × (List ByteArray) → T38 → Prop := fun a r => ∀ {nz wz S0 w0 Lr}, L.z4d nz wz S0 w0 Lr a r

def L.z4e : T26 × T38 × (List T38) × Int → T38 → Prop := fun ⟨x1v, x2v, x5, x13⟩ r => ∀ S1 w1, Ext S0 w0 S1 w1 → ∀ gx1 u1z u20 u21 gx2 u9q u8q u8r u9r Gx5 nx5 cx5 u3a (_ : Hp nz wz S1 w1 ((some gx1, .row 27 (vT26 x1v u1z u20 u21) 8 0) :: (some gx2, .row 39 (wT29 x2v.Op x2v.Text (Gp u9q) u8q u8r) 3 0) :: (u9q, .row 39 u9r (u8r * kT38.size) 0) :: (Gx5, .row 39 u3a (cx5 * kT38.size) 0) :: Lr)) (_ : x1v.Set.length = 4) (_ : Rd kT26 S1 w1 u1z u21 x1v.L) (_ : x1v.L.length = u20) (_ : Els kT38 S1 w1 u9r x2v.L) (_ : x2v.L.length = u8q) (_ : Els kT38 S1 w1 u3a x5) (_ : x5.length = nx5) (junk : Nat → Value),
 Goes Tryz.prog (base 56) Jru ⟨lfr 121 [(1, (pt gx1 0)), (2, (pt gx2 0)), (5, .slice (Gp Gx5) nx5 cx5), (13, .i x13)] junk, []⟩ w1 (Done Tryz.prog 56 (Rets (Post.z4b nz wz S0 w0 Lr r)))

def LL.z4e : T26 × T38 × (List T38) × Int → T38 → Prop := fun a r => ∀ {nz wz S0 w0 Lr}, L.z4e nz wz S0 w0 Lr a r

theorem W.z4f : (∀ a r, M.av a = some r → LF.z4b a r) ∧ (∀ a r, M.a43 a = some r → LL.z4e a r) ∧ (∀ a r, M.ai a = some r → LL.z4c a r) ∧ (∀ a r, M.a44 a = some r → LL.z4d a r) := by
 refine M.av.mutual_partial_correctness LF.z4b LL.z4e LL.z4c LL.z4d ?_ ?_ ?_ ?_
 ·
  intro ui1 ui2 ui3 ui4 ui5 ui6 x0 r h nz wz S0 w0 Lr u5 u6 u7 p0 um un uo
  try dsimp only at h
  subst uo
  refine Zf Tryz.f56 B56 120 ?_
  refine Gj 121 [(0, (ag (vT26 x0 u5 x0.L.length u7)))] fun junk => ?_
  refine Gn 2 [] (Yt 10 B56 [0, 1] (Ys 11 B56 [])) ?_
  refine Ob 27 (.tmp 0) 1 0 (ag (vT26 x0 u5 x0.L.length u7)) (vT26 x0 u5 x0.L.length u7) p0 Goes.v fun b1 w2 z2 p2 => ?_
  refine Oa 39 2 0 (.agg #[.i 0, .string (⟨#[]⟩ : ByteArray), .slice none 0 0]) [.i 0, .string (⟨#[]⟩ : ByteArray), .slice none 0 0] p2 Goes.v fun b3 w3 z3 p3 => ?_
  refine Gn 4 [] (Yt 1100 B56 [0, 1, 2, 3, 4, 5, 6] (Ys 1101 B56 Jrx)) ?_
  refine Goes.ldN 27 (.tmp 1) 15 27 ⟨b1, 0, none⟩ (vT26 x0 u5 x0.L.length u7) (p3.pa 1 0) ?_
  refine Gb h fun y5 e6 h => ?_
  refine Gc (kc 121 [15] #[27]) 16 225 121 _ (W.z34 x0 y5 e6 _ _ _ p3 um (un.ext (z2.t z3)) rfl) ?_
  rintro _ w4 ⟨S4, ui7, u57, u58, ui8, rfl, z4, p4, u59, rfl⟩
  refine Gm 10 [([14], .tuple #[.slice (Gp ui7) y5.1.length u58, .bool y5.2]), ([17, 3], .slice (Gp ui7) y5.1.length u58), ([18, 4, 19], .bool y5.2)] (Ys 11011 B56 Jrx) ?_
  refine Gi h (fun h8 h => ?_) fun h8 h => ?_
  ·
   rw [h8]
   refine Gn 4 [(20, .slice (Gp ui7) y5.1.length u58)] (Yt 1101100 B56 [1, 2] Js1) ?_
   obtain ⟨S5, z5, p5, f9⟩ := p4.freezeRd 0 rfl u59 (by decide)
   refine Gb h fun y10 e11 h => ?_
   refine Gc (kc 122 [20] #[43]) 21 39 122 _ (W.z47 y5.1 y10 e11 _ _ _ p5 f9 rfl) ?_
   rintro _ w6 ⟨S6, ua8, u1c, u1d, rfl, z6, p6, u1g, rfl⟩
   have p6 := (p6.dp 0).dp 1
   refine So 39 (.tmp 2) (.tmp 21) 0 0 b3 0 ((ag (wT29 y10.Op y10.Text ua8 y10.L.length u1d))) (wT29 y10.Op y10.Text ua8 y10.L.length u1d) p6 rfl Goes.s fun w7 z7 p7 => ?_
   refine Gn 1 [] Js1 ?_
   obtain rfl := sj h
   exact R1 Tryz.f56 (.cell 2 39) ((ag (wT29 y10.Op y10.Text ua8 y10.L.length u1d))) (Rn b3 (p7.pa 0 0)) ⟨_, _, _, _, rfl, (((((z2.t z3).t z4).t z5).t z6).t z7), p7.drop, (u1g.ext z7), rfl⟩
  ·
   rw [bf h8]
   refine Gn 4 [] (Yt 1110 B56 [0, 1] (Ys 1111 B56 [])) ?_
   have f13 : Els kT38 S4 w4 ([] : List Value) ([] : List T38) := by exact Els.nil
   refine Om (.buildSlice 37 0 #[]) 22 37 (fun b => .slice (Gp (some b)) 0 0) 39 ([] : List Value) (0 * kT38.size) p4 Goes.v fun b12 w8 z8 p8 => ?_
   refine Gn 6 [(5, .slice (Gp (some b12)) 0 0), (23, (pt b1 0))] (Yt 111100 B56 [1] (Ys 111101 B56 Jrg)) ?_
   refine Goes.ld 3 (.tmp 23) 24 3 ⟨b1, 0, none⟩ (.i x0.Kind) (p8.c 3 0) ?_
   refine Gm 7 [([26, 25], .bool (decide (x0.Kind = 2)))] (Ys 11110101 B56 Jrh) ?_
   refine Gi h (fun h15 h => ?_) fun h15 h => ?_
   ·
    rw [dt h15]
    refine Gn 8 [(6, .i 0)] Jrl ?_
    have p8 : Hp nz wz S4 w8 ((none, .row 39 [] (0 * kT38.size) 0) :: ((some b12), .row 39 ([] : List Value) (0 * kT38.size) 0) :: (ui7, .row 9 ui8 (u58 * kStr.size) 0) :: (some b3, .row 39 [.i 0, .string (⟨#[]⟩ : ByteArray), .slice none 0 0] 3 0) :: (some b1, .row 27 (vT26 x0 u5 x0.L.length u7) 8 0) :: Lr) := p8.nilRow' 39
    have p8 := p8.dp 2
    have p8 := (((p8.fr 1).fr 1).fr 2).fr 3
    exact Gj 121 [(1, (pt b1 0)), (2, (pt b3 0)), (5, .slice (Gp (some b12)) 0 0), (6, .i 0)] (ui6 _ _ h _ _ (((z2.t z3).t z4).t z8) _ _ _ _ _ none 0 0 [] (some b12) 0 0 _ p8 um (un.ext (((z2.t z3).t z4).t z8)) rfl (Els.nil (K := kT38)) rfl (f13.ext z8) rfl)
   ·
    rw [df h15]
    refine Gm 6 [([91, 90], .bool (decide (x0.Kind = 3)))] (Ys 1111010111 B56 Jrh) ?_
    refine Gi h (fun h21 h => ?_) fun h21 h => ?_
    ·
     rw [dt h21]
     refine Gn 8 [(13, .i 0)] Jru ?_
     have p8 : Hp nz wz S4 w8 ((none, .row 39 [] (0 * kT38.size) 0) :: ((some b12), .row 39 ([] : List Value) (0 * kT38.size) 0) :: (ui7, .row 9 ui8 (u58 * kStr.size) 0) :: (some b3, .row 39 [.i 0, .string (⟨#[]⟩ : ByteArray), .slice none 0 0] 3 0) :: (some b1, .row 27 (vT26 x0 u5 x0.L.length u7) 8 0) :: Lr) := p8.nilRow' 39
     have p8 := p8.dp 2
     have p8 := (((p8.fr 1).fr 1).fr 2).fr 3
     exact Gj 121 [(1, (pt b1 0)), (2, (pt b3 0)), (5, .slice (Gp (some b12)) 0 0), (13, .i 0)] (ui5 _ _ h _ _ (((z2.t z3).t z4).t z8) _ _ _ _ _ none 0 0 [] (some b12) 0 0 _ p8 um (un.ext (((z2.t z3).t z4).t z8)) rfl (Els.nil (K := kT38)) rfl (f13.ext z8) rfl)
    ·
     rw [df h21]
     refine Gm 6 [([111, 110], .bool (decide (x0.Kind = 4)))] (Ys 111101011111 B56 Jrh) ?_
     refine Gi h (fun h27 h => ?_) fun h27 h => ?_
     ·
      rw [dt h27]
      refine Gn 4 [(112, (pt b1 6))] (Yt 11110101111100 B56 [1, 2] Jsa) ?_
      refine Goes.ld 3 (.tmp 112) 113 3 ⟨b1, 6, none⟩ (.i x0.Min) (p8.c 3 6) ?_
      refine Gn 2 [(114, .bool (decide (x0.Min > 0)))] Jsa ?_
      refine Gi h (fun h28 h => ?_) fun h28 h => ?_
      ·
       rw [dt h28]
       refine Gn 4 [(115, (pt b1 5))] (Yt 1111010111110100 B56 [1, 2, 3, 4, 5] Jsc) ?_
       refine Goes.ld 25 (.tmp 115) 116 25 ⟨b1, 5, none⟩ (.slice u5 x0.L.length u7) (p8.c 3 5) ?_
       refine Gg h fun g29 h => ?_
       refine Oi 25 (.tmp 116) (.const (.int .i64 0)) 117 0 27 .i64 0 (gi x0.L 0) rfl rfl (un.ext (((z2.t z3).t z4).t z8)) Goes.v (by decide : (0 : Int) ≤ 0) g29 fun a30 _ f31 q32 => ?_
       have q33 := q32
       obtain ⟨_, _, rfl, rfl, ⟨_, _, rfl, ⟨l34, f35⟩, ⟨_, _, rfl, ⟨A36, c37, rfl, f38⟩, ⟨_, _, rfl, rfl, rfl⟩⟩⟩⟩ := kT26_open q33
       obtain rfl := els_lit4' f35 l34
       refine Goes.ldN 27 (.tmp 117) 118 27 a30 ([.i ((gi x0.L 0).Kind)] ++ ((U4 ((gi x0.L 0).Set) []) ++ ([.slice A36 (((gi x0.L 0).L).length) c37] ++ ([.i ((gi x0.L 0).Min)] ++ [.i ((gi x0.L 0).Max)])))) (f31.cell) ?_
       refine Gb h fun y39 e40 h => ?_
       refine Gc (kc 56 [118] #[27]) 119 39 56 _ (ui4 (⟨(gi x0.L 0).Kind, ((gi x0.L 0).Set), (gi x0.L 0).L, (gi x0.L 0).Min, (gi x0.L 0).Max⟩ : T26) y39 e40 _ _ _ p8 l34 f38 rfl) ?_
       rintro _ w9 ⟨S9, ubl, u14, u15, rfl, z9, p9, u18, rfl⟩
       have p9 := ((p9.dp 0).dp 0).dp 1
       refine So 39 (.tmp 2) (.tmp 119) 0 0 b3 0 ((ag (wT29 y39.Op y39.Text ubl y39.L.length u15))) (wT29 y39.Op y39.Text ubl y39.L.length u15) p9 rfl Goes.s fun w10 z10 p10 => ?_
       refine Gn 1 [] Jsc ?_
       obtain rfl := sj h
       exact R1 Tryz.f56 (.cell 2 39) ((ag (wT29 y39.Op y39.Text ubl y39.L.length u15))) (Rn b3 (p10.pa 0 0)) ⟨_, _, _, _, rfl, (((((z2.t z3).t z4).t z8).t z9).t z10), p10.drop, (u18.ext z10), rfl⟩
      ·
       rw [df h28]
       refine Gn 6 [(120, .agg #[.i 0, .string (⟨#[]⟩ : ByteArray), .slice none 0 0])] Jsf ?_
       refine So 39 (.tmp 2) (.tmp 120) 0 2 b3 0 (.agg #[.i 0, .string (⟨#[]⟩ : ByteArray), .slice none 0 0]) [.i 0, .string (⟨#[]⟩ : ByteArray), .slice none 0 0] p8 rfl Goes.s fun w11 z11 p11 => ?_
       refine Gn 1 [] Jse ?_
       obtain rfl := sj h
       have p11 := ((p11.dp 0).dp 0).dp 1
       exact R1 Tryz.f56 (.cell 2 39) (.agg #[.i 0, .string (⟨#[]⟩ : ByteArray), .slice none 0 0]) (Rn b3 (p11.pa 0 0)) ⟨_, _, _, _, rfl, ((((z2.t z3).t z4).t z8).t z11), p11.drop, Rd.none_, rfl⟩
     ·
      rw [df h27]
      refine Gn 6 [(120, .agg #[.i 0, .string (⟨#[]⟩ : ByteArray), .slice none 0 0])] Jsf ?_
      refine So 39 (.tmp 2) (.tmp 120) 0 2 b3 0 (.agg #[.i 0, .string (⟨#[]⟩ : ByteArray), .slice none 0 0]) [.i 0, .string (⟨#[]⟩ : ByteArray), .slice none 0 0] p8 rfl Goes.s fun w12 z12 p12 => ?_
      refine Gn 1 [] Jse ?_
      obtain rfl := sj h
      have p12 := ((p12.dp 0).dp 0).dp 1
      exact R1 Tryz.f56 (.cell 2 39) (.agg #[.i 0, .string (⟨#[]⟩ : ByteArray), .slice none 0 0]) (Rn b3 (p12.pa 0 0)) ⟨_, _, _, _, rfl, ((((z2.t z3).t z4).t z8).t z12), p12.drop, Rd.none_, rfl⟩
 ·
  intro ui1 ui2 ui4 ui5 ⟨x1v, x2v, x5, x13⟩ r h nz wz S0 w0 Lr S1 w1 hx gx1 u1z u20 u21 gx2 u9q u8q u8r u9r Gx5 nx5 cx5 u3a p1 u22 u23 u24 u8s u8t fx5 lx5 junk
  try dsimp only at h
  subst u24
  subst u8t
  subst lx5
  refine Gn 5 [(92, .i x13), (93, (pt gx1 5))] (Yt 11110101110010000 B56 [2, 3, 4] Jsh) ?_
  refine Goes.ld 25 (.tmp 93) 94 25 ⟨gx1, 5, none⟩ (.slice u1z x1v.L.length u21) (p1.c 0 5) ?_
  refine Gn 3 [(95, .i (x1v.L.length : Int)), (96, .bool (decide (x13 < (x1v.L.length : Int))))] Jsh ?_
  refine Gi h (fun h86 h => ?_) fun h86 h => ?_
  ·
   rw [dt h86]
   refine Gn 7 [(99, .slice (Gp Gx5) x5.length cx5), (100, (pt gx1 5))] (Zr Qly [2, 3, 4, 5, 6, 7, 8, 9] Jsk) ?_
   refine Goes.ld 25 (.tmp 100) 101 25 ⟨gx1, 5, none⟩ (.slice u1z x1v.L.length u21) (p1.c 0 5) ?_
   refine Gn 1 [(102, .i x13)] (Zr Qly [4, 5, 6, 7, 8, 9] Jsk) ?_
   refine Gg h fun g87 h => ?_
   refine Oi 25 (.tmp 101) (.tmp 102) 103 0 27 .i64 x13 (gi x1v.L x13) rfl rfl u23 Goes.v g87 h86 fun a88 _ f89 q90 => ?_
   have q91 := q90
   obtain ⟨_, _, rfl, rfl, ⟨_, _, rfl, ⟨l92, f93⟩, ⟨_, _, rfl, ⟨A94, c95, rfl, f96⟩, ⟨_, _, rfl, rfl, rfl⟩⟩⟩⟩ := kT26_open q91
   obtain rfl := els_lit4' f93 l92
   refine Goes.ldN 27 (.tmp 103) 104 27 a88 ([.i ((gi x1v.L x13).Kind)] ++ ((U4 ((gi x1v.L x13).Set) []) ++ ([.slice A94 (((gi x1v.L x13).L).length) c95] ++ ([.i ((gi x1v.L x13).Min)] ++ [.i ((gi x1v.L x13).Max)])))) (f89.cell) ?_
   refine Gb h fun y97 e98 h => ?_
   refine Gc (kc 56 [104] #[27]) 105 39 56 _ (ui4 (⟨(gi x1v.L x13).Kind, ((gi x1v.L x13).Set), (gi x1v.L x13).L, (gi x1v.L x13).Min, (gi x1v.L x13).Max⟩ : T26) y97 e98 _ _ _ p1 l92 f96 rfl) ?_
   rintro _ w20 ⟨S20, ui9, uia, uib, rfl, z20, p20, uic, rfl⟩
   have uid : Els kT38 S20 w20 ((wT29 y97.Op y97.Text ui9 y97.L.length uib) : List Value) [y97] := by exact (Els.cons (K := kT38) (vs := (wT29 y97.Op y97.Text ui9 y97.L.length uib)) (x := y97) (kT38_close ⟨[.i y97.Op], [.string y97.Text, .slice ui9 y97.L.length uib], rfl, rfl, ⟨[.string y97.Text], [.slice ui9 y97.L.length uib], rfl, rfl, ⟨_, _, rfl, uic⟩⟩⟩) Els.nil)
   refine Om (.buildSlice 37 1 #[(0, (.tmp 105))]) 106 37 (fun b => .slice (Gp (some b)) 1 1) 39 ((wT29 y97.Op y97.Text ui9 y97.L.length uib) : List Value) (1 * kT38.size) p20 Goes.v fun b99 w21 z21 p21 => ?_
   refine Gg h fun uie h => ?_
   refine Op_.ap_n (K := kT38) 37 (.tmp 99) (.tmp 106) 107 37 39 4 (.agg #[.i 0, .string ⟨#[]⟩, .slice none 0 0]) 48 x5.length cx5 1 x5 [y97] (x5 ++ [y97]) (Gp (some b99)) 1 rfl rfl rfl p21 rfl (fx5.ext (z20.t z21)) Goes.v (by kernel_rfl) (by kernel_rfl) (by kernel_rfl) (by kernel_rfl) rfl (by decide) (uid.ext z21) (src_own p21 (q := 0) rfl) (by have := uie; omega) (by have := uie; omega) fun w22 uif uig uih z22 p22 ued => ?_
   refine Gm 9 [([5], .slice (Gp uif) ((x5 ++ [y97]).length) uig), ([97], .i x13), ([98, 13], .i (wr .i64 (x13 + 1)))] Jru ?_
   have p22 := p22.dp 0
   exact Gj 121 [(1, (pt gx1 0)), (2, (pt gx2 0)), (5, .slice (Gp uif) ((x5 ++ [y97]).length) uig), (13, .i (wr .i64 (x13 + 1)))] (ui5 _ _ h _ _ (((hx.t z20).t z21).t z22) _ _ _ _ _ _ _ _ _ _ _ _ _ p22 u22 (u23.ext ((z20.t z21).t z22)) rfl (u8s.ext ((z20.t z21).t z22)) rfl ued rfl)
  ·
   rw [df h86]
   refine Gn 5 [(108, .slice (Gp Gx5) x5.length cx5)] (Yt 1111010111010 B56 [1, 2] Jsn) ?_
   obtain ⟨S23, z23, p23, ugl⟩ := p1.freezeRd 3 rfl fx5 (by decide)
   refine Gb h fun uii uij h => ?_
   refine Gc (.call { callee := .value (.func 124), args := #[(.const (.int .i64 4)), (.tmp 108)], argTypes := #[3, 37] }) 109 39 124 _ (W.z3x 4 x5 uii uij _ _ _ p23 ugl rfl) ?_
   rintro _ w24 ⟨S24, uik, uil, uim, rfl, z24, p24, uin, rfl⟩
   have p24 := (p24.dp 0).dp 2
   refine So 39 (.tmp 2) (.tmp 109) 0 0 gx2 0 ((ag (wT29 uii.Op uii.Text uik uii.L.length uim))) (wT29 uii.Op uii.Text uik uii.L.length uim) p24 rfl Goes.s fun w25 z25 p25 => ?_
   refine Gn 1 [] Jsn ?_
   obtain rfl := sj h
   have p25 := p25.dp 1
   exact R1 Tryz.f56 (.cell 2 39) ((ag (wT29 uii.Op uii.Text uik uii.L.length uim))) (Rn gx2 (p25.pa 0 0)) ⟨_, _, _, _, rfl, (((hx.t z23).t z24).t z25), p25.drop, (uin.ext z25), rfl⟩
 ·
  intro ui1 ui3 uio ui4 ui6 uip ⟨x1v, x2v, x5, x6⟩ r h nz wz S0 w0 Lr S1 w1 hx gx1 u1z u20 u21 gx2 u9q u8q u8r u9r Gx5 nx5 cx5 u3a p1 u22 u23 u24 u8s u8t fx5 lx5 junk
  try dsimp only at h
  subst u24
  subst u8t
  subst lx5
  refine Gn 5 [(27, .i x6), (28, (pt gx1 5))] (Yt 111101010010000 B56 [2, 3, 4] Jsq) ?_
  refine Goes.ld 25 (.tmp 28) 29 25 ⟨gx1, 5, none⟩ (.slice u1z x1v.L.length u21) (p1.c 0 5) ?_
  refine Gn 3 [(30, .i (x1v.L.length : Int)), (31, .bool (decide (x6 < (x1v.L.length : Int))))] Jsq ?_
  refine Gi h (fun h41 h => ?_) fun h41 h => ?_
  ·
   rw [dt h41]
   refine Gn 6 [(33, (pt gx1 5))] (Zr Qm5 [1, 2, 3, 4, 5, 6, 7, 8, 9, 10] Jss) ?_
   refine Goes.ld 25 (.tmp 33) 34 25 ⟨gx1, 5, none⟩ (.slice u1z x1v.L.length u21) (p1.c 0 5) ?_
   refine Gn 1 [(35, .i x6)] (Zr Qm5 [3, 4, 5, 6, 7, 8, 9, 10] Jss) ?_
   refine Gg h fun g42 h => ?_
   refine Oi 25 (.tmp 34) (.tmp 35) 36 0 27 .i64 x6 (gi x1v.L x6) rfl rfl u23 Goes.v g42 h41 fun a43 _ f44 q45 => ?_
   have q46 := q45
   obtain ⟨_, _, rfl, rfl, ⟨_, _, rfl, ⟨l47, f48⟩, ⟨_, _, rfl, ⟨A49, c50, rfl, f51⟩, ⟨_, _, rfl, rfl, rfl⟩⟩⟩⟩ := kT26_open q46
   obtain rfl := els_lit4' f48 l47
   refine Goes.ldN 27 (.tmp 36) 37 27 a43 ([.i ((gi x1v.L x6).Kind)] ++ ((U4 ((gi x1v.L x6).Set) []) ++ ([.slice A49 (((gi x1v.L x6).L).length) c50] ++ ([.i ((gi x1v.L x6).Min)] ++ [.i ((gi x1v.L x6).Max)])))) (f44.cell) ?_
   refine Gb h fun y52 e53 h => ?_
   refine Gc (kc 121 [37] #[27]) 38 225 121 _ (W.z34 (⟨(gi x1v.L x6).Kind, ((gi x1v.L x6).Set), (gi x1v.L x6).L, (gi x1v.L x6).Min, (gi x1v.L x6).Max⟩ : T26) y52 e53 _ _ _ p1 l47 f51 rfl) ?_
   rintro _ w13 ⟨S13, uiq, u5o, u5p, uir, rfl, z13, p13, u5q, rfl⟩
   refine Gm 12 [([32], .tuple #[.slice (Gp uiq) y52.1.length u5p, .bool y52.2]), ([39, 7], .slice (Gp uiq) y52.1.length u5p), ([40, 8, 41], .bool y52.2), ([42], .bool (!y52.2))] (Ys 111101010010010101 B56 Jsv) ?_
   refine Gi h (fun h55 h => ?_) fun h55 h => ?_
   ·
    rw [h55]
    refine Gm 11 [([54], .i x6), ([55, 6], .i (wr .i64 (x6 + 1)))] Jrq ?_
    have p13 := ((((p13.fr 0).fr 4).fr 4).fr 4).fr 4
    exact Gj 121 [(1, (pt gx1 0)), (2, (pt gx2 0)), (5, .slice (Gp Gx5) x5.length cx5), (6, .i (wr .i64 (x6 + 1))), (7, .slice (Gp uiq) y52.1.length u5p)] (uip _ _ h _ _ (hx.t z13) _ _ _ _ _ _ _ _ _ _ _ _ _ _ _ _ _ p13 u22 (u23.ext z13) rfl (u8s.ext z13) rfl (fx5.ext z13) rfl u5q rfl)
   ·
    rw [bf h55]
    refine Gn 5 [(43, .slice (Gp Gx5) x5.length cx5), (44, (pt gx1 5))] (Zr Qm9 [2, 3, 4, 5, 6, 7, 8, 9] Jsx) ?_
    refine Goes.ld 25 (.tmp 44) 45 25 ⟨gx1, 5, none⟩ (.slice u1z x1v.L.length u21) (p13.c 1 5) ?_
    refine Gn 1 [(46, .i x6)] (Zr Qm9 [4, 5, 6, 7, 8, 9] Jsx) ?_
    refine Oi 25 (.tmp 45) (.tmp 46) 47 0 27 .i64 x6 (gi x1v.L x6) rfl rfl (u23.ext z13) Goes.v g42 h41 fun a61 _ f62 q63 => ?_
    have q64 := q63
    obtain ⟨_, _, rfl, rfl, ⟨_, _, rfl, ⟨l65, f66⟩, ⟨_, _, rfl, ⟨A67, c68, rfl, f69⟩, ⟨_, _, rfl, rfl, rfl⟩⟩⟩⟩ := kT26_open q64
    obtain rfl := els_lit4' f66 l65
    refine Goes.ldN 27 (.tmp 47) 48 27 a61 ([.i ((gi x1v.L x6).Kind)] ++ ((U4 ((gi x1v.L x6).Set) []) ++ ([.slice A67 (((gi x1v.L x6).L).length) c68] ++ ([.i ((gi x1v.L x6).Min)] ++ [.i ((gi x1v.L x6).Max)])))) (f62.cell) ?_
    refine Gb h fun y70 e71 h => ?_
    refine Gc (kc 56 [48] #[27]) 49 39 56 _ (ui4 (⟨(gi x1v.L x6).Kind, ((gi x1v.L x6).Set), (gi x1v.L x6).L, (gi x1v.L x6).Min, (gi x1v.L x6).Max⟩ : T26) y70 e71 _ _ _ p13 l65 f69 rfl) ?_
    rintro _ w14 ⟨S14, uit, uiu, uiv, rfl, z14, p14, uiw, rfl⟩
    have p14 := p14.dp 0
    have f73 : Els kT38 S14 w14 ((wT29 y70.Op y70.Text uit y70.L.length uiv) : List Value) [y70] := by exact (Els.cons (K := kT38) (vs := (wT29 y70.Op y70.Text uit y70.L.length uiv)) (x := y70) (kT38_close ⟨[.i y70.Op], [.string y70.Text, .slice uit y70.L.length uiv], rfl, rfl, ⟨[.string y70.Text], [.slice uit y70.L.length uiv], rfl, rfl, ⟨_, _, rfl, uiw⟩⟩⟩) Els.nil)
    refine Om (.buildSlice 37 1 #[(0, (.tmp 49))]) 50 37 (fun b => .slice (Gp (some b)) 1 1) 39 ((wT29 y70.Op y70.Text uit y70.L.length uiv) : List Value) (1 * kT38.size) p14 Goes.v fun b72 w15 z15 p15 => ?_
    refine Gg h fun g78 h => ?_
    refine On (K := kT38) 37 (.tmp 43) (.tmp 50) 51 37 39 4 (.agg #[.i 0, .string ⟨#[]⟩, .slice none 0 0]) 48 x5.length cx5 1 x5 [y70] (x5 ++ [y70]) (Gp (some b72)) 1 rfl rfl rfl p15 rfl (fx5.ext ((z13.t z14).t z15)) Goes.v (f73.ext z15) (src_own p15 (q := 0) rfl) g78 fun w16 G79 c80 ual z16 p16 f82 => ?_
    refine Gm 10 [([5], .slice (Gp G79) ((x5 ++ [y70]).length) c80), ([52], .i x6), ([53, 6], .i (wr .i64 (x6 + 1)))] Jrl ?_
    have p16 := p16.dp 0
    exact Gj 121 [(1, (pt gx1 0)), (2, (pt gx2 0)), (5, .slice (Gp G79) ((x5 ++ [y70]).length) c80), (6, .i (wr .i64 (x6 + 1)))] (ui6 _ _ h _ _ ((((hx.t z13).t z14).t z15).t z16) _ _ _ _ _ _ _ _ _ _ _ _ _ p16 u22 (u23.ext (((z13.t z14).t z15).t z16)) rfl (u8s.ext (((z13.t z14).t z15).t z16)) rfl f82 rfl)
  ·
   rw [df h41]
   refine Gn 5 [(88, .slice (Gp Gx5) x5.length cx5)] (Yt 11110101010 B56 [1, 2] Jt0) ?_
   obtain ⟨S17, z17, p17, f83⟩ := p1.freezeRd 3 rfl fx5 (by decide)
   refine Gb h fun y84 e85 h => ?_
   refine Gc (.call { callee := .value (.func 124), args := #[(.const (.int .i64 3)), (.tmp 88)], argTypes := #[3, 37] }) 89 39 124 _ (W.z3x 3 x5 y84 e85 _ _ _ p17 f83 rfl) ?_
   rintro _ w18 ⟨S18, uix, uiy, uiz, rfl, z18, p18, uj0, rfl⟩
   have p18 := (p18.dp 0).dp 2
   refine So 39 (.tmp 2) (.tmp 89) 0 0 gx2 0 ((ag (wT29 y84.Op y84.Text uix y84.L.length uiz))) (wT29 y84.Op y84.Text uix y84.L.length uiz) p18 rfl Goes.s fun w19 z19 p19 => ?_
   refine Gn 1 [] Jt0 ?_
   obtain rfl := sj h
   have p19 := p19.dp 1
   exact R1 Tryz.f56 (.cell 2 39) ((ag (wT29 y84.Op y84.Text uix y84.L.length uiz))) (Rn gx2 (p19.pa 0 0)) ⟨_, _, _, _, rfl, (((hx.t z17).t z18).t z19), p19.drop, (uj0.ext z19), rfl⟩
 ·
  intro ui3 uio ui6 uip ⟨x1v, x2v, x5, x6, x7⟩ r h nz wz S0 w0 Lr S1 w1 hx gx1 u1z u20 u21 gx2 u9q u8q u8r u9r Gx5 nx5 cx5 u3a Gx7 nx7 cx7 u4t p1 u22 u23 u24 u8s u8t fx5 lx5 fx7 lx7 junk
  try dsimp only at h
  subst u24
  subst u8t
  subst lx5
  subst lx7
  refine Gn 5 [(56, .i x6), (57, (pt gx1 5))] (Yt 11110101001001011100000 B56 [2, 3, 4] Jt3) ?_
  refine Goes.ld 25 (.tmp 57) 58 25 ⟨gx1, 5, none⟩ (.slice u1z x1v.L.length u21) (p1.c 0 5) ?_
  refine Gn 3 [(59, .i (x1v.L.length : Int)), (60, .bool (decide (x6 < (x1v.L.length : Int))))] Jt3 ?_
  refine Gi h (fun uj1 h => ?_) fun uj1 h => ?_
  ·
   rw [dt uj1]
   refine Gn 6 [(62, (pt gx1 5))] (Zr Qmg [1, 2, 3, 4, 5, 6, 7, 8, 9, 10] Jt6) ?_
   refine Goes.ld 25 (.tmp 62) 63 25 ⟨gx1, 5, none⟩ (.slice u1z x1v.L.length u21) (p1.c 0 5) ?_
   refine Gn 1 [(64, .i x6)] (Zr Qmg [3, 4, 5, 6, 7, 8, 9, 10] Jt6) ?_
   refine Gg h fun uj2 h => ?_
   refine Oi 25 (.tmp 63) (.tmp 64) 65 0 27 .i64 x6 (gi x1v.L x6) rfl rfl u23 Goes.v uj2 uj1 fun uj3 _ uek uj4 => ?_
   have uj5 := uj4
   obtain ⟨_, _, rfl, rfl, ⟨_, _, rfl, ⟨uj6, uj7⟩, ⟨_, _, rfl, ⟨uj8, uj9, rfl, uja⟩, ⟨_, _, rfl, rfl, rfl⟩⟩⟩⟩ := kT26_open uj5
   obtain rfl := els_lit4' uj7 uj6
   refine Goes.ldN 27 (.tmp 65) 66 27 uj3 ([.i ((gi x1v.L x6).Kind)] ++ ((U4 ((gi x1v.L x6).Set) []) ++ ([.slice uj8 (((gi x1v.L x6).L).length) uj9] ++ ([.i ((gi x1v.L x6).Min)] ++ [.i ((gi x1v.L x6).Max)])))) (uek.cell) ?_
   refine Gb h fun ujb ujc h => ?_
   refine Gc (kc 121 [66] #[27]) 67 225 121 _ (W.z34 (⟨(gi x1v.L x6).Kind, ((gi x1v.L x6).Set), (gi x1v.L x6).L, (gi x1v.L x6).Min, (gi x1v.L x6).Max⟩ : T26) ujb ujc _ _ _ p1 uj6 uja rfl) ?_
   rintro _ w26 ⟨S26, ujd, uje, ujf, ujg, rfl, z26, p26, ujh, rfl⟩
   refine Gm 12 [([61], .tuple #[.slice (Gp ujd) ujb.1.length ujf, .bool ujb.2]), ([68, 9], .slice (Gp ujd) ujb.1.length ujf), ([69, 10, 70], .bool ujb.2), ([71], .bool (!ujb.2))] (Ys 11110101001001011100010101 B56 (Ys 1111010100100101110001011 B56 Jt5)) ?_
   refine Gi h (fun uji h => ?_) fun uji h => ?_
   ·
    rw [uji]
    refine Gn 6 [(73, .slice (Gp Gx7) x7.length cx7), (74, .slice (Gp ujd) ujb.1.length ujf)] (Yt 11110101001001011100010110 B56 [2, 3, 4, 5, 6, 7] (Ys 11110101001001011100010111 B56 Jt5)) ?_
    obtain ⟨S27, z27, p27, ugu⟩ := p26.freezeRd 5 rfl (fx7.ext z26) (by decide)
    obtain ⟨S28, z28, p28, ujj⟩ := p27.freezeRd 0 rfl (ujh.ext z27) (by decide)
    refine Gb h fun ujk ujl h => ?_
    refine Gc (kc 123 [73, 74] #[43, 43]) 75 225 123 _ (W.z3e x7 ujb.1 ujk ujl _ _ _ _ _ _ p28 (ugu.ext z28) rfl ujj rfl) ?_
    rintro _ w29 ⟨S29, ujm, ujn, ujo, ujp, rfl, z29, p29, ujq, rfl⟩
    have p29 := p29.dp 1
    refine Gm 12 [([72], .tuple #[.slice (Gp ujm) ujk.1.length ujo, .bool ujk.2]), ([76, 11], .slice (Gp ujm) ujk.1.length ujo), ([77, 12, 78], .bool ujk.2), ([79], .bool (!ujk.2))] (Ys 1111010100100101110001011101 B56 (Ys 111101010010010111000101111 B56 Jt5)) ?_
    refine Gi h (fun ujr h => ?_) fun ujr h => ?_
    ·
     rw [ujr]
     refine Gm 14 [([80, 7], .slice (Gp ujm) ujk.1.length ujo), ([81], .i x6), ([82, 6], .i (wr .i64 (x6 + 1)))] Jrq ?_
     have p29 := p29.dp 5
     have p29 := ((((p29.fr 0).fr 4).fr 4).fr 4).fr 4
     exact Gj 121 [(1, (pt gx1 0)), (2, (pt gx2 0)), (5, .slice (Gp Gx5) x5.length cx5), (6, .i (wr .i64 (x6 + 1))), (7, .slice (Gp ujm) ujk.1.length ujo)] (uip _ _ h _ _ ((((hx.t z26).t z27).t z28).t z29) _ _ _ _ _ _ _ _ _ _ _ _ _ _ _ _ _ p29 u22 (u23.ext (((z26.t z27).t z28).t z29)) rfl (u8s.ext (((z26.t z27).t z28).t z29)) rfl (fx5.ext (((z26.t z27).t z28).t z29)) rfl ujq rfl)
    ·
     rw [bf ujr]
     refine Gn 5 [(83, .slice (Gp Gx5) x5.length cx5), (84, .slice (Gp Gx7) x7.length cx7)] Jtf ?_
     refine Gb h fun ujt uju h => ?_
     refine Gc (kc 122 [84] #[43]) 85 39 122 _ (W.z47 x7 ujt uju _ _ _ p29 (ugu.ext (z28.t z29)) rfl) ?_
     rintro _ w30 ⟨S30, ujv, ujw, ujx, rfl, z30, p30, ujy, rfl⟩
     have p30 := (p30.dp 0).dp 4
     have ujz : Els kT38 S30 w30 ((wT29 ujt.Op ujt.Text ujv ujt.L.length ujx) : List Value) [ujt] := by exact (Els.cons (K := kT38) (vs := (wT29 ujt.Op ujt.Text ujv ujt.L.length ujx)) (x := ujt) (kT38_close ⟨[.i ujt.Op], [.string ujt.Text, .slice ujv ujt.L.length ujx], rfl, rfl, ⟨[.string ujt.Text], [.slice ujv ujt.L.length ujx], rfl, rfl, ⟨_, _, rfl, ujy⟩⟩⟩) Els.nil)
     refine Op_.made (.buildSlice 37 1 #[(0, (.tmp 85))]) 86 37 (fun b => .slice (Gp (some b)) 1 1) 39 ((wT29 ujt.Op ujt.Text ujv ujt.L.length ujx) : List Value) p30 Goes.v (by kernel_rfl) fun uk0 w31 z31 p31 => ?_
     have p31 : Hp nz wz S30 w31 (((some uk0), .row 39 ((wT29 ujt.Op ujt.Text ujv ujt.L.length ujx) : List Value) (1 * kT38.size) 0) :: (some gx1, .row 27 (vT26 x1v u1z x1v.L.length u21) 8 0) :: (some gx2, .row 39 (wT29 x2v.Op x2v.Text (Gp u9q) x2v.L.length u8r) 3 0) :: (u9q, .row 39 u9r (u8r * kT38.size) 0) :: (Gx5, .row 39 u3a (cx5 * kT38.size) 0) :: Lr) := p31
     refine Gg h fun uk1 h => ?_
     refine Op_.ap_n (K := kT38) 37 (.tmp 83) (.tmp 86) 87 37 39 4 (.agg #[.i 0, .string ⟨#[]⟩, .slice none 0 0]) 48 x5.length cx5 1 x5 [ujt] (x5 ++ [ujt]) (Gp (some uk0)) 1 rfl rfl rfl p31 rfl (fx5.ext (((((z26.t z27).t z28).t z29).t z30).t z31)) Goes.v (by kernel_rfl) (by kernel_rfl) (by kernel_rfl) (by kernel_rfl) rfl (by decide) (ujz.ext z31) (src_own p31 (q := 0) rfl) (by have := uk1; omega) (by have := uk1; omega) fun w32 uk2 uk3 uk4 z32 p32 uk5 => ?_
     refine Gn 4 [(5, .slice (Gp uk2) ((x5 ++ [ujt]).length) uk3)] Jrl ?_
     have p32 := p32.dp 0
     exact Gj 121 [(1, (pt gx1 0)), (2, (pt gx2 0)), (5, .slice (Gp uk2) ((x5 ++ [ujt]).length) uk3), (6, .i x6)] (ui6 _ _ h _ _ (((((((hx.t z26).t z27).t z28).t z29).t z30).t z31).t z32) _ _ _ _ _ _ _ _ _ _ _ _ _ p32 u22 (u23.ext ((((((z26.t z27).t z28).t z29).t z30).t z31).t z32)) rfl (u8s.ext ((((((z26.t z27).t z28).t z29).t z30).t z31).t z32)) rfl uk5 rfl)
   ·
    rw [bf uji]
    refine Gn 5 [(83, .slice (Gp Gx5) x5.length cx5), (84, .slice (Gp Gx7) x7.length cx7)] Jtf ?_
    obtain ⟨S33, z33, p33, uhc⟩ := p26.freezeRd 5 rfl (fx7.ext z26) (by decide)
    refine Gb h fun uk7 uk8 h => ?_
    refine Gc (kc 122 [84] #[43]) 85 39 122 _ (W.z47 x7 uk7 uk8 _ _ _ p33 uhc rfl) ?_
    rintro _ w34 ⟨S34, uk9, uka, ukb, rfl, z34, p34, ukc, rfl⟩
    have p34 := (p34.dp 0).dp 4
    have ukd : Els kT38 S34 w34 ((wT29 uk7.Op uk7.Text uk9 uk7.L.length ukb) : List Value) [uk7] := by exact (Els.cons (K := kT38) (vs := (wT29 uk7.Op uk7.Text uk9 uk7.L.length ukb)) (x := uk7) (kT38_close ⟨[.i uk7.Op], [.string uk7.Text, .slice uk9 uk7.L.length ukb], rfl, rfl, ⟨[.string uk7.Text], [.slice uk9 uk7.L.length ukb], rfl, rfl, ⟨_, _, rfl, ukc⟩⟩⟩) Els.nil)
    refine Op_.made (.buildSlice 37 1 #[(0, (.tmp 85))]) 86 37 (fun b => .slice (Gp (some b)) 1 1) 39 ((wT29 uk7.Op uk7.Text uk9 uk7.L.length ukb) : List Value) p34 Goes.v (by kernel_rfl) fun uke w35 z35 p35 => ?_
    have p35 : Hp nz wz S34 w35 (((some uke), .row 39 ((wT29 uk7.Op uk7.Text uk9 uk7.L.length ukb) : List Value) (1 * kT38.size) 0) :: (some gx1, .row 27 (vT26 x1v u1z x1v.L.length u21) 8 0) :: (some gx2, .row 39 (wT29 x2v.Op x2v.Text (Gp u9q) x2v.L.length u8r) 3 0) :: (u9q, .row 39 u9r (u8r * kT38.size) 0) :: (Gx5, .row 39 u3a (cx5 * kT38.size) 0) :: Lr) := p35
    refine Gg h fun ukf h => ?_
    refine Op_.ap_n (K := kT38) 37 (.tmp 83) (.tmp 86) 87 37 39 4 (.agg #[.i 0, .string ⟨#[]⟩, .slice none 0 0]) 48 x5.length cx5 1 x5 [uk7] (x5 ++ [uk7]) (Gp (some uke)) 1 rfl rfl rfl p35 rfl (fx5.ext (((z26.t z33).t z34).t z35)) Goes.v (by kernel_rfl) (by kernel_rfl) (by kernel_rfl) (by kernel_rfl) rfl (by decide) (ukd.ext z35) (src_own p35 (q := 0) rfl) (by have := ukf; omega) (by have := ukf; omega) fun w36 ukg ukh uki z36 p36 ukj => ?_
    refine Gn 4 [(5, .slice (Gp ukg) ((x5 ++ [uk7]).length) ukh)] Jrl ?_
    have p36 := p36.dp 0
    exact Gj 121 [(1, (pt gx1 0)), (2, (pt gx2 0)), (5, .slice (Gp ukg) ((x5 ++ [uk7]).length) ukh), (6, .i x6)] (ui6 _ _ h _ _ (((((hx.t z26).t z33).t z34).t z35).t z36) _ _ _ _ _ _ _ _ _ _ _ _ _ p36 u22 (u23.ext ((((z26.t z33).t z34).t z35).t z36)) rfl (u8s.ext ((((z26.t z33).t z34).t z35).t z36)) rfl ukj rfl)
  ·
   rw [df uj1]
   refine Gn 5 [(83, .slice (Gp Gx5) x5.length cx5), (84, .slice (Gp Gx7) x7.length cx7)] Jtf ?_
   obtain ⟨S37, z37, p37, ukk⟩ := p1.freezeRd 4 rfl fx7 (by decide)
   refine Gb h fun ukl ukm h => ?_
   refine Gc (kc 122 [84] #[43]) 85 39 122 _ (W.z47 x7 ukl ukm _ _ _ p37 ukk rfl) ?_
   rintro _ w38 ⟨S38, ukn, uko, ukp, rfl, z38, p38, ukq, rfl⟩
   have p38 := p38.dp 4
   have ukr : Els kT38 S38 w38 ((wT29 ukl.Op ukl.Text ukn ukl.L.length ukp) : List Value) [ukl] := by exact (Els.cons (K := kT38) (vs := (wT29 ukl.Op ukl.Text ukn ukl.L.length ukp)) (x := ukl) (kT38_close ⟨[.i ukl.Op], [.string ukl.Text, .slice ukn ukl.L.length ukp], rfl, rfl, ⟨[.string ukl.Text], [.slice ukn ukl.L.length ukp], rfl, rfl, ⟨_, _, rfl, ukq⟩⟩⟩) Els.nil)
   refine Op_.made (.buildSlice 37 1 #[(0, (.tmp 85))]) 86 37 (fun b => .slice (Gp (some b)) 1 1) 39 ((wT29 ukl.Op ukl.Text ukn ukl.L.length ukp) : List Value) p38 Goes.v (by kernel_rfl) fun uks w39 z39 p39 => ?_
   have p39 : Hp nz wz S38 w39 (((some uks), .row 39 ((wT29 ukl.Op ukl.Text ukn ukl.L.length ukp) : List Value) (1 * kT38.size) 0) :: (some gx1, .row 27 (vT26 x1v u1z x1v.L.length u21) 8 0) :: (some gx2, .row 39 (wT29 x2v.Op x2v.Text (Gp u9q) x2v.L.length u8r) 3 0) :: (u9q, .row 39 u9r (u8r * kT38.size) 0) :: (Gx5, .row 39 u3a (cx5 * kT38.size) 0) :: Lr) := p39
   refine Gg h fun ukt h => ?_
   refine Op_.ap_n (K := kT38) 37 (.tmp 83) (.tmp 86) 87 37 39 4 (.agg #[.i 0, .string ⟨#[]⟩, .slice none 0 0]) 48 x5.length cx5 1 x5 [ukl] (x5 ++ [ukl]) (Gp (some uks)) 1 rfl rfl rfl p39 rfl (fx5.ext ((z37.t z38).t z39)) Goes.v (by kernel_rfl) (by kernel_rfl) (by kernel_rfl) (by kernel_rfl) rfl (by decide) (ukr.ext z39) (src_own p39 (q := 0) rfl) (by have := ukt; omega) (by have := ukt; omega) fun w40 uku ukv ukw z40 p40 ukx => ?_
   refine Gn 4 [(5, .slice (Gp uku) ((x5 ++ [ukl]).length) ukv)] Jrl ?_
   have p40 := p40.dp 0
   exact Gj 121 [(1, (pt gx1 0)), (2, (pt gx2 0)), (5, .slice (Gp uku) ((x5 ++ [ukl]).length) ukv), (6, .i x6)] (ui6 _ _ h _ _ ((((hx.t z37).t z38).t z39).t z40) _ _ _ _ _ _ _ _ _ _ _ _ _ p40 u22 (u23.ext (((z37.t z38).t z39).t z40)) rfl (u8s.ext (((z37.t z38).t z39).t z40)) rfl ukx rfl)

theorem W.z4b : ∀ a r, M.av a = some r → LF.z4b a r := (W.z4f).1

theorem W.z4e : ∀ a r, M.a43 a = some r → LL.z4e a r := (W.z4f).2.1

theorem W.z4c : ∀ a r, M.ai a = some r → LL.z4c a r := (W.z4f).2.2.1

theorem W.z4d : ∀ a r, M.a44 a = some r → LL.z4d a r := (W.z4f).2.2.2

def Jti := Ys 111 B14 []
def Jtj := Ys 1101 B14 Jti
def Jtl := Ys 1111 B14 []
def Jtn := Ys 110101 B14 Jti

def Post.z4g (r : T38 × Int) (v : Value) (w' : World) : Prop :=
 ∃ S' ucd uce ucf, v = .tuple #[(ag (wT29 r.1.Op r.1.Text ucd uce ucf)), .i r.2] ∧ Ext S0 w0 S' w' ∧ Hp nz wz S' w' (Lr) ∧ Rd kT38 S' w' ucd ucf r.1.L ∧ r.1.L.length = uce

theorem W.z4g (x0 : T26) (r : T38 × Int) (h : M.a5c x0 = some r) {nz wz S0 w0 Lr} (u5 u6 u7) (p0 : Hp nz wz S0 w0 (Lr)) (um : x0.Set.length = 4) (un : Rd kT26 S0 w0 u5 u7 x0.L) (uo : x0.L.length = u6) :
  Calls Tryz.prog 14 #[(ag (vT26 x0 u5 u6 u7))] w0 (Rets (Post.z4g nz wz S0 w0 Lr r)) := by
 subst uo
 refine Zf Tryz.f14 B14 9 ?_
 refine Gj 10 [(0, (ag (vT26 x0 u5 x0.L.length u7)))] fun junk => ?_
 delta M.a5c at h
 refine Gn 2 [] (Yt 10 B14 [0, 1, 2] (Ys 11 B14 [])) ?_
 refine Ob 27 (.tmp 0) 1 0 (ag (vT26 x0 u5 x0.L.length u7)) (vT26 x0 u5 x0.L.length u7) p0 Goes.v fun b1 w2 z2 p2 => ?_
 refine Oa 39 2 0 (.agg #[.i 0, .string (⟨#[]⟩ : ByteArray), .slice none 0 0]) [.i 0, .string (⟨#[]⟩ : ByteArray), .slice none 0 0] p2 Goes.v fun b3 w3 z3 p3 => ?_
 refine Gn 5 [(3, .i 0)] (Yt 1100 B14 [0, 1, 2] Jtj) ?_
 refine Goes.ldN 27 (.tmp 1) 4 27 ⟨b1, 0, none⟩ (vT26 x0 u5 x0.L.length u7) (p3.pa 1 0) ?_
 refine Gb h fun y5 e6 h => ?_
 refine Gc (kc 55 [4] #[27]) 5 4 55 _ (W.z32 x0 y5 e6 _ _ _ p3 um (un.ext (z2.t z3)) rfl) ?_
 rintro _ w4 ⟨S4, rfl, z4, p4⟩
 refine Gn 2 [(6, .bool (!y5))] Jtj ?_
 refine Gi h (fun h7 h => ?_) fun h7 h => ?_
 ·
  rw [h7]
  refine Gn 4 [] (Yt 1110 B14 [0, 1, 2, 3] Jtl) ?_
  refine Goes.ldN 27 (.tmp 1) 8 27 ⟨b1, 0, none⟩ (vT26 x0 u5 x0.L.length u7) (p4.pa 1 0) ?_
  refine Gb h fun y8 e9 h => ?_
  refine Gc (kc 56 [8] #[27]) 9 39 56 _ (W.z4b x0 y8 e9 _ _ _ p4 um (un.ext ((z2.t z3).t z4)) rfl) ?_
  rintro _ w5 ⟨S5, ucg, uch, uci, rfl, z5, p5, ucj, rfl⟩
  have p5 := p5.dp 1
  refine So 39 (.tmp 2) (.tmp 9) 0 0 b3 0 ((ag (wT29 y8.Op y8.Text ucg y8.L.length uci))) (wT29 y8.Op y8.Text ucg y8.L.length uci) p5 rfl Goes.s fun w6 z6 p6 => ?_
  refine Gn 2 [(3, .i 0)] Jtl ?_
  obtain rfl := sj h
  exact R2 Tryz.f14 (.cell 2 39) (.tmp 3) (.tuple #[(ag (wT29 y8.Op y8.Text ucg y8.L.length uci)), .i 0]) (Rn b3 (p6.pa 0 0)) Rt ⟨_, _, _, _, rfl, ((((z2.t z3).t z4).t z5).t z6), p6.drop, (ucj.ext z6), rfl⟩
 ·
  rw [bf h7]
  refine Gn 4 [(7, .agg #[.i 0, .string (⟨#[]⟩ : ByteArray), .slice none 0 0])] (Yt 110100 B14 [1, 2] Jtn) ?_
  refine So 39 (.tmp 2) (.tmp 7) 0 0 b3 0 (.agg #[.i 0, .string (⟨#[]⟩ : ByteArray), .slice none 0 0]) [.i 0, .string (⟨#[]⟩ : ByteArray), .slice none 0 0] p4 rfl Goes.s fun w7 z7 p7 => ?_
  refine Gn 2 [(3, .i 2)] Jtn ?_
  obtain rfl := sj h
  have p7 := p7.dp 1
  exact R2 Tryz.f14 (.cell 2 39) (.tmp 3) (.tuple #[.agg #[.i 0, .string (⟨#[]⟩ : ByteArray), .slice none 0 0], .i 2]) (Rn b3 (p7.pa 0 0)) Rt ⟨_, _, _, _, rfl, (((z2.t z3).t z4).t z7), p7.drop, Rd.none_, rfl⟩

def Qmx := Yq 1110100 B15
def Jtr := Zl Qmx (Zb 0 (Ys 1111 B15 []))
def Jts := Zc Qmx Jtr
def Jtw := Zb 1 (Ys 111010011 B15 Jtr)

def Post.z4h (r : Bool) (v : Value) (w' : World) : Prop :=
 ∃ S', v = .bool r ∧ Ext S0 w0 S' w' ∧ Hp nz wz S' w' (Lr)

def L.z4i : (List ByteArray) × (List ByteArray) × Int → Bool → Prop := fun ⟨x0, x1, x5⟩ r => ∀ S1 w1, Ext S0 w0 S1 w1 → ∀ Ax0 nx0 cx0 Ax1 nx1 cx1 (_ : Hp nz wz S1 w1 (Lr)) (_ : Rd kStr S1 w1 Ax0 cx0 x0) (_ : x0.length = nx0) (_ : Rd kStr S1 w1 Ax1 cx1 x1) (_ : x1.length = nx1) (junk : Nat → Value),
 Goes Tryz.prog (base 15) Jts ⟨lfr 26 [(0, .slice Ax0 nx0 cx0), (1, .slice Ax1 nx1 cx1), (5, .i x5)] junk, []⟩ w1 (Done Tryz.prog 15 (Rets (Post.z4h nz wz S0 w0 Lr r)))

theorem W.z4i {nz wz S0 w0 Lr} : ∀ a r, M.a45 a = some r → (L.z4i nz wz S0 w0 Lr) a r := by
 refine M.a45.partial_correctness (motive := (L.z4i nz wz S0 w0 Lr)) ?_
 intro uky ukz ⟨x0, x1, x5⟩ r h S1 w1 hx Ax0 nx0 cx0 Ax1 nx1 cx1 p1 fx0 lx0 fx1 lx1 junk
 try dsimp only at h
 subst lx0
 subst lx1
 refine Gn 8 [(11, .i x5), (12, .slice Ax0 x0.length cx0), (13, .i (x0.length : Int)), (14, .bool (decide (x5 < (x0.length : Int))))] (Ys 111010001 B15 (Ys 11101001 B15 Jtr)) ?_
 refine Gi h (fun h2 h => ?_) fun h2 h => ?_
 ·
  rw [dt h2]
  refine Gn 5 [] (Ys 11101001000 B15 (Ys 11101001001 B15 Jtw)) ?_
  have z2 : Ext S1 w1 S1 (w1).drew := Ext.draw
  have p2 := p1.draw
  refine Gd [] (Fc S1 (w1).drew []) 6 9 ?_
  generalize (w1).drew = w2 at z2 p2 ⊢
  refine AnyG.pu 0 (.move (.tmp 0)) 17 43 (.slice Ax0 x0.length cx0) (Fc.here trivial) ?_
  refine AnyG.pu 1 (.move (.tmp 5)) 18 3 (.i x5) (Fc.here trivial) ?_
  refine Gg h fun g3 h => ?_
  refine AnyG.ixR_n (i := 2) 43 (.tmp 17) (.tmp 18) 19 0 9 .i64 x5 (gi x0 x5) rfl rfl (fx0.ext z2) (by kernel_rfl) (by kernel_rfl) (Fc.here trivial) (by kernel_rfl) (by kernel_rfl) (by kernel_rfl) (by kernel_rfl) g3 h2 fun a4 _ f5 q6 => ?_
  obtain rfl := q6
  refine Al 3 9 (.tmp 19) 20 9 a4 (.string (gi x0 x5)) (Fc.here trivial) (fun _ h => f5.fc h 0 _ rfl) ?_
  refine AnyG.pu 4 (.move (.tmp 1)) 21 43 (.slice Ax1 x1.length cx1) (Fc.here trivial) ?_
  refine AnyG.pu 5 (.move (.tmp 5)) 22 3 (.i x5) (Fc.here trivial) ?_
  refine Gg h fun g7 h => ?_
  refine AnyG.ixR_n (i := 6) 43 (.tmp 21) (.tmp 22) 23 0 9 .i64 x5 (gi x1 x5) rfl rfl (fx1.ext z2) (by kernel_rfl) (by kernel_rfl) (Fc.here trivial) (by kernel_rfl) (by kernel_rfl) (by kernel_rfl) (by kernel_rfl) g3 g7 fun a8 _ f9 q10 => ?_
  obtain rfl := q10
  refine Al 7 9 (.tmp 23) 24 9 a8 (.string (gi x1 x5)) (Fc.here trivial) (fun _ h => f9.fc h 0 _ rfl) ?_
  refine AnyG.pu 8 (.binOp .neq 9 (.tmp 20) (.tmp 24) 9) 25 4 (.bool (!((gi x0 x5).toList == (gi x1 x5).toList))) (Fc.here trivial) ?_
  refine Ad ?_
  refine Gi h (fun h11 h => ?_) fun h11 h => ?_
  ·
   rw [h11]
   refine Gm 9 [([15], .i x5), ([16, 5], .i (wr .i64 (x5 + 1)))] Jts ?_
   exact Gj 26 [(0, .slice Ax0 x0.length cx0), (1, .slice Ax1 x1.length cx1), (5, .i (wr .i64 (x5 + 1)))] (ukz _ _ h _ _ (hx.t z2) _ _ _ _ _ _ p2 (fx0.ext z2) rfl (fx1.ext z2) rfl)
  ·
   rw [bf h11]
   refine Gn 5 [(4, .bool false)] (Ys 1110100100101 B15 Jtw) ?_
   obtain rfl := sj h
   exact Goes.rt Tryz.f15 (.bool false) ⟨_, rfl, (hx.t z2), p2⟩
 ·
  rw [df h2]
  refine Gn 6 [(4, .bool true)] (Ys 11111 B15 []) ?_
  obtain rfl := sj h
  exact Goes.rt Tryz.f15 (.bool true) ⟨_, rfl, hx, p1⟩

def Ju1 := Ys 111 B15 []

theorem W.z4h (x0 : List ByteArray) (x1 : List ByteArray) (r : Bool) (h : M.a5u x0 x1 = some r) {nz wz S0 w0 Lr} (Ax0 nx0 cx0 Ax1 nx1 cx1) (p0 : Hp nz wz S0 w0 (Lr)) (fx0 : Rd kStr S0 w0 Ax0 cx0 x0) (lx0 : x0.length = nx0) (fx1 : Rd kStr S0 w0 Ax1 cx1 x1) (lx1 : x1.length = nx1) :
  Calls Tryz.prog 15 #[.slice Ax0 nx0 cx0, .slice Ax1 nx1 cx1] w0 (Rets (Post.z4h nz wz S0 w0 Lr r)) := by
 subst lx0
 subst lx1
 refine Zf Tryz.f15 B15 24 ?_
 refine Gj 26 [(0, .slice Ax0 x0.length cx0), (1, .slice Ax1 x1.length cx1)] fun junk => ?_
 delta M.a5u at h
 refine Gn 13 [(4, .bool false), (6, .slice Ax0 x0.length cx0), (7, .i (x0.length : Int)), (8, .slice Ax1 x1.length cx1), (9, .i (x1.length : Int)), (10, .bool (!(decide ((x0.length : Int) = (x1.length : Int)))))] (Ys 1101 B15 Ju1) ?_
 refine Gi h (fun h1 h => ?_) fun h1 h => ?_
 ·
  rw [dt h1]
  refine Gn 9 [(5, .i 0)] Jts ?_
  exact Gj 26 [(0, .slice Ax0 x0.length cx0), (1, .slice Ax1 x1.length cx1), (5, .i 0)] (W.z4i _ _ h _ _ (Ext.refl S0 w0) _ _ _ _ _ _ p0 fx0 rfl fx1 rfl)
 ·
  rw [df h1]
  refine Gn 5 [(4, .bool false)] (Ys 110101 B15 Ju1) ?_
  obtain rfl := sj h
  exact Goes.rt Tryz.f15 (.bool false) ⟨_, rfl, (Ext.refl S0 w0), p0⟩

def Qn9 := Yq 1110100 B19
def Ju6 := Zl Qn9 (Zb 0 (Ys 1111 B19 []))
def Ju7 := Zc Qn9 Ju6
def Ju9 := Ys 111010001 B19 (Ys 11101001 B19 Ju6)
def Juc := Ys 111 B19 []
def Qnf := Yq 110 B19
def Qng := Yq 111010000 B19
def Jul := Ys 11111 B19 []

def Post.z4j (r : T38) (v : Value) (w' : World) : Prop :=
 ∃ S' u0 u1 u2 u3, v = (ag (wT29 r.Op r.Text (Gp u0) u1 u2)) ∧ Ext S0 w0 S' w' ∧ Hp nz wz S' w' ((u0, .row 39 u3 (u2 * kT38.size) 0) :: Lr) ∧ Els kT38 S' w' u3 r.L ∧ r.L.length = u1

def LF.z4j : T29 × Int → T38 → Prop := fun ⟨x0, x1⟩ r => ∀ {nz wz S0 w0 Lr} u5 u6 u7 (_ : Hp nz wz S0 w0 (Lr)) (_ : Rd kT29 S0 w0 u5 u7 x0.L) (_ : x0.L.length = u6),
 Calls Tryz.prog 19 #[(ag (wT29 x0.Op x0.Text u5 u6 u7)), .i x1] w0 (Rets (Post.z4j nz wz S0 w0 Lr r))

def L.z4k : Int × T29 × T38 × T38 × Int → T38 → Prop := fun ⟨x1, x2v, x4v, x5v, x6⟩ r => ∀ S1 w1, Ext S0 w0 S1 w1 → ∀ gx2 u8p u8q u8r gx4 u9e u9f u9g u9h gx5 ul0 ul1 ul2 ul3 (_ : Hp nz wz S1 w1 ((some gx2, .row 30 (wT29 x2v.Op x2v.Text u8p u8q u8r) 3 0) :: (some gx4, .row 39 (wT29 x4v.Op x4v.Text (Gp u9e) u9f u9g) 3 0) :: (u9e, .row 39 u9h (u9g * kT38.size) 0) :: (some gx5, .row 39 (wT29 x5v.Op x5v.Text (Gp ul0) ul1 ul2) 3 0) :: (ul0, .row 39 ul3 (ul2 * kT38.size) 0) :: Lr)) (_ : Rd kT29 S1 w1 u8p u8r x2v.L) (_ : x2v.L.length = u8q) (_ : Els kT38 S1 w1 u9h x4v.L) (_ : x4v.L.length = u9f) (_ : Els kT38 S1 w1 ul3 x5v.L) (_ : x5v.L.length = ul1) (junk : Nat → Value),
 Goes Tryz.prog (base 19) Ju7 ⟨lfr 37 [(1, .i x1), (2, (pt gx2 0)), (4, (pt gx4 0)), (5, (pt gx5 0)), (6, .i x6)] junk, []⟩ w1 (Done Tryz.prog 19 (Rets (Post.z4j nz wz S0 w0 Lr r)))

def LL.z4k : Int × T29 × T38 × T38 × Int → T38 → Prop := fun a r => ∀ {nz wz S0 w0 Lr}, L.z4k nz wz S0 w0 Lr a r

def L.z4l : Int × T29 × T38 × T38 × Int × Bool → T38 → Prop := fun ⟨x1, x2v, x4v, x5v, x6, x20⟩ r => ∀ S1 w1, Ext S0 w0 S1 w1 → ∀ gx2 u8p u8q u8r gx4 u9e u9f u9g u9h gx5 ul0 ul1 ul2 ul3 (_ : Hp nz wz S1 w1 ((some gx2, .row 30 (wT29 x2v.Op x2v.Text u8p u8q u8r) 3 0) :: (some gx4, .row 39 (wT29 x4v.Op x4v.Text (Gp u9e) u9f u9g) 3 0) :: (u9e, .row 39 u9h (u9g * kT38.size) 0) :: (some gx5, .row 39 (wT29 x5v.Op x5v.Text (Gp ul0) ul1 ul2) 3 0) :: (ul0, .row 39 ul3 (ul2 * kT38.size) 0) :: Lr)) (_ : Rd kT29 S1 w1 u8p u8r x2v.L) (_ : x2v.L.length = u8q) (_ : Els kT38 S1 w1 u9h x4v.L) (_ : x4v.L.length = u9f) (_ : Els kT38 S1 w1 ul3 x5v.L) (_ : x5v.L.length = ul1) (junk : Nat → Value),
 Goes Tryz.prog (base 19) Ju9 ⟨lfr 37 [(1, .i x1), (2, (pt gx2 0)), (4, (pt gx4 0)), (5, (pt gx5 0)), (6, .i x6), (20, .bool x20)] junk, []⟩ w1 (Done Tryz.prog 19 (Rets (Post.z4j nz wz S0 w0 Lr r)))

def LL.z4l : Int × T29 × T38 × T38 × Int × Bool → T38 → Prop := fun a r => ∀ {nz wz S0 w0 Lr}, L.z4l nz wz S0 w0 Lr a r

theorem W.z4m : (∀ a r, M.aj a = some r → LF.z4j a r) ∧ (∀ a r, M.a2y a = some r → LL.z4k a r) ∧ (∀ a r, M.a46 a = some r → LL.z4l a r) := by
 refine M.aj.mutual_partial_correctness LF.z4j LL.z4k LL.z4l ?_ ?_ ?_
 ·
  intro ul4 ul5 ⟨x0, x1⟩ r h nz wz S0 w0 Lr u5 u6 u7 p0 un uo
  try dsimp only at h
  subst uo
  refine Zf Tryz.f19 B19 35 ?_
  refine Gj 37 [(0, (ag (wT29 x0.Op x0.Text u5 x0.L.length u7))), (1, .i x1)] fun junk => ?_
  refine Gn 2 [] (Yt 10 B19 [0, 1] (Ys 11 B19 [])) ?_
  refine Ob 30 (.tmp 0) 2 0 ((ag (wT29 x0.Op x0.Text u5 x0.L.length u7))) (wT29 x0.Op x0.Text u5 x0.L.length u7) p0 Goes.v fun b1 w2 z2 p2 => ?_
  refine Oa 39 4 0 (.agg #[.i 0, .string (⟨#[]⟩ : ByteArray), .slice none 0 0]) [.i 0, .string (⟨#[]⟩ : ByteArray), .slice none 0 0] p2 Goes.v fun b3 w3 z3 p3 => ?_
  refine Gn 4 [(7, (pt b1 0))] (Zr Qnf [1, 2, 3, 4, 5, 6] Juc) ?_
  refine Goes.ld 3 (.tmp 7) 8 3 ⟨b1, 0, none⟩ (.i x0.Op) (p3.c 1 0) ?_
  refine Gn 1 [(9, (pt b1 1))] (Zr Qnf [3, 4, 5, 6] Juc) ?_
  refine Goes.ld 9 (.tmp 9) 10 9 ⟨b1, 1, none⟩ (.string x0.Text) (p3.c 1 1) ?_
  refine Gn 1 [(11, (ag (wT29 x0.Op x0.Text none 0 0)))] (Zr Qnf [5, 6] Juc) ?_
  refine Oa 39 5 0 (.agg #[.i 0, .string (⟨#[]⟩ : ByteArray), .slice none 0 0]) [.i 0, .string (⟨#[]⟩ : ByteArray), .slice none 0 0] p3 Goes.v fun b5 w4 z4 p4 => ?_
  refine So 39 (.tmp 5) (.tmp 11) 0 0 b5 0 ((ag (wT29 x0.Op x0.Text none 0 0))) (wT29 x0.Op x0.Text none 0 0) p4 rfl Goes.s fun w5 z5 p5 => ?_
  refine Gn 8 [(6, .i 0)] Ju7 ?_
  have p5 : Hp nz wz S0 w5 ((none, .row 39 [] (0 * kT38.size) 0) :: (some b5, .row 39 (wT29 x0.Op x0.Text none 0 0) 3 0) :: (some b3, .row 39 [.i 0, .string (⟨#[]⟩ : ByteArray), .slice none 0 0] 3 0) :: (some b1, .row 30 (wT29 x0.Op x0.Text u5 x0.L.length u7) 3 0) :: Lr) := p5.nilRow' 39
  have p5 : Hp nz wz S0 w5 ((none, .row 39 [] (0 * kT38.size) 0) :: (none, .row 39 [] (0 * kT38.size) 0) :: (some b5, .row 39 (wT29 x0.Op x0.Text none 0 0) 3 0) :: (some b3, .row 39 [.i 0, .string (⟨#[]⟩ : ByteArray), .slice (Gp none) 0 0] 3 0) :: (some b1, .row 30 (wT29 x0.Op x0.Text u5 x0.L.length u7) 3 0) :: Lr) := p5.nilRow' 39
  have p5 := ((((p5.fr 0).fr 2).fr 2).fr 3).fr 4
  exact Gj 37 [(1, .i x1), (2, (pt b1 0)), (4, (pt b3 0)), (5, (pt b5 0)), (6, .i 0)] (ul5 _ _ h _ _ (((z2.t z3).t z4).t z5) _ _ _ _ _ none 0 0 [] _ none 0 0 [] p5 (un.ext (((z2.t z3).t z4).t z5)) rfl (Els.nil (K := kT38)) rfl (Els.nil (K := kT38)) rfl)
 ·
  intro ul6 ul7 ⟨x1, x2v, x4v, x5v, x6⟩ r h nz wz S0 w0 Lr S1 w1 hx gx2 u8p u8q u8r gx4 u9e u9f u9g u9h gx5 ul0 ul1 ul2 ul3 p1 u8s u8t u9k u9l ul8 ul9 junk
  try dsimp only at h
  subst u8t
  subst u9l
  subst ul9
  refine Gn 5 [(12, .i x6), (13, (pt gx2 2))] (Zr Qng [2, 3, 4, 5, 6, 7, 8] Ju9) ?_
  refine Goes.ld 28 (.tmp 13) 14 28 ⟨gx2, 2, none⟩ (.slice u8p x2v.L.length u8r) (p1.c 0 2) ?_
  refine Gm 3 [([15], .i (x2v.L.length : Int)), ([16, 17], .bool (decide (x6 < (x2v.L.length : Int))))] (Zr Qng [6, 7, 8] Ju9) ?_
  refine Gi h (fun h14 h => ?_) fun h14 h => ?_
  ·
   rw [dt h14]
   refine Gm 4 [([18], .i x1), ([19, 20], .bool (decide (x1 > 0)))] Ju9 ?_
   exact Gj 37 [(1, .i x1), (2, (pt gx2 0)), (4, (pt gx4 0)), (5, (pt gx5 0)), (6, .i x6), (20, .bool (decide (x1 > 0)))] (ul7 _ _ h _ _ hx _ _ _ _ _ _ _ _ _ _ _ _ _ _ p1 u8s rfl u9k rfl ul8 rfl)
  ·
   rw [df h14]
   refine Gm 4 [([18, 19], undef), ([20], .bool false)] Ju9 ?_
   exact Gj 37 [(1, .i x1), (2, (pt gx2 0)), (4, (pt gx4 0)), (5, (pt gx5 0)), (6, .i x6), (20, .bool false)] (ul7 _ _ h _ _ hx _ _ _ _ _ _ _ _ _ _ _ _ _ _ p1 u8s rfl u9k rfl ul8 rfl)
 ·
  intro ula ul4 ulb ul5 ⟨x1, x2v, x4v, x5v, x6, x20⟩ r h nz wz S0 w0 Lr S1 w1 hx gx2 u8p u8q u8r gx4 u9e u9f u9g u9h gx5 ul0 ul1 ul2 ul3 p1 u8s u8t u9k u9l ul8 ul9 junk
  try dsimp only at h
  subst u8t
  subst u9l
  subst ul9
  refine Gi h (fun h20 h => ?_) fun h20 h => ?_
  ·
   rw [h20]
   refine Gn 4 [] (Ys 1110100100 B19 (Zb 1 (Ys 111010011 B19 Ju6))) ?_
   have z6 : Ext S1 w1 S1 (w1).drew := Ext.draw
   have p6 := p1.draw
   refine Gd [11, 13] (Fc S1 (w1).drew [(⟨gx5, 2, none⟩, .slice (Gp ul0) x5v.L.length ul2), (⟨gx2, 2, none⟩, .slice u8p x2v.L.length u8r)]) 5 14 ?_
   generalize (w1).drew = w6 at z6 p6 ⊢
   refine AnyG.pu 0 (.fieldAddr 39 (.tmp 5) 2) 23 0 ((pt gx5 2)) (Fc.here (p6.cs [(3, 2, 1), (0, 2, 1)])) ?_
   refine Al 1 37 (.tmp 23) 24 37 ⟨gx5, 2, none⟩ (.slice (Gp ul0) x5v.L.length ul2) (Fc.here (p6.cs [(3, 2, 1), (0, 2, 1)])) (fun _ h => h.2.at_ 0 rfl) ?_
   refine AnyG.pu 2 (.fieldAddr 30 (.tmp 2) 2) 25 0 ((pt gx2 2)) (Fc.here (p6.cs [(3, 2, 1), (0, 2, 1)])) ?_
   refine Al 3 28 (.tmp 25) 26 28 ⟨gx2, 2, none⟩ (.slice u8p x2v.L.length u8r) (Fc.here (p6.cs [(3, 2, 1), (0, 2, 1)])) (fun _ h => h.2.at_ 1 rfl) ?_
   refine AnyG.pu 4 (.move (.tmp 6)) 27 3 (.i x6) (Fc.here (p6.cs [(3, 2, 1), (0, 2, 1)])) ?_
   refine Gg h fun g21 h => ?_
   refine Gg h fun g22 h => ?_
   refine AnyG.ixR_n (i := 5) 28 (.tmp 26) (.tmp 27) 28 0 30 .i64 x6 (gi x2v.L x6) rfl rfl (u8s.ext z6) (by kernel_rfl) (by kernel_rfl) (Fc.here (p6.cs [(3, 2, 1), (0, 2, 1)])) (by kernel_rfl) (by kernel_rfl) (by kernel_rfl) (by kernel_rfl) g21 g22 fun a23 _ f24 q25 => ?_
   have q26 := q25
   obtain ⟨_, _, rfl, rfl, ⟨_, _, rfl, rfl, ⟨A27, c28, rfl, f29⟩⟩⟩ := kT29_open q26
   refine AnyG.ldN (i := 6) 30 (.tmp 28) 29 30 a23 ([.i ((gi x2v.L x6).Op)] ++ ([.string ((gi x2v.L x6).Text)] ++ [.slice A27 (((gi x2v.L x6).L).length) c28])) (by kernel_rfl) (by kernel_rfl) (Fc.here (p6.cs [(3, 2, 1), (0, 2, 1)])) (by kernel_rfl) (by kernel_rfl) (by kernel_rfl) (fun _ h => f24.fc h) ?_
   refine AnyG.pu 7 (.move (.tmp 1)) 30 3 (.i x1) (Fc.here (p6.cs [(3, 2, 1), (0, 2, 1)])) ?_
   refine AnyG.pu 8 (.binOp .sub 3 (.tmp 30) (.const (.int .i64 1)) 3) 31 3 (.i (wr .i64 (x1 - 1))) (Fc.here (p6.cs [(3, 2, 1), (0, 2, 1)])) ?_
   refine Gb h fun y30 e31 h => ?_
   refine Oc (kc 19 [29, 31] #[30, 3]) 32 39 19 #[(ag (wT29 (gi x2v.L x6).Op (gi x2v.L x6).Text A27 (((gi x2v.L x6).L).length) c28)), .i (wr .i64 (x1 - 1))] (Ac 9) (ulb (gi x2v.L x6, wr .i64 (x1 - 1)) y30 e31 _ _ _ p6 f29 rfl) ?_
   rintro _ w7 ⟨S7, ulc, ubi, ubj, uld, rfl, z7, p7, ubk, rfl⟩
   refine AnyG.next z7 ⟨(p7.c 4 2), (p7.c 1 2), trivial⟩ ?_
   obtain ⟨S8, z8, p8, f33⟩ := p7.freezeRd 0 rfl ubk (by decide)
   refine AnyG.refz z8 ?_
   have f35 : Els kT38 S8 w7 ((wT29 y30.Op y30.Text (Gp ulc) y30.L.length ubj) : List Value) [y30] := by exact (Els.cons (K := kT38) (vs := (wT29 y30.Op y30.Text (Gp ulc) y30.L.length ubj)) (x := y30) (kT38_close ⟨[.i y30.Op], [.string y30.Text, .slice (Gp ulc) y30.L.length ubj], rfl, rfl, ⟨[.string y30.Text], [.slice (Gp ulc) y30.L.length ubj], rfl, rfl, ⟨_, _, rfl, f33⟩⟩⟩) Els.nil)
   refine Om (.buildSlice 37 1 #[(0, (.tmp 32))]) 33 37 (fun b => .slice (Gp (some b)) 1 1) 39 ((wT29 y30.Op y30.Text (Gp ulc) y30.L.length ubj) : List Value) (1 * kT38.size) p8 (Av 10) fun b34 w9 z9 p9 => ?_
   refine AnyG.next z9 ⟨(p9.c 5 2), (p9.c 2 2), trivial⟩ ?_
   refine Gg h fun g40 h => ?_
   refine On (K := kT38) 37 (.tmp 24) (.tmp 33) 34 37 39 6 (.agg #[.i 0, .string ⟨#[]⟩, .slice none 0 0]) 48 x5v.L.length ul2 1 x5v.L [y30] (x5v.L ++ [y30]) (Gp (some b34)) 1 rfl rfl rfl p9 rfl (ul8.ext (((z6.t z7).t z8).t z9)) (Av 11) (f35.ext z9) (src_own p9 (q := 0) rfl) g40 fun w10 G41 c42 uaf z10 p10 f44 => ?_
   refine AnyG.last [13] (Fc S8 w10 []) (by decide) ?_
   refine AnyG.pu 12 (.fieldAddr 39 (.tmp 5) 2) 35 0 ((pt gx5 2)) (Fc.here trivial) ?_
   refine So 37 (.tmp 35) (.tmp 34) 0 5 gx5 2 (.slice (Gp G41) ((x5v.L ++ [y30]).length) c42) [.slice (Gp G41) ((x5v.L ++ [y30]).length) c42] p10 rfl (As 13) fun w11 z11 p11 => ?_
   refine AnyG.last [] (Fc S8 w11 []) (by decide) ?_
   refine Ad ?_
   have p11 := (p11.dp 0).dp 0
   refine Gm 7 [([21], .i x6), ([22, 6], .i (wr .i64 (x6 + 1)))] Ju7 ?_
   exact Gj 37 [(1, .i x1), (2, (pt gx2 0)), (4, (pt gx4 0)), (5, (pt gx5 0)), (6, .i (wr .i64 (x6 + 1)))] (ul5 _ _ h _ _ ((((((hx.t z6).t z7).t z8).t z9).t z10).t z11) _ _ _ _ _ _ _ _ _ _ _ _ _ _ p11 (u8s.ext (((((z6.t z7).t z8).t z9).t z10).t z11)) rfl (u9k.ext (((((z6.t z7).t z8).t z9).t z10).t z11)) rfl (f44.ext z11) rfl)
  ·
   rw [bf h20]
   refine Gn 4 [] (Yt 11110 B19 [0, 1] Jul) ?_
   refine Goes.ldN 39 (.tmp 5) 36 39 ⟨gx5, 0, none⟩ (wT29 x5v.Op x5v.Text (Gp ul0) x5v.L.length ul2) (p1.pa 3 0) ?_
   refine So 39 (.tmp 4) (.tmp 36) 0 1 gx4 0 ((ag (wT29 x5v.Op x5v.Text (Gp ul0) x5v.L.length ul2))) (wT29 x5v.Op x5v.Text (Gp ul0) x5v.L.length ul2) p1 rfl Goes.s fun w12 z12 p12 => ?_
   refine Gn 1 [] Jul ?_
   obtain rfl := sj h
   have p12 := ((p12.dp 0).dp 1).dp 1
   exact R1 Tryz.f19 (.cell 4 39) ((ag (wT29 x5v.Op x5v.Text (Gp ul0) x5v.L.length ul2))) (Rn gx4 (p12.pa 0 0)) ⟨_, _, _, _, _, rfl, (hx.t z12), p12.drop, (ul8.ext z12), rfl⟩

theorem W.z4j : ∀ a r, M.aj a = some r → LF.z4j a r := (W.z4m).1

theorem W.z4k : ∀ a r, M.a2y a = some r → LL.z4k a r := (W.z4m).2.1

theorem W.z4l : ∀ a r, M.a46 a = some r → LL.z4l a r := (W.z4m).2.2

def Jun := Ys 1111 B61 []
def Juo := Ys 11101 B61 Jun
def Jup := Ys 11111 B61 []
def Qno := Yq 11110100 B61
def Jur := Zl Qno (Zb 0 Jup)
def Jus := Zc Qno Jur
def Juv := Ys 111 B61 []
def Qns := Yq 110 B61
def Qnt := Yq 11100 B61
def Jv6 := Zb 1 (Ys 11110100111 B61 Jur)
def Jv9 := Ys 11110100110011 B61 Jv6
def Qo3 := Yq 11110100110010 B61

def Post.z4n (gx2 : Nat) (r : Bool × Int) (v : Value) (w' : World) : Prop :=
 ∃ S', v = .bool r.1 ∧ Ext S0 w0 S' w' ∧ Hp nz wz S' w' ((some gx2, .row 3 [.i r.2] 1 0) :: Lr)

def LF.z4n : T29 × Int × Int → (Bool × Int) → Prop := fun ⟨x0, x1, u4⟩ r => ∀ {nz wz S0 w0 Lr} u5 u6 u7 gx2 (_ : Hp nz wz S0 w0 ((some gx2, .row 3 [.i u4] 1 0) :: Lr)) (_ : Rd kT29 S0 w0 u5 u7 x0.L) (_ : x0.L.length = u6),
 Calls Tryz.prog 61 #[(ag (wT29 x0.Op x0.Text u5 u6 u7)), .i x1, (pt gx2 0)] w0 (Rets (Post.z4n nz wz S0 w0 Lr gx2 r))

def L.z4o (gx2 : Nat) : Int × T29 × Bool × Int → (Bool × Int) → Prop := fun ⟨x1, x3v, x21, u8⟩ r => ∀ S1 w1, Ext S0 w0 S1 w1 → ∀ gx3 u9 ua ub (_ : Hp nz wz S1 w1 ((some gx3, .row 30 (wT29 x3v.Op x3v.Text u9 ua ub) 3 0) :: (some gx2, .row 3 [.i u8] 1 0) :: Lr)) (_ : Rd kT29 S1 w1 u9 ub x3v.L) (_ : x3v.L.length = ua) (junk : Nat → Value),
 Goes Tryz.prog (base 61) Juo ⟨lfr 36 [(1, .i x1), (2, (pt gx2 0)), (3, (pt gx3 0)), (21, .bool x21)] junk, []⟩ w1 (Done Tryz.prog 61 (Rets (Post.z4n nz wz S0 w0 Lr gx2 r)))

def LL.z4o : Int × T29 × Bool × Int → (Bool × Int) → Prop := fun a r => ∀ {nz wz S0 w0 Lr} (gx2 : Nat), L.z4o nz wz S0 w0 Lr gx2 a r

def L.z4p (gx2 : Nat) : Int × (List T29) × Int × Int × Int → (Bool × Int) → Prop := fun ⟨x1, x23, x24, x25, u8⟩ r => ∀ S1 w1, Ext S0 w0 S1 w1 → ∀ u1o u1p u1q (_ : Hp nz wz S1 w1 ((some gx2, .row 3 [.i u8] 1 0) :: Lr)) (_ : Rd kT29 S1 w1 u1o u1q x23) (_ : x23.length = u1p) (junk : Nat → Value),
 Goes Tryz.prog (base 61) Jus ⟨lfr 36 [(1, .i x1), (2, (pt gx2 0)), (23, .slice u1o u1p u1q), (24, .i x24), (25, .i x25)] junk, []⟩ w1 (Done Tryz.prog 61 (Rets (Post.z4n nz wz S0 w0 Lr gx2 r)))

def LL.z4p : Int × (List T29) × Int × Int × Int → (Bool × Int) → Prop := fun a r => ∀ {nz wz S0 w0 Lr} (gx2 : Nat), L.z4p nz wz S0 w0 Lr gx2 a r

theorem W.z4q : (∀ a r, M.ao a = some r → LF.z4n a r) ∧ (∀ a r, M.a1y a = some r → LL.z4o a r) ∧ (∀ a r, M.a1d a = some r → LL.z4p a r) := by
 refine M.ao.mutual_partial_correctness LF.z4n LL.z4o LL.z4p ?_ ?_ ?_
 ·
  intro ule ulf ⟨x0, x1, u4⟩ r h nz wz S0 w0 Lr u5 u6 u7 gx2 p0 un uo
  try dsimp only at h
  subst uo
  refine Zf Tryz.f61 B61 33 ?_
  refine Gj 36 [(0, (ag (wT29 x0.Op x0.Text u5 x0.L.length u7))), (1, .i x1), (2, (pt gx2 0))] fun junk => ?_
  refine Gn 2 [] (Yt 10 B61 [0, 1] (Ys 11 B61 [])) ?_
  refine Ob 30 (.tmp 0) 3 0 ((ag (wT29 x0.Op x0.Text u5 x0.L.length u7))) (wT29 x0.Op x0.Text u5 x0.L.length u7) p0 Goes.v fun b2 w2 z2 p2 => ?_
  refine Gm 6 [([6], .bool false), ([9, 10], (pt gx2 0))] (Zr Qns [2, 3, 4, 5] Juv) ?_
  refine Goes.ld 3 (.tmp 10) 11 3 ⟨gx2, 0, none⟩ (.i u4) (p2.c 1 0) ?_
  refine Gn 2 [(12, .i (wr .i64 (u4 + 1))), (13, (pt gx2 0))] (Zr Qns [5] Juv) ?_
  refine So 3 (.tmp 13) (.tmp 12) 0 1 gx2 0 (.i (wr .i64 (u4 + 1))) [.i (wr .i64 (u4 + 1))] p2 rfl Goes.s fun w3 z3 p3 => ?_
  refine Gm 7 [([14], .i x1), ([15, 16], .bool (decide (x1 = 0)))] (Zr Qnt [3, 4, 5, 6, 7] Juo) ?_
  refine Gi h (fun h4 h => ?_) fun h4 h => ?_
  ·
   rw [dt h4]
   refine Gm 6 [([17, 18, 19, 20], undef), ([21], .bool true)] Juo ?_
   exact Gj 36 [(1, .i x1), (2, (pt gx2 0)), (3, (pt b2 0)), (21, .bool true)] (ulf _ _ h gx2 _ _ (z2.t z3) _ _ _ _ p3 (un.ext (z2.t z3)) rfl)
  ·
   rw [df h4]
   refine Gm 2 [([17, 18], (pt gx2 0))] (Zr Qnt [5, 6, 7] Juo) ?_
   refine Goes.ld 3 (.tmp 18) 19 3 ⟨gx2, 0, none⟩ (.i (wr .i64 (u4 + 1))) (p3.c 1 0) ?_
   refine Gm 3 [([20, 21], .bool (decide (wr .i64 (u4 + 1) > 4096)))] Juo ?_
   exact Gj 36 [(1, .i x1), (2, (pt gx2 0)), (3, (pt b2 0)), (21, .bool (decide (wr .i64 (u4 + 1) > 4096)))] (ulf _ _ h gx2 _ _ (z2.t z3) _ _ _ _ p3 (un.ext (z2.t z3)) rfl)
 ·
  intro ulg ulh ⟨x1, x3v, x21, u8⟩ r h nz wz S0 w0 Lr gx2 S1 w1 hx gx3 u9 ua ub p1 ut uu junk
  try dsimp only at h
  subst uu
  refine Gi h (fun h6 h => ?_) fun h6 h => ?_
  ·
   rw [h6]
   refine Gn 5 [(6, .bool false)] (Ys 1110101 B61 Jun) ?_
   obtain rfl := sj h
   have p1 := p1.dp 0
   exact Goes.rt Tryz.f61 (.bool false) ⟨_, rfl, hx, p1⟩
  ·
   rw [bf h6]
   refine Gn 6 [(22, (pt gx3 2))] (Yt 111100 B61 [1, 2, 3] (Ys 111101 B61 Jup)) ?_
   refine Goes.ld 28 (.tmp 22) 23 28 ⟨gx3, 2, none⟩ (.slice u9 x3v.L.length ub) (p1.c 0 2) ?_
   refine Gn 5 [(24, .i (x3v.L.length : Int)), (25, .i 0)] Jus ?_
   have p1 := p1.dp 0
   exact Gj 36 [(1, .i x1), (2, (pt gx2 0)), (23, .slice u9 x3v.L.length ub), (24, .i (x3v.L.length : Int)), (25, .i 0)] (ulh _ _ h gx2 _ _ hx _ _ _ p1 ut rfl)
 ·
  intro rec_gram_Query_count ulg ih_gram_Query_count ulh ⟨x1, x23, x24, x25, u8⟩ r h nz wz S0 w0 Lr gx2 S1 w1 hx u1o u1p u1q p1 u1v u1w junk
  try dsimp only at h
  subst u1w
  refine Gn 5 [(26, .bool (decide (x25 < x24)))] (Ys 1111010010 B61 (Ys 1111010011 B61 Jur)) ?_
  refine Gi h (fun h7 h => ?_) fun h7 h => ?_
  ·
   rw [dt h7]
   refine Gn 6 [] (Yt 1111010011000 B61 [0, 1, 2, 3] (Ys 1111010011001 B61 Jv6)) ?_
   refine Gg h fun g8 h => ?_
   refine Gg h fun g9 h => ?_
   refine Oi 28 (.tmp 23) (.tmp 25) 27 0 30 .i64 x25 (gi x23 x25) rfl rfl u1v Goes.v g8 g9 fun a10 _ f11 q12 => ?_
   have q13 := q12
   obtain ⟨_, _, rfl, rfl, ⟨_, _, rfl, rfl, ⟨A14, c15, rfl, f16⟩⟩⟩ := kT29_open q13
   refine Goes.ldN 30 (.tmp 27) 28 30 a10 ([.i ((gi x23 x25).Op)] ++ ([.string ((gi x23 x25).Text)] ++ [.slice A14 (((gi x23 x25).L).length) c15])) (f11.cell) ?_
   refine Oa 30 8 0 (.agg #[.i 0, .string (⟨#[]⟩ : ByteArray), .slice none 0 0]) [.i 0, .string (⟨#[]⟩ : ByteArray), .slice none 0 0] p1 Goes.v fun b17 w4 z4 p4 => ?_
   refine So 30 (.tmp 8) (.tmp 28) 0 0 b17 0 ((ag (wT29 (gi x23 x25).Op (gi x23 x25).Text A14 (((gi x23 x25).L).length) c15))) (wT29 (gi x23 x25).Op (gi x23 x25).Text A14 (((gi x23 x25).L).length) c15) p4 rfl Goes.s fun w5 z5 p5 => ?_
   refine Gn 3 [] (Zr Qo3 [0, 1, 2, 3, 4, 5] Jv9) ?_
   refine Goes.ldN 30 (.tmp 8) 29 30 ⟨b17, 0, none⟩ (wT29 (gi x23 x25).Op (gi x23 x25).Text A14 (((gi x23 x25).L).length) c15) (p5.pa 0 0) ?_
   refine Gn 3 [(30, .i x1), (31, .i (wr .i64 (x1 - 1))), (32, (pt gx2 0))] (Zr Qo3 [4, 5] Jv9) ?_
   have p5 := p5.fr 1
   refine Gb h fun y19 e20 h => ?_
   refine Gc (kc 61 [29, 31, 32] #[30, 3, 33]) 33 4 61 _ (ih_gram_Query_count (gi x23 x25, wr .i64 (x1 - 1), u8) y19 e20 _ _ _ _ p5 (f16.ext (z4.t z5)) rfl) ?_
   rintro _ w6 ⟨S6, rfl, z6, p6⟩
   have p6 := p6.dp 1
   refine Gn 2 [(34, .bool (!y19.1))] Jv9 ?_
   refine Gi h (fun h21 h => ?_) fun h21 h => ?_
   ·
    rw [h21]
    refine Gm 8 [([35, 25], .i (wr .i64 (x25 + 1)))] Jus ?_
    exact Gj 36 [(1, .i x1), (2, (pt gx2 0)), (23, .slice u1o x23.length u1q), (24, .i x24), (25, .i (wr .i64 (x25 + 1)))] (ulh _ _ h gx2 _ _ (((hx.t z4).t z5).t z6) _ _ _ p6 (u1v.ext ((z4.t z5).t z6)) rfl)
   ·
    rw [bf h21]
    refine Gn 5 [(6, .bool false)] (Ys 1111010011001101 B61 Jv6) ?_
    obtain rfl := sj h
    exact Goes.rt Tryz.f61 (.bool false) ⟨_, rfl, (((hx.t z4).t z5).t z6), p6⟩
  ·
   rw [df h7]
   refine Gn 6 [(6, .bool true)] (Ys 111111 B61 []) ?_
   obtain rfl := sj h
   exact Goes.rt Tryz.f61 (.bool true) ⟨_, rfl, hx, p1⟩

theorem W.z4n : ∀ a r, M.ao a = some r → LF.z4n a r := (W.z4q).1

theorem W.z4o : ∀ a r, M.a1y a = some r → LL.z4o a r := (W.z4q).2.1

theorem W.z4p : ∀ a r, M.a1d a = some r → LL.z4p a r := (W.z4q).2.2

def Jve := Ys 111 B62 []
def Jvf := Zb 0 Jve
def Jvg := Ys 110101 B62 Jvf
def Jvh := Ys 1101011111 B62 Jvf
def Jvn := Ys 11010101 B62 Jvf
def Qof := Yq 11010100 B62
def Jvs := Ys 1101011101 B62 Jvf
def Qoi := Yq 1101011100 B62
def Jvx := Ys 110101111101 B62 Jvf
def Qol := Yq 110101111100 B62
def Jw4 := Ys 111 B129 []

def Post.z4r (r : Bool) (v : Value) (w' : World) : Prop :=
 ∃ S', v = .bool r ∧ Ext S0 w0 S' w' ∧ Hp nz wz S' w' (Lr)

def Post.z4s (r : Bool) (v : Value) (w' : World) : Prop :=
 ∃ S', v = .bool r ∧ Ext S0 w0 S' w' ∧ Hp nz wz S' w' (Lr)

def Post.z4t (r : Int) (v : Value) (w' : World) : Prop :=
 ∃ S', v = .i r ∧ Ext S0 w0 S' w' ∧ Hp nz wz S' w' (Lr)

def Post.z4u (r : Bool) (v : Value) (w' : World) : Prop :=
 ∃ S', v = .bool r ∧ Ext S0 w0 S' w' ∧ Hp nz wz S' w' (Lr)

def LF.z4r : T29 → Bool → Prop := fun x0 r => ∀ {nz wz S0 w0 Lr} u5 u6 u7 (_ : Hp nz wz S0 w0 (Lr)) (_ : Rd kT29 S0 w0 u5 u7 x0.L) (_ : x0.L.length = u6),
 Calls Tryz.prog 62 #[(ag (wT29 x0.Op x0.Text u5 u6 u7))] w0 (Rets (Post.z4r nz wz S0 w0 Lr r))

def L.z4v : T29 × Int × Bool → Bool → Prop := fun ⟨x1v, x4, x5⟩ r => ∀ S1 w1, Ext S0 w0 S1 w1 → ∀ gx1 u1z u20 u21 (_ : Hp nz wz S1 w1 ((some gx1, .row 30 (wT29 x1v.Op x1v.Text u1z u20 u21) 3 0) :: Lr)) (_ : Rd kT29 S1 w1 u1z u21 x1v.L) (_ : x1v.L.length = u20) (junk : Nat → Value),
 Goes Tryz.prog (base 62) Jvg ⟨lfr 41 [(1, (pt gx1 0)), (4, .i x4), (5, .bool x5)] junk, []⟩ w1 (Done Tryz.prog 62 (Rets (Post.z4r nz wz S0 w0 Lr r)))

def LL.z4v : T29 × Int × Bool → Bool → Prop := fun a r => ∀ {nz wz S0 w0 Lr}, L.z4v nz wz S0 w0 Lr a r

def L.z4w : T29 × Bool → Bool → Prop := fun ⟨x1v, x29⟩ r => ∀ S1 w1, Ext S0 w0 S1 w1 → ∀ gx1 u1z u20 u21 (_ : Hp nz wz S1 w1 ((some gx1, .row 30 (wT29 x1v.Op x1v.Text u1z u20 u21) 3 0) :: Lr)) (_ : Rd kT29 S1 w1 u1z u21 x1v.L) (_ : x1v.L.length = u20) (junk : Nat → Value),
 Goes Tryz.prog (base 62) Jvh ⟨lfr 41 [(1, (pt gx1 0)), (29, .bool x29)] junk, []⟩ w1 (Done Tryz.prog 62 (Rets (Post.z4r nz wz S0 w0 Lr r)))

def LL.z4w : T29 × Bool → Bool → Prop := fun a r => ∀ {nz wz S0 w0 Lr}, L.z4w nz wz S0 w0 Lr a r

def LF.z4s : (List T29) → Bool → Prop := fun x0 r => ∀ {nz wz S0 w0 Lr} Ax0 nx0 cx0 (_ : Hp nz wz S0 w0 (Lr)) (_ : Rd kT29 S0 w0 Ax0 cx0 x0) (_ : x0.length = nx0),
 Calls Tryz.prog 128 #[.slice Ax0 nx0 cx0, .func (.func 129) #[] #[]] w0 (Rets (Post.z4s nz wz S0 w0 Lr r))

def LF.z4t : (List T29) → Int → Prop := fun x0 r => ∀ {nz wz S0 w0 Lr} Ax0 nx0 cx0 (_ : Hp nz wz S0 w0 (Lr)) (_ : Rd kT29 S0 w0 Ax0 cx0 x0) (_ : x0.length = nx0),
 Calls Tryz.prog 195 #[.slice Ax0 nx0 cx0, .func (.func 129) #[] #[]] w0 (Rets (Post.z4t nz wz S0 w0 Lr r))

def L.z4x : (List T29) × Int × Int → Int → Prop := fun ⟨x0, x7, x8⟩ r => ∀ S1 w1, Ext S0 w0 S1 w1 → ∀ Ax0 nx0 cx0 (_ : Hp nz wz S1 w1 (Lr)) (_ : Rd kT29 S1 w1 Ax0 cx0 x0) (_ : x0.length = nx0) (junk : Nat → Value),
 Goes Tryz.prog (base 195) Jcn ⟨lfr 19 [(0, .slice Ax0 nx0 cx0), (1, .func (.func 129) #[] #[]), (7, .i x7), (8, .i x8)] junk, []⟩ w1 (Done Tryz.prog 195 (Rets (Post.z4t nz wz S0 w0 Lr r)))

def LL.z4x : (List T29) × Int × Int → Int → Prop := fun a r => ∀ {nz wz S0 w0 Lr}, L.z4x nz wz S0 w0 Lr a r

def LF.z4u : T29 → Bool → Prop := fun x0 r => ∀ {nz wz S0 w0 Lr} u5 u6 u7 (_ : Hp nz wz S0 w0 (Lr)) (_ : Rd kT29 S0 w0 u5 u7 x0.L) (_ : x0.L.length = u6),
 Calls Tryz.prog 129 #[(ag (wT29 x0.Op x0.Text u5 u6 u7))] w0 (Rets (Post.z4u nz wz S0 w0 Lr r))

theorem W.z4y : (∀ a r, M.a1e a = some r → LF.z4r a r) ∧ (∀ a r, M.ap a = some r → LL.z4v a r) ∧ (∀ a r, M.aq a = some r → LL.z4w a r) ∧ (∀ a r, M.a3g a = some r → LF.z4s a r) ∧ (∀ a r, M.a3h a = some r → LF.z4t a r) ∧ (∀ a r, M.a1f a = some r → LL.z4x a r) ∧ (∀ a r, M.a3i a = some r → LF.z4u a r) := by
 refine M.a1e.mutual_partial_correctness LF.z4r LL.z4v LL.z4w LF.z4s LF.z4t LL.z4x LF.z4u ?_ ?_ ?_ ?_ ?_ ?_ ?_
 ·
  intro uli ulj x0 r h nz wz S0 w0 Lr u5 u6 u7 p0 un uo
  try dsimp only at h
  subst uo
  refine Zf Tryz.f62 B62 40 ?_
  refine Gj 41 [(0, (ag (wT29 x0.Op x0.Text u5 x0.L.length u7)))] fun junk => ?_
  refine Gn 2 [] (Yt 10 B62 [0, 1] (Ys 11 B62 [])) ?_
  refine Ob 30 (.tmp 0) 1 0 ((ag (wT29 x0.Op x0.Text u5 x0.L.length u7))) (wT29 x0.Op x0.Text u5 x0.L.length u7) p0 Goes.v fun b1 w2 z2 p2 => ?_
  refine Gn 6 [(2, .bool false), (3, (pt b1 0))] (Yt 1100 B62 [1] (Ys 1101 B62 Jve)) ?_
  refine Goes.ld 3 (.tmp 3) 4 3 ⟨b1, 0, none⟩ (.i x0.Op) (p2.c 0 0) ?_
  refine Gm 8 [([6, 5], .bool (decide (x0.Op = 0)))] (Ys 1101001 B62 Jvg) ?_
  refine Gi h (fun h3 h => ?_) fun h3 h => ?_
  ·
   rw [dt h3]
   refine Gn 2 [] Jvg ?_
   exact Gj 41 [(1, (pt b1 0)), (4, .i x0.Op), (5, .bool true)] (ulj _ _ h _ _ z2 _ _ _ _ p2 (un.ext z2) rfl)
  ·
   rw [df h3]
   refine Gm 5 [([7, 5], .bool (decide (x0.Op = 1)))] Jvg ?_
   exact Gj 41 [(1, (pt b1 0)), (4, .i x0.Op), (5, .bool (decide (x0.Op = 1)))] (ulj _ _ h _ _ z2 _ _ _ _ p2 (un.ext z2) rfl)
 ·
  intro ulk ull ⟨x1v, x4, x5⟩ r h nz wz S0 w0 Lr S1 w1 hx gx1 u1z u20 u21 p1 u23 u24 junk
  try dsimp only at h
  subst u24
  refine Gi h (fun h5 h => ?_) fun h5 h => ?_
  ·
   rw [h5]
   refine Gn 4 [(8, (pt gx1 1))] (Zr Qof [1, 2, 3, 4, 5, 6, 7, 8, 9] Jvn) ?_
   refine Goes.ld 9 (.tmp 8) 9 9 ⟨gx1, 1, none⟩ (.string x1v.Text) (p1.c 0 1) ?_
   refine Gm 2 [([10, 11], .bool (x1v.Text.toList == (⟨#[]⟩ : ByteArray).toList))] (Zr Qof [4, 5, 6, 7, 8, 9] Jvn) ?_
   refine Gi h (fun h6 h => ?_) fun h6 h => ?_
   ·
    rw [h6]
    refine Gn 1 [(12, (pt gx1 2))] (Zr Qof [5, 6, 7, 8, 9] Jvn) ?_
    refine Goes.ld 28 (.tmp 12) 13 28 ⟨gx1, 2, none⟩ (.slice u1z x1v.L.length u21) (p1.c 0 2) ?_
    refine Gm 5 [([14], .i (x1v.L.length : Int)), ([15, 16, 2], .bool (decide ((x1v.L.length : Int) = 0)))] Jvn ?_
    obtain rfl := sj h
    have p1 := p1.dp 0
    exact Goes.rt Tryz.f62 (.bool (decide ((x1v.L.length : Int) = 0))) ⟨_, rfl, hx, p1⟩
   ·
    rw [bf h6]
    refine Gm 7 [([12, 13, 14, 15], undef), ([16, 2], .bool false)] Jvn ?_
    obtain rfl := sj h
    have p1 := p1.dp 0
    exact Goes.rt Tryz.f62 (.bool false) ⟨_, rfl, hx, p1⟩
  ·
   rw [bf h5]
   refine Gm 6 [([18, 17], .bool (decide (x4 = 2)))] (Ys 11010111 B62 Jvf) ?_
   refine Gi h (fun h7 h => ?_) fun h7 h => ?_
   ·
    rw [dt h7]
    refine Gn 4 [(19, (pt gx1 1))] (Zr Qoi [1, 2, 3, 4, 5, 6, 7, 8, 9, 10] Jvs) ?_
    refine Goes.ld 9 (.tmp 19) 20 9 ⟨gx1, 1, none⟩ (.string x1v.Text) (p1.c 0 1) ?_
    refine Gm 3 [([21], .i (x1v.Text.size : Int)), ([22, 23], .bool (decide ((x1v.Text.size : Int) = 3)))] (Zr Qoi [5, 6, 7, 8, 9, 10] Jvs) ?_
    refine Gi h (fun h8 h => ?_) fun h8 h => ?_
    ·
     rw [dt h8]
     refine Gn 1 [(24, (pt gx1 2))] (Zr Qoi [6, 7, 8, 9, 10] Jvs) ?_
     refine Goes.ld 28 (.tmp 24) 25 28 ⟨gx1, 2, none⟩ (.slice u1z x1v.L.length u21) (p1.c 0 2) ?_
     refine Gm 5 [([26], .i (x1v.L.length : Int)), ([27, 28, 2], .bool (decide ((x1v.L.length : Int) = 0)))] Jvs ?_
     obtain rfl := sj h
     have p1 := p1.dp 0
     exact Goes.rt Tryz.f62 (.bool (decide ((x1v.L.length : Int) = 0))) ⟨_, rfl, hx, p1⟩
    ·
     rw [df h8]
     refine Gm 7 [([24, 25, 26, 27], undef), ([28, 2], .bool false)] Jvs ?_
     obtain rfl := sj h
     have p1 := p1.dp 0
     exact Goes.rt Tryz.f62 (.bool false) ⟨_, rfl, hx, p1⟩
   ·
    rw [df h7]
    refine Gm 7 [([30, 29], .bool (decide (x4 = 3)))] (Ys 11010111101 B62 Jvh) ?_
    refine Gi h (fun h9 h => ?_) fun h9 h => ?_
    ·
     rw [dt h9]
     refine Gn 2 [] Jvh ?_
     exact Gj 41 [(1, (pt gx1 0)), (29, .bool true)] (ull _ _ h _ _ hx _ _ _ _ p1 u23 rfl)
    ·
     rw [df h9]
     refine Gm 5 [([31, 29], .bool (decide (x4 = 4)))] Jvh ?_
     exact Gj 41 [(1, (pt gx1 0)), (29, .bool (decide (x4 = 4)))] (ull _ _ h _ _ hx _ _ _ _ p1 u23 rfl)
 ·
  intro ulm uln ⟨x1v, x29⟩ r h nz wz S0 w0 Lr S1 w1 hx gx1 u1z u20 u21 p1 u23 u24 junk
  try dsimp only at h
  subst u24
  refine Gi h (fun h11 h => ?_) fun h11 h => ?_
  ·
   rw [h11]
   refine Gn 4 [(32, (pt gx1 1))] (Zr Qol [1, 2, 3, 4, 5, 6, 7, 8, 9] Jvx) ?_
   refine Goes.ld 9 (.tmp 32) 33 9 ⟨gx1, 1, none⟩ (.string x1v.Text) (p1.c 0 1) ?_
   refine Gm 2 [([34, 35], .bool (x1v.Text.toList == (⟨#[]⟩ : ByteArray).toList))] (Zr Qol [4, 5, 6, 7, 8, 9] Jvx) ?_
   refine Gi h (fun h12 h => ?_) fun h12 h => ?_
   ·
    rw [h12]
    refine Gn 1 [(36, (pt gx1 2))] (Zr Qol [5, 6, 7, 8, 9] Jvx) ?_
    refine Goes.ld 28 (.tmp 36) 37 28 ⟨gx1, 2, none⟩ (.slice u1z x1v.L.length u21) (p1.c 0 2) ?_
    refine Gb h fun y13 e14 h => ?_
    refine Gc (.call { callee := .value (.func 128), args := #[(.tmp 37), (.func 129)], argTypes := #[28, 232] }) 38 4 128 _ (uln x1v.L y13 e14 _ _ _ p1 u23 rfl) ?_
    rintro _ w3 ⟨S3, rfl, z3, p3⟩
    have p3 := p3.dp 0
    refine Gm 4 [([39, 40, 2], .bool (!y13))] Jvx ?_
    obtain rfl := sj h
    exact Goes.rt Tryz.f62 (.bool (!y13)) ⟨_, rfl, (hx.t z3), p3⟩
   ·
    rw [bf h12]
    refine Gm 7 [([36, 37, 38, 39], undef), ([40, 2], .bool false)] Jvx ?_
    obtain rfl := sj h
    have p1 := p1.dp 0
    exact Goes.rt Tryz.f62 (.bool false) ⟨_, rfl, hx, p1⟩
  ·
   rw [bf h11]
   refine Gn 7 [(2, .bool false)] (Ys 1111 B62 []) ?_
   obtain rfl := sj h
   have p1 := p1.dp 0
   exact Goes.rt Tryz.f62 (.bool false) ⟨_, rfl, hx, p1⟩
 ·
  intro ulo ulp x0 r h nz wz S0 w0 Lr Ax0 nx0 cx0 p0 fx0 lx0
  try dsimp only at h
  subst lx0
  refine Zf Tryz.f128 B128 7 ?_
  refine Gj 9 [(0, .slice Ax0 x0.length cx0), (1, .func (.func 129) #[] #[])] fun junk => ?_
  refine Gn 8 [(4, .bool false), (5, .slice Ax0 x0.length cx0), (6, .func (.func 129) #[] #[])] Jcx ?_
  refine Gb h fun y1 e2 h => ?_
  refine Gc (kc 195 [5, 6] #[28, 232]) 7 3 195 _ (ulp x0 y1 e2 _ _ _ p0 fx0 rfl) ?_
  rintro _ w2 ⟨S2, rfl, z2, p2⟩
  refine Gm 3 [([8, 4], .bool (decide (y1 ≥ 0)))] Jcw ?_
  obtain rfl := sj h
  exact Goes.rt Tryz.f128 (.bool (decide (y1 ≥ 0))) ⟨_, rfl, z2, p2⟩
 ·
  intro ulq ulr x0 r h nz wz S0 w0 Lr Ax0 nx0 cx0 p0 fx0 lx0
  try dsimp only at h
  subst lx0
  refine Zf Tryz.f195 B195 17 ?_
  refine Gj 19 [(0, .slice Ax0 x0.length cx0), (1, .func (.func 129) #[] #[])] fun junk => ?_
  refine Gm 13 [([4, 8], .i 0), ([6], .slice Ax0 x0.length cx0), ([7], .i (x0.length : Int))] Jcn ?_
  exact Gj 19 [(0, .slice Ax0 x0.length cx0), (1, .func (.func 129) #[] #[]), (7, .i (x0.length : Int)), (8, .i 0)] (ulr _ _ h _ _ (Ext.refl S0 w0) _ _ _ p0 fx0 rfl)
 ·
  intro ulq uls ulr ult ⟨x0, x7, x8⟩ r h nz wz S0 w0 Lr S1 w1 hx Ax0 nx0 cx0 p1 fx0 lx0 junk
  try dsimp only at h
  subst lx0
  refine Gn 5 [(9, .bool (decide (x8 < x7)))] Jcp ?_
  refine Gi h (fun h1 h => ?_) fun h1 h => ?_
  ·
   rw [dt h1]
   refine Gm 14 [([10, 5, 13], .i x8), ([11], .func (.func 129) #[] #[]), ([12], .slice Ax0 x0.length cx0)] Jct ?_
   refine Gg h fun g2 h => ?_
   refine Gg h fun g3 h => ?_
   refine Oi 28 (.tmp 12) (.tmp 13) 14 0 30 .i64 x8 (gi x0 x8) rfl rfl fx0 Goes.v g2 g3 fun a4 _ f5 q6 => ?_
   have q7 := q6
   obtain ⟨_, _, rfl, rfl, ⟨_, _, rfl, rfl, ⟨A8, c9, rfl, f10⟩⟩⟩ := kT29_open q7
   refine Goes.ldN 30 (.tmp 14) 15 30 a4 ([.i ((gi x0 x8).Op)] ++ ([.string ((gi x0 x8).Text)] ++ [.slice A8 (((gi x0 x8).L).length) c9])) (f5.cell) ?_
   refine Gb h fun y11 e12 h => ?_
   refine Gc (.call { callee := .value (.tmp 11), args := #[(.tmp 15)], argTypes := #[30] }) 16 4 129 _ (ult (gi x0 x8) y11 e12 _ _ _ p1 f10 rfl) ?_
   rintro _ w2 ⟨S2, rfl, z2, p2⟩
   refine Gn 1 [] Jcs ?_
   refine Gi h (fun h13 h => ?_) fun h13 h => ?_
   ·
    rw [h13]
    refine Gm 6 [([17, 4], .i x8)] Jcu ?_
    obtain rfl := sj h
    exact Goes.rt Tryz.f195 (.i x8) ⟨_, rfl, (hx.t z2), p2⟩
   ·
    rw [bf h13]
    refine Gm 8 [([18, 8], .i (wr .i64 (x8 + 1)))] Jcn ?_
    exact Gj 19 [(0, .slice Ax0 x0.length cx0), (1, .func (.func 129) #[] #[]), (7, .i x7), (8, .i (wr .i64 (x8 + 1)))] (ulr _ _ h _ _ (hx.t z2) _ _ _ p2 (fx0.ext z2) rfl)
  ·
   rw [df h1]
   refine Gn 6 [(4, .i (-1))] Jcv ?_
   obtain rfl := sj h
   exact Goes.rt Tryz.f195 (.i (-1)) ⟨_, rfl, hx, p1⟩
 ·
  intro rec_gram_Query_right ih_gram_Query_right x0 r h nz wz S0 w0 Lr u5 u6 u7 p0 un uo
  try dsimp only at h
  subst uo
  refine Zf Tryz.f129 B129 5 ?_
  refine Gj 6 [(0, (ag (wT29 x0.Op x0.Text u5 x0.L.length u7)))] fun junk => ?_
  refine Gn 2 [] (Yt 10 B129 [0, 1] (Ys 11 B129 [])) ?_
  refine Ob 30 (.tmp 0) 1 0 ((ag (wT29 x0.Op x0.Text u5 x0.L.length u7))) (wT29 x0.Op x0.Text u5 x0.L.length u7) p0 Goes.v fun b1 w2 z2 p2 => ?_
  refine Gn 4 [(2, .bool false)] (Yt 110 B129 [0, 1, 2, 3] Jw4) ?_
  refine Goes.ldN 30 (.tmp 1) 3 30 ⟨b1, 0, none⟩ (wT29 x0.Op x0.Text u5 x0.L.length u7) (p2.pa 0 0) ?_
  refine Gb h fun y3 e4 h => ?_
  refine Gc (kc 62 [3] #[30]) 4 4 62 _ (ih_gram_Query_right x0 y3 e4 _ _ _ p2 (un.ext z2) rfl) ?_
  rintro _ w3 ⟨S3, rfl, z3, p3⟩
  have p3 := p3.dp 0
  refine Gm 3 [([5, 2], .bool (!y3))] Jw4 ?_
  obtain rfl := sj h
  exact Goes.rt Tryz.f129 (.bool (!y3)) ⟨_, rfl, (z2.t z3), p3⟩

theorem W.z4r : ∀ a r, M.a1e a = some r → LF.z4r a r := (W.z4y).1

theorem W.z4v : ∀ a r, M.ap a = some r → LL.z4v a r := (W.z4y).2.1

theorem W.z4w : ∀ a r, M.aq a = some r → LL.z4w a r := (W.z4y).2.2.1

theorem W.z4s : ∀ a r, M.a3g a = some r → LF.z4s a r := (W.z4y).2.2.2.1

theorem W.z4t : ∀ a r, M.a3h a = some r → LF.z4t a r := (W.z4y).2.2.2.2.1

theorem W.z4x : ∀ a r, M.a1f a = some r → LL.z4x a r := (W.z4y).2.2.2.2.2.1

theorem W.z4u : ∀ a r, M.a3i a = some r → LF.z4u a r := (W.z4y).2.2.2.2.2.2

def Jwa := Ys 1111 B20 []
def Jwb := Ys 11101 B20 Jwa
def Qox := Yq 11100 B20
def Jwf := Ys 1110101 B20 Jwa

def Post.z4z (r : Int) (v : Value) (w' : World) : Prop :=
 ∃ S', v = .i r ∧ Ext S0 w0 S' w' ∧ Hp nz wz S' w' (Lr)

theorem W.z4z (x0 : T29) (r : Int) (h : M.a2g x0 = some r) {nz wz S0 w0 Lr} (u5 u6 u7) (p0 : Hp nz wz S0 w0 (Lr)) (un : Rd kT29 S0 w0 u5 u7 x0.L) (uo : x0.L.length = u6) :
  Calls Tryz.prog 20 #[(ag (wT29 x0.Op x0.Text u5 u6 u7))] w0 (Rets (Post.z4z nz wz S0 w0 Lr r)) := by
 subst uo
 refine Zf Tryz.f20 B20 11 ?_
 refine Gj 12 [(0, (ag (wT29 x0.Op x0.Text u5 x0.L.length u7)))] fun junk => ?_
 delta M.a2g at h
 refine Gn 2 [] (Yt 10 B20 [0, 1] (Ys 11 B20 [])) ?_
 refine Ob 30 (.tmp 0) 1 0 ((ag (wT29 x0.Op x0.Text u5 x0.L.length u7))) (wT29 x0.Op x0.Text u5 x0.L.length u7) p0 Goes.v fun b1 w2 z2 p2 => ?_
 refine Gn 4 [(2, .i 0)] (Yt 110 B20 [0, 1] (Ys 111 B20 [])) ?_
 refine Oa 3 3 0 (.i 0) [.i 0] p2 Goes.v fun b3 w3 z3 p3 => ?_
 refine So 3 (.tmp 3) (.const (.int .i64 0)) 0 0 b3 0 (.i 0) [.i 0] p3 rfl Goes.s fun w4 z4 p4 => ?_
 refine Gn 4 [] (Zr Qox [0, 1, 2, 3, 4, 5, 6, 7] Jwb) ?_
 refine Goes.ldN 30 (.tmp 1) 4 30 ⟨b1, 0, none⟩ (wT29 x0.Op x0.Text u5 x0.L.length u7) (p4.pa 1 0) ?_
 refine Gb h fun y5 e6 h => ?_
 refine Gc (.call { callee := .value (.func 61), args := #[(.tmp 4), (.const (.int .i64 8)), (.tmp 3)], argTypes := #[30, 3, 33] }) 5 4 61 _ (W.z4n (x0, 8, 0) y5 e6 _ _ _ _ p4 (un.ext ((z2.t z3).t z4)) rfl) ?_
 rintro _ w5 ⟨S5, rfl, z5, p5⟩
 have p5 := p5.dp 0
 refine Gm 2 [([6, 7], .bool (!y5.1))] (Zr Qox [4, 5, 6, 7] Jwb) ?_
 refine Gi h (fun h7 h => ?_) fun h7 h => ?_
 ·
  rw [h7]
  refine Goes.ldN 30 (.tmp 1) 8 30 ⟨b1, 0, none⟩ (wT29 x0.Op x0.Text u5 x0.L.length u7) (p5.pa 0 0) ?_
  refine Gb h fun y8 e9 h => ?_
  refine Gc (kc 62 [8] #[30]) 9 4 62 _ (W.z4r x0 y8 e9 _ _ _ p5 (un.ext (((z2.t z3).t z4).t z5)) rfl) ?_
  rintro _ w6 ⟨S6, rfl, z6, p6⟩
  have p6 := p6.dp 0
  refine Gm 3 [([10, 11], .bool (!y8))] Jwb ?_
  refine Gi h (fun h10 h => ?_) fun h10 h => ?_
  ·
   rw [h10]
   refine Gn 6 [(2, .i 0)] (Ys 11111 B20 []) ?_
   obtain rfl := sj h
   exact Goes.rt Tryz.f20 (.i 0) ⟨_, rfl, ((((z2.t z3).t z4).t z5).t z6), p6⟩
  ·
   rw [bf h10]
   refine Gn 5 [(2, .i 2)] Jwf ?_
   obtain rfl := sj h
   exact Goes.rt Tryz.f20 (.i 2) ⟨_, rfl, ((((z2.t z3).t z4).t z5).t z6), p6⟩
 ·
  rw [bf h7]
  refine Gm 10 [([8, 9, 10], undef), ([11], .bool true), ([2], .i 2)] Jwf ?_
  obtain rfl := sj h
  have p5 := p5.dp 0
  exact Goes.rt Tryz.f20 (.i 2) ⟨_, rfl, (((z2.t z3).t z4).t z5), p5⟩

def Jwh := Zb 0 (Ys 1111 B63 [])
def Qp1 := Yq 1110100 B63
def Jwi := Zl Qp1 Jwh
def Jwj := Zc Qp1 Jwi
def Jwl := Ys 111010001 B63 (Ys 11101001 B63 Jwi)
def Jwn := Zb 1 (Ys 111010011 B63 Jwi)
def Jwo := Ys 11101001001111 B63 Jwn
def Qp9 := Yq 111010000 B63
def Jwu := Ys 11101001001 B63 Jwn
def Jwx := Ys 111010010011 B63 Jwn
def Qpe := Yq 111010010010 B63

def Post.z50 (r : Int × Int) (v : Value) (w' : World) : Prop :=
 ∃ S', v = .tuple #[.i r.1, .i r.2] ∧ Ext S0 w0 S' w' ∧ Hp nz wz S' w' (Lr)

def LF.z50 : T38 × Int → (Int × Int) → Prop := fun ⟨x0, x1⟩ r => ∀ {nz wz S0 w0 Lr} u5 u6 u7 (_ : Hp nz wz S0 w0 (Lr)) (_ : Rd kT38 S0 w0 u5 u7 x0.L) (_ : x0.L.length = u6),
 Calls Tryz.prog 63 #[(ag (wT29 x0.Op x0.Text u5 u6 u7)), .i x1] w0 (Rets (Post.z50 nz wz S0 w0 Lr r))

def L.z51 : Int × T38 × Int × Int × Int → (Int × Int) → Prop := fun ⟨x1, x2v, x6, x7, x8⟩ r => ∀ S1 w1, Ext S0 w0 S1 w1 → ∀ gx2 u8p u8q u8r (_ : Hp nz wz S1 w1 ((some gx2, .row 39 (wT29 x2v.Op x2v.Text u8p u8q u8r) 3 0) :: Lr)) (_ : Rd kT38 S1 w1 u8p u8r x2v.L) (_ : x2v.L.length = u8q) (junk : Nat → Value),
 Goes Tryz.prog (base 63) Jwj ⟨lfr 50 [(1, .i x1), (2, (pt gx2 0)), (6, .i x6), (7, .i x7), (8, .i x8)] junk, []⟩ w1 (Done Tryz.prog 63 (Rets (Post.z50 nz wz S0 w0 Lr r)))

def LL.z51 : Int × T38 × Int × Int × Int → (Int × Int) → Prop := fun a r => ∀ {nz wz S0 w0 Lr}, L.z51 nz wz S0 w0 Lr a r

def L.z52 : Int × T38 × Int × Int × Int × Bool → (Int × Int) → Prop := fun ⟨x1, x2v, x6, x7, x8, x19⟩ r => ∀ S1 w1, Ext S0 w0 S1 w1 → ∀ gx2 u8p u8q u8r (_ : Hp nz wz S1 w1 ((some gx2, .row 39 (wT29 x2v.Op x2v.Text u8p u8q u8r) 3 0) :: Lr)) (_ : Rd kT38 S1 w1 u8p u8r x2v.L) (_ : x2v.L.length = u8q) (junk : Nat → Value),
 Goes Tryz.prog (base 63) Jwl ⟨lfr 50 [(1, .i x1), (2, (pt gx2 0)), (6, .i x6), (7, .i x7), (8, .i x8), (19, .bool x19)] junk, []⟩ w1 (Done Tryz.prog 63 (Rets (Post.z50 nz wz S0 w0 Lr r)))

def LL.z52 : Int × T38 × Int × Int × Int × Bool → (Int × Int) → Prop := fun a r => ∀ {nz wz S0 w0 Lr}, L.z52 nz wz S0 w0 Lr a r

def L.z53 : Int × T38 × Int × Int × Int × Bool → (Int × Int) → Prop := fun ⟨x1, x2v, x6, x7, x8, x46⟩ r => ∀ S1 w1, Ext S0 w0 S1 w1 → ∀ gx2 u8p u8q u8r (_ : Hp nz wz S1 w1 ((some gx2, .row 39 (wT29 x2v.Op x2v.Text u8p u8q u8r) 3 0) :: Lr)) (_ : Rd kT38 S1 w1 u8p u8r x2v.L) (_ : x2v.L.length = u8q) (junk : Nat → Value),
 Goes Tryz.prog (base 63) Jwo ⟨lfr 50 [(1, .i x1), (2, (pt gx2 0)), (6, .i x6), (7, .i x7), (8, .i x8), (46, .bool x46)] junk, []⟩ w1 (Done Tryz.prog 63 (Rets (Post.z50 nz wz S0 w0 Lr r)))

def LL.z53 : Int × T38 × Int × Int × Int × Bool → (Int × Int) → Prop := fun a r => ∀ {nz wz S0 w0 Lr}, L.z53 nz wz S0 w0 Lr a r

theorem W.z54 : (∀ a r, M.a2z a = some r → LF.z50 a r) ∧ (∀ a r, M.a30 a = some r → LL.z51 a r) ∧ (∀ a r, M.a31 a = some r → LL.z52 a r) ∧ (∀ a r, M.a5d a = some r → LL.z53 a r) := by
 refine M.a2z.mutual_partial_correctness LF.z50 LL.z51 LL.z52 LL.z53 ?_ ?_ ?_ ?_
 ·
  intro ulu ulv ⟨x0, x1⟩ r h nz wz S0 w0 Lr u5 u6 u7 p0 un uo
  try dsimp only at h
  subst uo
  refine Zf Tryz.f63 B63 48 ?_
  refine Gj 50 [(0, (ag (wT29 x0.Op x0.Text u5 x0.L.length u7))), (1, .i x1)] fun junk => ?_
  refine Gn 2 [] (Yt 10 B63 [0, 1, 2] (Ys 11 B63 [])) ?_
  refine Ob 39 (.tmp 0) 2 0 ((ag (wT29 x0.Op x0.Text u5 x0.L.length u7))) (wT29 x0.Op x0.Text u5 x0.L.length u7) p0 Goes.v fun b1 w2 z2 p2 => ?_
  refine Gm 14 [([4, 5, 6, 8], .i 0), ([7], .i 1)] (Ys 111010 B63 Jwh) ?_
  refine Gn 1 [] Jwj ?_
  exact Gj 50 [(1, .i x1), (2, (pt b1 0)), (6, .i 0), (7, .i 1), (8, .i 0)] (ulv _ _ h _ _ z2 _ _ _ _ p2 (un.ext z2) rfl)
 ·
  intro ulw ulx ⟨x1, x2v, x6, x7, x8⟩ r h nz wz S0 w0 Lr S1 w1 hx gx2 u8p u8q u8r p1 u8s u8t junk
  try dsimp only at h
  subst u8t
  refine Gn 5 [(11, .i x8), (12, (pt gx2 2))] (Zr Qp9 [2, 3, 4, 5, 6, 7, 8] Jwl) ?_
  refine Goes.ld 37 (.tmp 12) 13 37 ⟨gx2, 2, none⟩ (.slice u8p x2v.L.length u8r) (p1.c 0 2) ?_
  refine Gm 3 [([14], .i (x2v.L.length : Int)), ([15, 16], .bool (decide (x8 < (x2v.L.length : Int))))] (Zr Qp9 [6, 7, 8] Jwl) ?_
  refine Gi h (fun h4 h => ?_) fun h4 h => ?_
  ·
   rw [dt h4]
   refine Gm 4 [([17], .i x8), ([18, 19], .bool (decide (x8 < 5000)))] Jwl ?_
   exact Gj 50 [(1, .i x1), (2, (pt gx2 0)), (6, .i x6), (7, .i x7), (8, .i x8), (19, .bool (decide (x8 < 5000)))] (ulx _ _ h _ _ hx _ _ _ _ p1 u8s rfl)
  ·
   rw [df h4]
   refine Gm 4 [([17, 18], undef), ([19], .bool false)] Jwl ?_
   exact Gj 50 [(1, .i x1), (2, (pt gx2 0)), (6, .i x6), (7, .i x7), (8, .i x8), (19, .bool false)] (ulx _ _ h _ _ hx _ _ _ _ p1 u8s rfl)
 ·
  intro uly ulz um0 um1 ⟨x1, x2v, x6, x7, x8, x19⟩ r h nz wz S0 w0 Lr S1 w1 hx gx2 u8p u8q u8r p1 u8s u8t junk
  try dsimp only at h
  subst u8t
  refine Gi h (fun h6 h => ?_) fun h6 h => ?_
  ·
   rw [h6]
   refine Gn 10 [(22, .i x1), (23, .bool (decide (x1 = 0)))] (Ys 111010010001 B63 Jwu) ?_
   refine Gi h (fun h7 h => ?_) fun h7 h => ?_
   ·
    rw [dt h7]
    refine Gn 6 [(4, .i 99), (5, .i 9999)] (Ys 11101001000101 B63 Jwu) ?_
    obtain rfl := sj h
    have p1 := p1.dp 0
    exact Goes.rt Tryz.f63 (.tuple #[.i 99, .i 9999]) ⟨_, rfl, hx, p1⟩
   ·
    rw [df h7]
    refine Gn 5 [(25, (pt gx2 2))] (Zr Qpe [1, 2, 3, 4, 5, 6, 7, 8, 9, 10, 11, 12] Jwx) ?_
    refine Goes.ld 37 (.tmp 25) 26 37 ⟨gx2, 2, none⟩ (.slice u8p x2v.L.length u8r) (p1.c 0 2) ?_
    refine Gn 1 [(27, .i x8)] (Zr Qpe [3, 4, 5, 6, 7, 8, 9, 10, 11, 12] Jwx) ?_
    refine Gg h fun g8 h => ?_
    refine Gg h fun g9 h => ?_
    refine Oi 37 (.tmp 26) (.tmp 27) 28 0 39 .i64 x8 (gi x2v.L x8) rfl rfl u8s Goes.v g8 g9 fun a10 _ f11 q12 => ?_
    have q13 := q12
    obtain ⟨_, _, rfl, rfl, ⟨_, _, rfl, rfl, ⟨A14, c15, rfl, f16⟩⟩⟩ := kT38_open q13
    refine Goes.ldN 39 (.tmp 28) 29 39 a10 ([.i ((gi x2v.L x8).Op)] ++ ([.string ((gi x2v.L x8).Text)] ++ [.slice A14 (((gi x2v.L x8).L).length) c15])) (f11.cell) ?_
    refine Gn 2 [(30, .i x1), (31, .i (wr .i64 (x1 - 1)))] (Zr Qpe [7, 8, 9, 10, 11, 12] Jwx) ?_
    refine Gb h fun y17 e18 h => ?_
    refine Gc (kc 63 [29, 31] #[39, 3]) 32 128 63 _ (um0 (gi x2v.L x8, wr .i64 (x1 - 1)) y17 e18 _ _ _ p1 f16 rfl) ?_
    rintro _ w3 ⟨S3, rfl, z3, p3⟩
    refine Gm 14 [([24], .tuple #[.i y17.1, .i y17.2]), ([33, 9, 36], .i y17.1), ([34, 10, 39], .i y17.2), ([35], .i x6), ([37], .i (imx x6 y17.1)), ([38], .i x7), ([40], .i (wr .i64 (x7 + y17.2)))] (Yt 1110100100110 B63 [6, 7] (Ys 1110100100111 B63 Jwn)) ?_
    refine Gm 8 [([6], .i (imx x6 y17.1)), ([7, 41], .i (wr .i64 (x7 + y17.2))), ([42, 43], .bool (decide (wr .i64 (x7 + y17.2) > 4096)))] (Yt 11101001001110 B63 [3, 4, 5] Jwo) ?_
    refine Gi h (fun h19 h => ?_) fun h19 h => ?_
    ·
     rw [dt h19]
     refine Gm 4 [([44, 45], undef), ([46], .bool true)] Jwo ?_
     exact Gj 50 [(1, .i x1), (2, (pt gx2 0)), (6, .i (imx x6 y17.1)), (7, .i (wr .i64 (x7 + y17.2))), (8, .i x8), (46, .bool true)] (um1 _ _ h _ _ (hx.t z3) _ _ _ _ p3 (u8s.ext z3) rfl)
    ·
     rw [df h19]
     refine Gm 4 [([44], .i (imx x6 y17.1)), ([45, 46], .bool (decide (imx x6 y17.1 ≥ 99)))] Jwo ?_
     exact Gj 50 [(1, .i x1), (2, (pt gx2 0)), (6, .i (imx x6 y17.1)), (7, .i (wr .i64 (x7 + y17.2))), (8, .i x8), (46, .bool (decide (imx x6 y17.1 ≥ 99)))] (um1 _ _ h _ _ (hx.t z3) _ _ _ _ p3 (u8s.ext z3) rfl)
  ·
   rw [bf h6]
   refine Gm 10 [([47], .i x6), ([48, 4], .i (wr .i64 (x6 + 1))), ([49, 5], .i x7)] (Ys 11111 B63 []) ?_
   obtain rfl := sj h
   have p1 := p1.dp 0
   exact Goes.rt Tryz.f63 (.tuple #[.i (wr .i64 (x6 + 1)), .i x7]) ⟨_, rfl, hx, p1⟩
 ·
  intro ulu ulv ⟨x1, x2v, x6, x7, x8, x46⟩ r h nz wz S0 w0 Lr S1 w1 hx gx2 u8p u8q u8r p1 u8s u8t junk
  try dsimp only at h
  subst u8t
  refine Gi h (fun h21 h => ?_) fun h21 h => ?_
  ·
   rw [h21]
   refine Gn 6 [(4, .i 99), (5, .i 9999)] (Ys 1110100100111101 B63 Jwn) ?_
   obtain rfl := sj h
   have p1 := p1.dp 0
   exact Goes.rt Tryz.f63 (.tuple #[.i 99, .i 9999]) ⟨_, rfl, hx, p1⟩
  ·
   rw [bf h21]
   refine Gm 9 [([20], .i x8), ([21, 8], .i (wr .i64 (x8 + 1)))] Jwj ?_
   exact Gj 50 [(1, .i x1), (2, (pt gx2 0)), (6, .i x6), (7, .i x7), (8, .i (wr .i64 (x8 + 1)))] (ulv _ _ h _ _ hx _ _ _ _ p1 u8s rfl)

theorem W.z50 : ∀ a r, M.a2z a = some r → LF.z50 a r := (W.z54).1

theorem W.z51 : ∀ a r, M.a30 a = some r → LL.z51 a r := (W.z54).2.1

theorem W.z52 : ∀ a r, M.a31 a = some r → LL.z52 a r := (W.z54).2.2.1

theorem W.z53 : ∀ a r, M.a5d a = some r → LL.z53 a r := (W.z54).2.2.2

def Jx6 := Ys 1111 B64 []
def Jx7 := Zb 0 Jx6
def Jx8 := Ys 1110101 B64 Jx7
def Qpn := Yq 11110100 B64
def Jxb := Zl Qpn (Zb 1 (Ys 11111 B64 []))
def Jxc := Zc Qpn Jxb
def Jxe := Ys 1111010001 B64 (Ys 111101001 B64 Jxb)
def Jxf := Ys 11101011111 B64 Jx7
def Qpw := Yq 11101010 B64
def Qpy := Yq 1110101110 B64
def Qq2 := Yq 1111010000 B64
def Jxy := Zb 2 (Ys 1111010011 B64 Jxb)
def Qq4 := Yq 11110100100 B64

def Post.z55 (r : Bool) (v : Value) (w' : World) : Prop :=
 ∃ S', v = .bool r ∧ Ext S0 w0 S' w' ∧ Hp nz wz S' w' (Lr)

def LF.z55 : T38 → Bool → Prop := fun x0 r => ∀ {nz wz S0 w0 Lr} u5 u6 u7 (_ : Hp nz wz S0 w0 (Lr)) (_ : Rd kT38 S0 w0 u5 u7 x0.L) (_ : x0.L.length = u6),
 Calls Tryz.prog 64 #[(ag (wT29 x0.Op x0.Text u5 u6 u7))] w0 (Rets (Post.z55 nz wz S0 w0 Lr r))

def L.z56 : T38 × Int × Bool → Bool → Prop := fun ⟨x1v, x6, x7⟩ r => ∀ S1 w1, Ext S0 w0 S1 w1 → ∀ gx1 u1z u20 u21 (_ : Hp nz wz S1 w1 ((some gx1, .row 39 (wT29 x1v.Op x1v.Text u1z u20 u21) 3 0) :: Lr)) (_ : Rd kT38 S1 w1 u1z u21 x1v.L) (_ : x1v.L.length = u20) (junk : Nat → Value),
 Goes Tryz.prog (base 64) Jx8 ⟨lfr 54 [(1, (pt gx1 0)), (6, .i x6), (7, .bool x7)] junk, []⟩ w1 (Done Tryz.prog 64 (Rets (Post.z55 nz wz S0 w0 Lr r)))

def LL.z56 : T38 × Int × Bool → Bool → Prop := fun a r => ∀ {nz wz S0 w0 Lr}, L.z56 nz wz S0 w0 Lr a r

def L.z57 : T38 × Bool → Bool → Prop := fun ⟨x1v, x3⟩ r => ∀ S1 w1, Ext S0 w0 S1 w1 → ∀ gx1 u1z u20 u21 (_ : Hp nz wz S1 w1 ((some gx1, .row 39 (wT29 x1v.Op x1v.Text u1z u20 u21) 3 0) :: Lr)) (_ : Rd kT38 S1 w1 u1z u21 x1v.L) (_ : x1v.L.length = u20) (junk : Nat → Value),
 Goes Tryz.prog (base 64) Jx7 ⟨lfr 54 [(1, (pt gx1 0)), (3, .bool x3)] junk, []⟩ w1 (Done Tryz.prog 64 (Rets (Post.z55 nz wz S0 w0 Lr r)))

def LL.z57 : T38 × Bool → Bool → Prop := fun a r => ∀ {nz wz S0 w0 Lr}, L.z57 nz wz S0 w0 Lr a r

def L.z58 : T38 × Bool × Int → Bool → Prop := fun ⟨x1v, x3, x4⟩ r => ∀ S1 w1, Ext S0 w0 S1 w1 → ∀ gx1 u1z u20 u21 (_ : Hp nz wz S1 w1 ((some gx1, .row 39 (wT29 x1v.Op x1v.Text u1z u20 u21) 3 0) :: Lr)) (_ : Rd kT38 S1 w1 u1z u21 x1v.L) (_ : x1v.L.length = u20) (junk : Nat → Value),
 Goes Tryz.prog (base 64) Jxc ⟨lfr 54 [(1, (pt gx1 0)), (3, .bool x3), (4, .i x4)] junk, []⟩ w1 (Done Tryz.prog 64 (Rets (Post.z55 nz wz S0 w0 Lr r)))

def LL.z58 : T38 × Bool × Int → Bool → Prop := fun a r => ∀ {nz wz S0 w0 Lr}, L.z58 nz wz S0 w0 Lr a r

def L.z59 : T38 × Bool × Int × Bool → Bool → Prop := fun ⟨x1v, x3, x4, x44⟩ r => ∀ S1 w1, Ext S0 w0 S1 w1 → ∀ gx1 u1z u20 u21 (_ : Hp nz wz S1 w1 ((some gx1, .row 39 (wT29 x1v.Op x1v.Text u1z u20 u21) 3 0) :: Lr)) (_ : Rd kT38 S1 w1 u1z u21 x1v.L) (_ : x1v.L.length = u20) (junk : Nat → Value),
 Goes Tryz.prog (base 64) Jxe ⟨lfr 54 [(1, (pt gx1 0)), (3, .bool x3), (4, .i x4), (44, .bool x44)] junk, []⟩ w1 (Done Tryz.prog 64 (Rets (Post.z55 nz wz S0 w0 Lr r)))

def LL.z59 : T38 × Bool × Int × Bool → Bool → Prop := fun a r => ∀ {nz wz S0 w0 Lr}, L.z59 nz wz S0 w0 Lr a r

def L.z5a : T38 × Bool → Bool → Prop := fun ⟨x1v, x31⟩ r => ∀ S1 w1, Ext S0 w0 S1 w1 → ∀ gx1 u1z u20 u21 (_ : Hp nz wz S1 w1 ((some gx1, .row 39 (wT29 x1v.Op x1v.Text u1z u20 u21) 3 0) :: Lr)) (_ : Rd kT38 S1 w1 u1z u21 x1v.L) (_ : x1v.L.length = u20) (junk : Nat → Value),
 Goes Tryz.prog (base 64) Jxf ⟨lfr 54 [(1, (pt gx1 0)), (31, .bool x31)] junk, []⟩ w1 (Done Tryz.prog 64 (Rets (Post.z55 nz wz S0 w0 Lr r)))

def LL.z5a : T38 × Bool → Bool → Prop := fun a r => ∀ {nz wz S0 w0 Lr}, L.z5a nz wz S0 w0 Lr a r

theorem W.z5b : (∀ a r, M.a47 a = some r → LF.z55 a r) ∧ (∀ a r, M.a32 a = some r → LL.z56 a r) ∧ (∀ a r, M.a33 a = some r → LL.z5a a r) ∧ (∀ a r, M.a2a a = some r → LL.z57 a r) ∧ (∀ a r, M.a48 a = some r → LL.z58 a r) ∧ (∀ a r, M.a5e a = some r → LL.z59 a r) := by
 refine M.a47.mutual_partial_correctness LF.z55 LL.z56 LL.z5a LL.z57 LL.z58 LL.z59 ?_ ?_ ?_ ?_ ?_ ?_
 ·
  intro um2 um3 x0 r h nz wz S0 w0 Lr u5 u6 u7 p0 un uo
  try dsimp only at h
  subst uo
  refine Zf Tryz.f64 B64 53 ?_
  refine Gj 54 [(0, (ag (wT29 x0.Op x0.Text u5 x0.L.length u7)))] fun junk => ?_
  refine Gn 2 [] (Yt 10 B64 [0, 1] (Ys 11 B64 [])) ?_
  refine Ob 39 (.tmp 0) 1 0 ((ag (wT29 x0.Op x0.Text u5 x0.L.length u7))) (wT29 x0.Op x0.Text u5 x0.L.length u7) p0 Goes.v fun b1 w2 z2 p2 => ?_
  refine Gm 10 [([2, 3], .bool false), ([5], (pt b1 0))] (Yt 11100 B64 [1] (Ys 11101 B64 Jx6)) ?_
  refine Goes.ld 3 (.tmp 5) 6 3 ⟨b1, 0, none⟩ (.i x0.Op) (p2.c 0 0) ?_
  refine Gm 8 [([8, 7], .bool (decide (x0.Op = 0)))] (Ys 11101001 B64 Jx8) ?_
  refine Gi h (fun h3 h => ?_) fun h3 h => ?_
  ·
   rw [dt h3]
   refine Gn 2 [] Jx8 ?_
   exact Gj 54 [(1, (pt b1 0)), (6, .i x0.Op), (7, .bool true)] (um3 _ _ h _ _ z2 _ _ _ _ p2 (un.ext z2) rfl)
  ·
   rw [df h3]
   refine Gm 5 [([9, 7], .bool (decide (x0.Op = 1)))] Jx8 ?_
   exact Gj 54 [(1, (pt b1 0)), (6, .i x0.Op), (7, .bool (decide (x0.Op = 1)))] (um3 _ _ h _ _ z2 _ _ _ _ p2 (un.ext z2) rfl)
 ·
  intro um4 um5 um6 um7 ⟨x1v, x6, x7⟩ r h nz wz S0 w0 Lr S1 w1 hx gx1 u1z u20 u21 p1 u23 u24 junk
  try dsimp only at h
  subst u24
  refine Gi h (fun h5 h => ?_) fun h5 h => ?_
  ·
   rw [h5]
   refine Gn 3 [(10, (pt gx1 1))] (Zr Qpw [1, 2, 3, 4, 5, 6, 7, 8, 9] Jx7) ?_
   refine Goes.ld 9 (.tmp 10) 11 9 ⟨gx1, 1, none⟩ (.string x1v.Text) (p1.c 0 1) ?_
   refine Gm 2 [([12, 13], .bool (x1v.Text.toList == (⟨#[]⟩ : ByteArray).toList))] (Zr Qpw [4, 5, 6, 7, 8, 9] Jx7) ?_
   refine Gi h (fun h6 h => ?_) fun h6 h => ?_
   ·
    rw [h6]
    refine Gn 1 [(14, (pt gx1 2))] (Zr Qpw [5, 6, 7, 8, 9] Jx7) ?_
    refine Goes.ld 37 (.tmp 14) 15 37 ⟨gx1, 2, none⟩ (.slice u1z x1v.L.length u21) (p1.c 0 2) ?_
    refine Gm 5 [([16], .i (x1v.L.length : Int)), ([17, 18, 3], .bool (decide ((x1v.L.length : Int) = 0)))] Jx7 ?_
    exact Gj 54 [(1, (pt gx1 0)), (3, .bool (decide ((x1v.L.length : Int) = 0)))] (um7 _ _ h _ _ hx _ _ _ _ p1 u23 rfl)
   ·
    rw [bf h6]
    refine Gm 7 [([14, 15, 16, 17], undef), ([18, 3], .bool false)] Jx7 ?_
    exact Gj 54 [(1, (pt gx1 0)), (3, .bool false)] (um7 _ _ h _ _ hx _ _ _ _ p1 u23 rfl)
  ·
   rw [bf h5]
   refine Gm 6 [([20, 19], .bool (decide (x6 = 2)))] (Ys 111010111 B64 Jx7) ?_
   refine Gi h (fun h8 h => ?_) fun h8 h => ?_
   ·
    rw [dt h8]
    refine Gn 3 [(21, (pt gx1 1))] (Zr Qpy [1, 2, 3, 4, 5, 6, 7, 8, 9, 10] Jx7) ?_
    refine Goes.ld 9 (.tmp 21) 22 9 ⟨gx1, 1, none⟩ (.string x1v.Text) (p1.c 0 1) ?_
    refine Gm 3 [([23], .i (x1v.Text.size : Int)), ([24, 25], .bool (decide ((x1v.Text.size : Int) = 3)))] (Zr Qpy [5, 6, 7, 8, 9, 10] Jx7) ?_
    refine Gi h (fun h9 h => ?_) fun h9 h => ?_
    ·
     rw [dt h9]
     refine Gn 1 [(26, (pt gx1 2))] (Zr Qpy [6, 7, 8, 9, 10] Jx7) ?_
     refine Goes.ld 37 (.tmp 26) 27 37 ⟨gx1, 2, none⟩ (.slice u1z x1v.L.length u21) (p1.c 0 2) ?_
     refine Gm 5 [([28], .i (x1v.L.length : Int)), ([29, 30, 3], .bool (decide ((x1v.L.length : Int) = 0)))] Jx7 ?_
     exact Gj 54 [(1, (pt gx1 0)), (3, .bool (decide ((x1v.L.length : Int) = 0)))] (um7 _ _ h _ _ hx _ _ _ _ p1 u23 rfl)
    ·
     rw [df h9]
     refine Gm 7 [([26, 27, 28, 29], undef), ([30, 3], .bool false)] Jx7 ?_
     exact Gj 54 [(1, (pt gx1 0)), (3, .bool false)] (um7 _ _ h _ _ hx _ _ _ _ p1 u23 rfl)
   ·
    rw [df h8]
    refine Gm 7 [([32, 31], .bool (decide (x6 = 3)))] (Ys 111010111101 B64 Jxf) ?_
    refine Gi h (fun h10 h => ?_) fun h10 h => ?_
    ·
     rw [dt h10]
     refine Gn 2 [] Jxf ?_
     exact Gj 54 [(1, (pt gx1 0)), (31, .bool true)] (um6 _ _ h _ _ hx _ _ _ _ p1 u23 rfl)
    ·
     rw [df h10]
     refine Gm 5 [([33, 31], .bool (decide (x6 = 4)))] Jxf ?_
     exact Gj 54 [(1, (pt gx1 0)), (31, .bool (decide (x6 = 4)))] (um6 _ _ h _ _ hx _ _ _ _ p1 u23 rfl)
 ·
  intro um5 um7 ⟨x1v, x31⟩ r h nz wz S0 w0 Lr S1 w1 hx gx1 u1z u20 u21 p1 u23 u24 junk
  try dsimp only at h
  subst u24
  refine Gi h (fun h13 h => ?_) fun h13 h => ?_
  ·
   rw [h13]
   refine Gn 3 [(34, (pt gx1 1))] (Yt 111010111110 B64 [1, 2, 3] Jx7) ?_
   refine Goes.ld 9 (.tmp 34) 35 9 ⟨gx1, 1, none⟩ (.string x1v.Text) (p1.c 0 1) ?_
   refine Gm 3 [([36, 3], .bool (x1v.Text.toList == (⟨#[]⟩ : ByteArray).toList))] Jx7 ?_
   exact Gj 54 [(1, (pt gx1 0)), (3, .bool (x1v.Text.toList == (⟨#[]⟩ : ByteArray).toList))] (um7 _ _ h _ _ hx _ _ _ _ p1 u23 rfl)
  ·
   rw [bf h13]
   refine Gn 5 [(2, .bool false)] (Ys 1110101111111 B64 Jx7) ?_
   obtain rfl := sj h
   have p1 := p1.dp 0
   exact Goes.rt Tryz.f64 (.bool false) ⟨_, rfl, hx, p1⟩
 ·
  intro um8 um9 ⟨x1v, x3⟩ r h nz wz S0 w0 Lr S1 w1 hx gx1 u1z u20 u21 p1 u23 u24 junk
  try dsimp only at h
  subst u24
  refine Gn 8 [(4, .i 0)] Jxc ?_
  exact Gj 54 [(1, (pt gx1 0)), (3, .bool x3), (4, .i 0)] (um9 _ _ h _ _ hx _ _ _ _ p1 u23 rfl)
 ·
  intro uma umb ⟨x1v, x3, x4⟩ r h nz wz S0 w0 Lr S1 w1 hx gx1 u1z u20 u21 p1 u23 u24 junk
  try dsimp only at h
  subst u24
  refine Gn 5 [(37, .i x4), (38, (pt gx1 2))] (Zr Qq2 [2, 3, 4, 5, 6, 7] Jxe) ?_
  refine Goes.ld 37 (.tmp 38) 39 37 ⟨gx1, 2, none⟩ (.slice u1z x1v.L.length u21) (p1.c 0 2) ?_
  refine Gm 3 [([40], .i (x1v.L.length : Int)), ([41, 42], .bool (decide (x4 < (x1v.L.length : Int))))] (Zr Qq2 [6, 7] Jxe) ?_
  refine Gi h (fun h14 h => ?_) fun h14 h => ?_
  ·
   rw [dt h14]
   refine Gm 3 [([43, 44], .bool x3)] Jxe ?_
   exact Gj 54 [(1, (pt gx1 0)), (3, .bool x3), (4, .i x4), (44, .bool x3)] (umb _ _ h _ _ hx _ _ _ _ p1 u23 rfl)
  ·
   rw [df h14]
   refine Gn 3 [(43, undef), (44, .bool false)] Jxe ?_
   exact Gj 54 [(1, (pt gx1 0)), (3, .bool x3), (4, .i x4), (44, .bool false)] (umb _ _ h _ _ hx _ _ _ _ p1 u23 rfl)
 ·
  intro umc um8 umd um9 ⟨x1v, x3, x4, x44⟩ r h nz wz S0 w0 Lr S1 w1 hx gx1 u1z u20 u21 p1 u23 u24 junk
  try dsimp only at h
  subst u24
  refine Gi h (fun h16 h => ?_) fun h16 h => ?_
  ·
   rw [h16]
   refine Gn 6 [(47, (pt gx1 2))] (Zr Qq4 [1, 2, 3, 4, 5, 6] Jxy) ?_
   refine Goes.ld 37 (.tmp 47) 48 37 ⟨gx1, 2, none⟩ (.slice u1z x1v.L.length u21) (p1.c 0 2) ?_
   refine Gn 1 [(49, .i x4)] (Zr Qq4 [3, 4, 5, 6] Jxy) ?_
   refine Gg h fun g17 h => ?_
   refine Gg h fun g18 h => ?_
   refine Oi 37 (.tmp 48) (.tmp 49) 50 0 39 .i64 x4 (gi x1v.L x4) rfl rfl u23 Goes.v g17 g18 fun a19 _ f20 q21 => ?_
   have q22 := q21
   obtain ⟨_, _, rfl, rfl, ⟨_, _, rfl, rfl, ⟨A23, c24, rfl, f25⟩⟩⟩ := kT38_open q22
   refine Goes.ldN 39 (.tmp 50) 51 39 a19 ([.i ((gi x1v.L x4).Op)] ++ ([.string ((gi x1v.L x4).Text)] ++ [.slice A23 (((gi x1v.L x4).L).length) c24])) (f20.cell) ?_
   refine Gb h fun y26 e27 h => ?_
   refine Gc (kc 64 [51] #[39]) 52 4 64 _ (umd (gi x1v.L x4) y26 e27 _ _ _ p1 f25 rfl) ?_
   rintro _ w3 ⟨S3, rfl, z3, p3⟩
   refine Gm 9 [([3], .bool y26), ([45], .i x4), ([46, 4], .i (wr .i64 (x4 + 1)))] Jxc ?_
   exact Gj 54 [(1, (pt gx1 0)), (3, .bool y26), (4, .i (wr .i64 (x4 + 1)))] (um9 _ _ h _ _ (hx.t z3) _ _ _ _ p3 (u23.ext z3) rfl)
  ·
   rw [bf h16]
   refine Gm 7 [([53, 2], .bool x3)] (Ys 111111 B64 []) ?_
   obtain rfl := sj h
   have p1 := p1.dp 0
   exact Goes.rt Tryz.f64 (.bool x3) ⟨_, rfl, hx, p1⟩

theorem W.z55 : ∀ a r, M.a47 a = some r → LF.z55 a r := (W.z5b).1

theorem W.z56 : ∀ a r, M.a32 a = some r → LL.z56 a r := (W.z5b).2.1

theorem W.z5a : ∀ a r, M.a33 a = some r → LL.z5a a r := (W.z5b).2.2.1

theorem W.z57 : ∀ a r, M.a2a a = some r → LL.z57 a r := (W.z5b).2.2.2.1

theorem W.z58 : ∀ a r, M.a48 a = some r → LL.z58 a r := (W.z5b).2.2.2.2.1

theorem W.z59 : ∀ a r, M.a5e a = some r → LL.z59 a r := (W.z5b).2.2.2.2.2

def Jy4 := Ys 111 B21 []
def Jy7 := Ys 11011 B21 Jy4
def Qqc := Yq 11010 B21
def Jy9 := Ys 1101101 B21 Jy4

def Post.z5c (r : Int) (v : Value) (w' : World) : Prop :=
 ∃ S', v = .i r ∧ Ext S0 w0 S' w' ∧ Hp nz wz S' w' (Lr)

theorem W.z5c (x0 : T38) (r : Int) (h : M.a5f x0 = some r) {nz wz S0 w0 Lr} (u5 u6 u7) (p0 : Hp nz wz S0 w0 (Lr)) (un : Rd kT38 S0 w0 u5 u7 x0.L) (uo : x0.L.length = u6) :
  Calls Tryz.prog 21 #[(ag (wT29 x0.Op x0.Text u5 u6 u7))] w0 (Rets (Post.z5c nz wz S0 w0 Lr r)) := by
 subst uo
 refine Zf Tryz.f21 B21 20 ?_
 refine Gj 21 [(0, (ag (wT29 x0.Op x0.Text u5 x0.L.length u7)))] fun junk => ?_
 delta M.a5f at h
 refine Gn 2 [] (Yt 10 B21 [0, 1] (Ys 11 B21 [])) ?_
 refine Ob 39 (.tmp 0) 1 0 ((ag (wT29 x0.Op x0.Text u5 x0.L.length u7))) (wT29 x0.Op x0.Text u5 x0.L.length u7) p0 Goes.v fun b1 w2 z2 p2 => ?_
 refine Gn 5 [(2, .i 0)] (Yt 1100 B21 [0, 1, 2, 3, 4, 5, 6] (Ys 1101 B21 Jy4)) ?_
 refine Goes.ldN 39 (.tmp 1) 6 39 ⟨b1, 0, none⟩ (wT29 x0.Op x0.Text u5 x0.L.length u7) (p2.pa 0 0) ?_
 refine Gb h fun y3 e4 h => ?_
 refine Gc (.call { callee := .value (.func 63), args := #[(.tmp 6), (.const (.int .i64 8))], argTypes := #[39, 3] }) 7 128 63 _ (W.z50 (x0, 8) y3 e4 _ _ _ p2 (un.ext z2) rfl) ?_
 rintro _ w3 ⟨S3, rfl, z3, p3⟩
 refine Gm 11 [([5], .tuple #[.i y3.1, .i y3.2]), ([8, 3, 10], .i y3.1), ([9, 4], .i y3.2), ([11, 12], .bool (decide (y3.1 > 8)))] (Zr Qqc [3, 4, 5, 6, 7, 8, 9, 10] Jy7) ?_
 refine Gi h (fun h5 h => ?_) fun h5 h => ?_
 ·
  rw [dt h5]
  refine Gm 14 [([13, 14, 17, 18, 19], undef), ([15, 16, 20], .bool true), ([2], .i 2)] Jy9 ?_
  obtain rfl := sj h
  have p3 := p3.dp 0
  exact Goes.rt Tryz.f21 (.i 2) ⟨_, rfl, (z2.t z3), p3⟩
 ·
  rw [df h5]
  refine Gm 4 [([13], .i y3.2), ([14, 15, 16], .bool (decide (y3.2 > 4096)))] (Zr Qqc [7, 8, 9, 10] Jy7) ?_
  refine Gi h (fun h6 h => ?_) fun h6 h => ?_
  ·
   rw [dt h6]
   refine Gm 10 [([17, 18, 19], undef), ([20], .bool true), ([2], .i 2)] Jy9 ?_
   obtain rfl := sj h
   have p3 := p3.dp 0
   exact Goes.rt Tryz.f21 (.i 2) ⟨_, rfl, (z2.t z3), p3⟩
  ·
   rw [df h6]
   refine Goes.ldN 39 (.tmp 1) 17 39 ⟨b1, 0, none⟩ (wT29 x0.Op x0.Text u5 x0.L.length u7) (p3.pa 0 0) ?_
   refine Gb h fun y7 e8 h => ?_
   refine Gc (kc 64 [17] #[39]) 18 4 64 _ (W.z55 x0 y7 e8 _ _ _ p3 (un.ext (z2.t z3)) rfl) ?_
   rintro _ w4 ⟨S4, rfl, z4, p4⟩
   have p4 := p4.dp 0
   refine Gm 3 [([19, 20], .bool (!y7))] Jy7 ?_
   refine Gi h (fun h9 h => ?_) fun h9 h => ?_
   ·
    rw [h9]
    refine Gn 6 [(2, .i 0)] (Ys 1111 B21 []) ?_
    obtain rfl := sj h
    exact Goes.rt Tryz.f21 (.i 0) ⟨_, rfl, ((z2.t z3).t z4), p4⟩
   ·
    rw [bf h9]
    refine Gn 5 [(2, .i 2)] Jy9 ?_
    obtain rfl := sj h
    exact Goes.rt Tryz.f21 (.i 2) ⟨_, rfl, ((z2.t z3).t z4), p4⟩

def Jyc := Ys 11111 B22 []
def Qqg := Yq 11110100 B22
def Jye := Zl Qqg (Zb 0 Jyc)
def Jyf := Zc Qqg Jye
def Jyi := Ys 111 B22 []
def Jyj := Ys 1101 B22 Jyi
def Jyr := Zb 1 (Ys 11110100111 B22 Jye)
def Qqs := Yq 1111010011001 B22
def Jyx := Ys 1111111 B22 []
def Jz0 := Zb 2 Jyx
def Jz4 := Ys 11111101011101 B22 Jz0
def Jz7 := Ys 1111110101111101 B22 Jz0
def Jza := Ys 111111010111111101 B22 Jz0

def Post.z5d (r : ByteArray) (v : Value) (w' : World) : Prop :=
 ∃ S', v = .string r ∧ Ext S0 w0 S' w' ∧ Hp nz wz S' w' (Lr)

def LF.z5d : T29 → ByteArray → Prop := fun x0 r => ∀ {nz wz S0 w0 Lr} u5 u6 u7 (_ : Hp nz wz S0 w0 (Lr)) (_ : Rd kT29 S0 w0 u5 u7 x0.L) (_ : x0.L.length = u6),
 Calls Tryz.prog 22 #[(ag (wT29 x0.Op x0.Text u5 u6 u7))] w0 (Rets (Post.z5d nz wz S0 w0 Lr r))

def L.z5e : T29 × (List ByteArray) × (List T29) × Int × Int → ByteArray → Prop := fun ⟨x1v, x3, x11, x12, x13⟩ r => ∀ S1 w1, Ext S0 w0 S1 w1 → ∀ gx1 u1z u20 u21 Gx3 nx3 cx3 u2l umf umg umh (_ : Hp nz wz S1 w1 ((some gx1, .row 30 (wT29 x1v.Op x1v.Text u1z u20 u21) 3 0) :: (Gx3, .row 9 u2l (cx3 * kStr.size) 0) :: Lr)) (_ : Rd kT29 S1 w1 u1z u21 x1v.L) (_ : x1v.L.length = u20) (_ : Els kStr S1 w1 u2l x3) (_ : x3.length = nx3) (_ : Rd kT29 S1 w1 umf umh x11) (_ : x11.length = umg) (junk : Nat → Value),
 Goes Tryz.prog (base 22) Jyf ⟨lfr 45 [(1, (pt gx1 0)), (3, .slice (Gp Gx3) nx3 cx3), (11, .slice umf umg umh), (12, .i x12), (13, .i x13)] junk, []⟩ w1 (Done Tryz.prog 22 (Rets (Post.z5d nz wz S0 w0 Lr r)))

def LL.z5e : T29 × (List ByteArray) × (List T29) × Int × Int → ByteArray → Prop := fun a r => ∀ {nz wz S0 w0 Lr}, L.z5e nz wz S0 w0 Lr a r

theorem W.z5f : (∀ a r, M.a9 a = some r → LF.z5d a r) ∧ (∀ a r, M.ar a = some r → LL.z5e a r) := by
 refine M.a9.mutual_partial_correctness LF.z5d LL.z5e ?_ ?_
 ·
  intro umi umj x0 r h nz wz S0 w0 Lr u5 u6 u7 p0 un uo
  try dsimp only at h
  subst uo
  refine Zf Tryz.f22 B22 44 ?_
  refine Gj 45 [(0, (ag (wT29 x0.Op x0.Text u5 x0.L.length u7)))] fun junk => ?_
  refine Gn 2 [] (Yt 10 B22 [0, 1] (Ys 11 B22 [])) ?_
  refine Ob 30 (.tmp 0) 1 0 ((ag (wT29 x0.Op x0.Text u5 x0.L.length u7))) (wT29 x0.Op x0.Text u5 x0.L.length u7) p0 Goes.v fun b1 w2 z2 p2 => ?_
  refine Gn 5 [(2, .string (⟨#[]⟩ : ByteArray))] (Yt 1100 B22 [0, 1, 2] Jyj) ?_
  refine Goes.ldN 30 (.tmp 1) 7 30 ⟨b1, 0, none⟩ (wT29 x0.Op x0.Text u5 x0.L.length u7) (p2.pa 0 0) ?_
  refine Gb h fun y3 e4 h => ?_
  refine Gc (kc 20 [7] #[30]) 8 34 20 _ (W.z4z x0 y3 e4 _ _ _ p2 (un.ext z2) rfl) ?_
  rintro _ w3 ⟨S3, rfl, z3, p3⟩
  refine Gn 2 [(9, .bool (!(decide (y3 = 0))))] Jyj ?_
  refine Gi h (fun h5 h => ?_) fun h5 h => ?_
  ·
   rw [dt h5]
   refine Gn 10 [(3, .slice none 0 0), (10, (pt b1 2))] (Yt 111100 B22 [1, 2, 3] (Ys 111101 B22 Jyc)) ?_
   refine Goes.ld 28 (.tmp 10) 11 28 ⟨b1, 2, none⟩ (.slice u5 x0.L.length u7) (p3.c 0 2) ?_
   refine Gn 5 [(12, .i (x0.L.length : Int)), (13, .i 0)] Jyf ?_
   have p3 : Hp nz wz S3 w3 ((none, .row 9 [] (0 * kStr.size) 0) :: (some b1, .row 30 (wT29 x0.Op x0.Text u5 x0.L.length u7) 3 0) :: Lr) := p3.nilRow' 9
   have p3 := (p3.fr 0).fr 1
   exact Gj 45 [(1, (pt b1 0)), (3, .slice (Gp none) 0 0), (11, .slice u5 x0.L.length u7), (12, .i (x0.L.length : Int)), (13, .i 0)] (umj _ _ h _ _ (z2.t z3) _ _ _ _ none 0 0 [] _ _ _ p3 (un.ext (z2.t z3)) rfl (Els.nil (K := kStr)) rfl (un.ext (z2.t z3)) rfl)
  ·
   rw [df h5]
   refine Gn 5 [(2, .string (⟨#[]⟩ : ByteArray))] (Ys 110101 B22 Jyi) ?_
   obtain rfl := sj h
   have p3 := p3.dp 0
   exact Goes.rt Tryz.f22 (.string (⟨#[]⟩ : ByteArray)) ⟨_, rfl, (z2.t z3), p3⟩
 ·
  intro rec_gram_Text umi ih_gram_Text umj ⟨x1v, x3, x11, x12, x13⟩ r h nz wz S0 w0 Lr S1 w1 hx gx1 u1z u20 u21 Gx3 nx3 cx3 u2l umf umg umh p1 u23 u24 fx3 lx3 umk uml junk
  try dsimp only at h
  subst u24
  subst lx3
  subst uml
  refine Gn 5 [(14, .bool (decide (x13 < x12)))] (Ys 1111010010 B22 (Ys 1111010011 B22 Jye)) ?_
  refine Gi h (fun h9 h => ?_) fun h9 h => ?_
  ·
   rw [dt h9]
   refine Gn 6 [] (Yt 1111010011000 B22 [0, 1, 2, 3] (Zc Qqs Jyr)) ?_
   refine Gg h fun g10 h => ?_
   refine Gg h fun g11 h => ?_
   refine Oi 28 (.tmp 11) (.tmp 13) 15 0 30 .i64 x13 (gi x11 x13) rfl rfl umk Goes.v g10 g11 fun a12 _ f13 q14 => ?_
   have q15 := q14
   obtain ⟨_, _, rfl, rfl, ⟨_, _, rfl, rfl, ⟨A16, c17, rfl, f18⟩⟩⟩ := kT29_open q15
   refine Goes.ldN 30 (.tmp 15) 16 30 a12 ([.i ((gi x11 x13).Op)] ++ ([.string ((gi x11 x13).Text)] ++ [.slice A16 (((gi x11 x13).L).length) c17])) (f13.cell) ?_
   refine Oa 30 5 0 (.agg #[.i 0, .string (⟨#[]⟩ : ByteArray), .slice none 0 0]) [.i 0, .string (⟨#[]⟩ : ByteArray), .slice none 0 0] p1 Goes.v fun b19 w4 z4 p4 => ?_
   refine So 30 (.tmp 5) (.tmp 16) 0 0 b19 0 ((ag (wT29 (gi x11 x13).Op (gi x11 x13).Text A16 (((gi x11 x13).L).length) c17))) (wT29 (gi x11 x13).Op (gi x11 x13).Text A16 (((gi x11 x13).L).length) c17) p4 rfl Goes.s fun w5 z5 p5 => ?_
   refine Gn 3 [(17, .slice (Gp Gx3) x3.length cx3)] (Zr Qqs [1, 2, 3, 4, 5] Jyr) ?_
   refine Goes.ldN 30 (.tmp 5) 18 30 ⟨b19, 0, none⟩ (wT29 (gi x11 x13).Op (gi x11 x13).Text A16 (((gi x11 x13).L).length) c17) (p5.pa 0 0) ?_
   refine Gb h fun y21 e22 h => ?_
   refine Gc (kc 22 [18] #[30]) 19 9 22 _ (ih_gram_Text (gi x11 x13) y21 e22 _ _ _ p5 (f18.ext (z4.t z5)) rfl) ?_
   rintro _ w6 ⟨S6, rfl, z6, p6⟩
   have p6 := p6.dp 0
   have f24 : Els kStr S6 w6 ([.string y21] : List Value) [y21] := by exact (Els.cons (K := kStr) (vs := [.string y21]) (x := y21) rfl Els.nil)
   refine Om (.buildSlice 43 1 #[(0, (.tmp 19))]) 20 43 (fun b => .slice (Gp (some b)) 1 1) 9 ([.string y21] : List Value) (1 * kStr.size) p6 Goes.v fun b23 w7 z7 p7 => ?_
   refine Gg h fun g29 h => ?_
   refine On (K := kStr) 43 (.tmp 17) (.tmp 20) 21 43 9 2 (.string ⟨#[]⟩) 16 x3.length cx3 1 x3 [y21] (x3 ++ [y21]) (Gp (some b23)) 1 rfl rfl rfl p7 rfl (fx3.ext (((z4.t z5).t z6).t z7)) Goes.v (f24.ext z7) (src_own p7 (q := 0) rfl) g29 fun w8 G30 c31 umm z8 p8 f33 => ?_
   refine Gm 8 [([3], .slice (Gp G30) ((x3 ++ [y21]).length) c31), ([22, 13], .i (wr .i64 (x13 + 1)))] Jyf ?_
   have p8 := p8.dp 0
   exact Gj 45 [(1, (pt gx1 0)), (3, .slice (Gp G30) ((x3 ++ [y21]).length) c31), (11, .slice umf x11.length umh), (12, .i x12), (13, .i (wr .i64 (x13 + 1)))] (umj _ _ h _ _ (((((hx.t z4).t z5).t z6).t z7).t z8) _ _ _ _ _ _ _ _ _ _ _ p8 (u23.ext ((((z4.t z5).t z6).t z7).t z8)) rfl f33 rfl (umk.ext ((((z4.t z5).t z6).t z7).t z8)) rfl)
  ·
   rw [df h9]
   refine Gn 5 [(23, .slice (Gp Gx3) x3.length cx3)] (Yt 111110 B22 [1, 2] (Ys 111111 B22 [])) ?_
   obtain ⟨S9, z9, p9, f34⟩ := p1.freezeRd 1 rfl fx3 (by decide)
   refine Gg h fun g35 h => ?_
   refine Gg h fun g36 h => ?_
   refine Gc (.call { callee := .value (.func 65), args := #[(.tmp 23), (.const (.string ⟨#[32]⟩))], argTypes := #[43, 9] }) 24 9 65 _ (join_calls Tryz.lays156 Tryz.Builder_Extra_156 p9 rfl f34 (⟨#[32]⟩ : ByteArray) g35 g36) ?_
   rintro _ w10 ⟨rfl, z10, p10⟩
   refine Gn 6 [(6, .string (joinB x3 (⟨#[32]⟩ : ByteArray))), (25, (pt gx1 0))] (Yt 11111100 B22 [1] (Ys 11111101 B22 Jyx)) ?_
   refine Goes.ld 3 (.tmp 25) 26 3 ⟨gx1, 0, none⟩ (.i x1v.Op) (p10.c 0 0) ?_
   refine Gm 7 [([28, 27], .bool (decide (x1v.Op = 1)))] (Ys 1111110101 B22 Jz0) ?_
   refine Gi h (fun h37 h => ?_) fun h37 h => ?_
   ·
    rw [dt h37]
    refine Gn 5 [(2, .string (⟨#[45]⟩ : ByteArray))] (Ys 111111010101 B22 Jz0) ?_
    obtain rfl := sj h
    have p10 := (p10.dp 0).dp 0
    exact Goes.rt Tryz.f22 (.string (⟨#[45]⟩ : ByteArray)) ⟨_, rfl, ((hx.t z9).t z10), p10⟩
   ·
    rw [df h37]
    refine Gm 6 [([30, 29], .bool (decide (x1v.Op = 2)))] (Ys 111111010111 B22 Jz0) ?_
    refine Gi h (fun h38 h => ?_) fun h38 h => ?_
    ·
     rw [dt h38]
     refine Gn 4 [(31, (pt gx1 1))] (Yt 11111101011100 B22 [1, 2, 3, 4] Jz4) ?_
     refine Goes.ld 9 (.tmp 31) 32 9 ⟨gx1, 1, none⟩ (.string x1v.Text) (p10.c 0 1) ?_
     refine Gg h fun g39 h => ?_
     refine Op_.cat_n 9 (.const (.string ⟨#[124]⟩)) (.tmp 32) 9 33 9 (⟨#[124]⟩ : ByteArray) x1v.Text ((⟨#[124]⟩ : ByteArray) ++ x1v.Text) rfl Goes.v (by kernel_rfl) (by kernel_rfl) g39 ?_
     refine Gg h fun g40 h => ?_
     refine Gl h fun v41 e42 h => ?_
     refine Op_.cat_n 9 (.tmp 33) (.const (.string ⟨#[124]⟩)) 9 34 9 ((⟨#[124]⟩ : ByteArray) ++ x1v.Text) (⟨#[124]⟩ : ByteArray) v41 e42 Goes.v (by kernel_rfl) (by kernel_rfl) g40 ?_
     refine Gn 2 [(2, .string v41)] Jz4 ?_
     obtain rfl := sj h
     have p10 := (p10.dp 0).dp 0
     exact Goes.rt Tryz.f22 (.string v41) ⟨_, rfl, ((hx.t z9).t z10), p10⟩
    ·
     rw [df h38]
     refine Gm 6 [([36, 35], .bool (decide (x1v.Op = 3)))] (Ys 11111101011111 B22 Jz0) ?_
     refine Gi h (fun h43 h => ?_) fun h43 h => ?_
     ·
      rw [dt h43]
      refine Gn 4 [(37, .string (joinB x3 (⟨#[32]⟩ : ByteArray)))] (Yt 1111110101111100 B22 [1, 2, 3] Jz7) ?_
      refine Gg h fun g44 h => ?_
      refine Gl h fun v45 e46 h => ?_
      refine Op_.cat_n 9 (.const (.string ⟨#[40]⟩)) (.tmp 37) 9 38 9 (⟨#[40]⟩ : ByteArray) (joinB x3 (⟨#[32]⟩ : ByteArray)) v45 e46 Goes.v (by kernel_rfl) (by kernel_rfl) g44 ?_
      refine Gg h fun g47 h => ?_
      refine Op_.cat_n 9 (.tmp 38) (.const (.string ⟨#[41]⟩)) 9 39 9 v45 (⟨#[41]⟩ : ByteArray) (v45 ++ (⟨#[41]⟩ : ByteArray)) rfl Goes.v (by kernel_rfl) (by kernel_rfl) g47 ?_
      refine Gn 2 [(2, .string (v45 ++ (⟨#[41]⟩ : ByteArray)))] Jz7 ?_
      obtain rfl := sj h
      have p10 := (p10.dp 0).dp 0
      exact Goes.rt Tryz.f22 (.string (v45 ++ (⟨#[41]⟩ : ByteArray))) ⟨_, rfl, ((hx.t z9).t z10), p10⟩
     ·
      rw [df h43]
      refine Gm 6 [([41, 40], .bool (decide (x1v.Op = 4)))] (Ys 1111110101111111 B22 Jz0) ?_
      refine Gi h (fun h48 h => ?_) fun h48 h => ?_
      ·
       rw [dt h48]
       refine Gn 4 [(42, .string (joinB x3 (⟨#[32]⟩ : ByteArray)))] (Yt 111111010111111100 B22 [1, 2, 3] Jza) ?_
       refine Gg h fun g49 h => ?_
       refine Gl h fun v50 e51 h => ?_
       refine Op_.cat_n 9 (.const (.string ⟨#[91]⟩)) (.tmp 42) 9 43 9 (⟨#[91]⟩ : ByteArray) (joinB x3 (⟨#[32]⟩ : ByteArray)) v50 e51 Goes.v (by kernel_rfl) (by kernel_rfl) g49 ?_
       refine Gg h fun g52 h => ?_
       refine Op_.cat_n 9 (.tmp 43) (.const (.string ⟨#[93]⟩)) 9 44 9 v50 (⟨#[93]⟩ : ByteArray) (v50 ++ (⟨#[93]⟩ : ByteArray)) rfl Goes.v (by kernel_rfl) (by kernel_rfl) g52 ?_
       refine Gn 2 [(2, .string (v50 ++ (⟨#[93]⟩ : ByteArray)))] Jza ?_
       obtain rfl := sj h
       have p10 := (p10.dp 0).dp 0
       exact Goes.rt Tryz.f22 (.string (v50 ++ (⟨#[93]⟩ : ByteArray))) ⟨_, rfl, ((hx.t z9).t z10), p10⟩
      ·
       rw [df h48]
       refine Gn 7 [(2, .string (⟨#[42]⟩ : ByteArray))] (Ys 11111111 B22 []) ?_
       obtain rfl := sj h
       have p10 := (p10.dp 0).dp 0
       exact Goes.rt Tryz.f22 (.string (⟨#[42]⟩ : ByteArray)) ⟨_, rfl, ((hx.t z9).t z10), p10⟩

theorem W.z5d : ∀ a r, M.a9 a = some r → LF.z5d a r := (W.z5f).1

theorem W.z5e : ∀ a r, M.ar a = some r → LL.z5e a r := (W.z5f).2

def Qrc := Yq 1110100 B66
def Jzf := Zl Qrc (Zb 0 (Ys 1111 B66 []))
def Jzg := Zc Qrc Jzf
def Jzi := Ys 111010001 B66 (Ys 11101001 B66 Jzf)
def Jzk := Zb 1 (Ys 111010011 B66 Jzf)
def Qrg := Yq 11101001001 B66
def Jzl := Zc Qrg Jzk
def Qrj := Yq 111010000 B66
def Jzt := Ys 11111 B66 []
def Jzw := Zb 2 Jzt
def J102 := Ys 11110101111101 B66 Jzw
def J105 := Ys 1111010111111101 B66 Jzw
def J108 := Ys 111101011111111101 B66 Jzw

def Post.z5g (r : ByteArray) (v : Value) (w' : World) : Prop :=
 ∃ S', v = .string r ∧ Ext S0 w0 S' w' ∧ Hp nz wz S' w' (Lr)

def LF.z5g : T38 → ByteArray → Prop := fun x0 r => ∀ {nz wz S0 w0 Lr} u5 u6 u7 (_ : Hp nz wz S0 w0 (Lr)) (_ : Rd kT38 S0 w0 u5 u7 x0.L) (_ : x0.L.length = u6),
 Calls Tryz.prog 66 #[(ag (wT29 x0.Op x0.Text u5 u6 u7))] w0 (Rets (Post.z5g nz wz S0 w0 Lr r))

def L.z5h : T38 × ByteArray × Int → ByteArray → Prop := fun ⟨x1v, x3, x4⟩ r => ∀ S1 w1, Ext S0 w0 S1 w1 → ∀ gx1 u1z u20 u21 (_ : Hp nz wz S1 w1 ((some gx1, .row 39 (wT29 x1v.Op x1v.Text u1z u20 u21) 3 0) :: Lr)) (_ : Rd kT38 S1 w1 u1z u21 x1v.L) (_ : x1v.L.length = u20) (junk : Nat → Value),
 Goes Tryz.prog (base 66) Jzg ⟨lfr 51 [(1, (pt gx1 0)), (3, .string x3), (4, .i x4)] junk, []⟩ w1 (Done Tryz.prog 66 (Rets (Post.z5g nz wz S0 w0 Lr r)))

def LL.z5h : T38 × ByteArray × Int → ByteArray → Prop := fun a r => ∀ {nz wz S0 w0 Lr}, L.z5h nz wz S0 w0 Lr a r

def L.z5i : T38 × ByteArray × Int × Bool → ByteArray → Prop := fun ⟨x1v, x3, x4, x14⟩ r => ∀ S1 w1, Ext S0 w0 S1 w1 → ∀ gx1 u1z u20 u21 (_ : Hp nz wz S1 w1 ((some gx1, .row 39 (wT29 x1v.Op x1v.Text u1z u20 u21) 3 0) :: Lr)) (_ : Rd kT38 S1 w1 u1z u21 x1v.L) (_ : x1v.L.length = u20) (junk : Nat → Value),
 Goes Tryz.prog (base 66) Jzi ⟨lfr 51 [(1, (pt gx1 0)), (3, .string x3), (4, .i x4), (14, .bool x14)] junk, []⟩ w1 (Done Tryz.prog 66 (Rets (Post.z5g nz wz S0 w0 Lr r)))

def LL.z5i : T38 × ByteArray × Int × Bool → ByteArray → Prop := fun a r => ∀ {nz wz S0 w0 Lr}, L.z5i nz wz S0 w0 Lr a r

def L.z5j : T38 × ByteArray × Int → ByteArray → Prop := fun ⟨x1v, x3, x4⟩ r => ∀ S1 w1, Ext S0 w0 S1 w1 → ∀ gx1 u1z u20 u21 (_ : Hp nz wz S1 w1 ((some gx1, .row 39 (wT29 x1v.Op x1v.Text u1z u20 u21) 3 0) :: Lr)) (_ : Rd kT38 S1 w1 u1z u21 x1v.L) (_ : x1v.L.length = u20) (junk : Nat → Value),
 Goes Tryz.prog (base 66) Jzl ⟨lfr 51 [(1, (pt gx1 0)), (3, .string x3), (4, .i x4)] junk, []⟩ w1 (Done Tryz.prog 66 (Rets (Post.z5g nz wz S0 w0 Lr r)))

def LL.z5j : T38 × ByteArray × Int → ByteArray → Prop := fun a r => ∀ {nz wz S0 w0 Lr}, L.z5j nz wz S0 w0 Lr a r

theorem W.z5k : (∀ a r, M.a49 a = some r → LF.z5g a r) ∧ (∀ a r, M.a4a a = some r → LL.z5h a r) ∧ (∀ a r, M.a4b a = some r → LL.z5i a r) ∧ (∀ a r, M.a5g a = some r → LL.z5j a r) := by
 refine M.a49.mutual_partial_correctness LF.z5g LL.z5h LL.z5i LL.z5j ?_ ?_ ?_ ?_
 ·
  intro umn umo x0 r h nz wz S0 w0 Lr u5 u6 u7 p0 un uo
  try dsimp only at h
  subst uo
  refine Zf Tryz.f66 B66 50 ?_
  refine Gj 51 [(0, (ag (wT29 x0.Op x0.Text u5 x0.L.length u7)))] fun junk => ?_
  refine Gn 2 [] (Yt 10 B66 [0, 1] (Ys 11 B66 [])) ?_
  refine Ob 39 (.tmp 0) 1 0 ((ag (wT29 x0.Op x0.Text u5 x0.L.length u7))) (wT29 x0.Op x0.Text u5 x0.L.length u7) p0 Goes.v fun b1 w2 z2 p2 => ?_
  refine Gm 13 [([2, 3], .string (⟨#[]⟩ : ByteArray)), ([4], .i 0)] Jzg ?_
  exact Gj 51 [(1, (pt b1 0)), (3, .string (⟨#[]⟩ : ByteArray)), (4, .i 0)] (umo _ _ h _ _ z2 _ _ _ _ p2 (un.ext z2) rfl)
 ·
  intro ump umq ⟨x1v, x3, x4⟩ r h nz wz S0 w0 Lr S1 w1 hx gx1 u1z u20 u21 p1 u23 u24 junk
  try dsimp only at h
  subst u24
  refine Gn 5 [(5, .i x4), (6, (pt gx1 2))] (Zr Qrj [2, 3, 4, 5, 6, 7, 8, 9] Jzi) ?_
  refine Goes.ld 37 (.tmp 6) 7 37 ⟨gx1, 2, none⟩ (.slice u1z x1v.L.length u21) (p1.c 0 2) ?_
  refine Gm 3 [([8], .i (x1v.L.length : Int)), ([9, 10], .bool (decide (x4 < (x1v.L.length : Int))))] (Zr Qrj [6, 7, 8, 9] Jzi) ?_
  refine Gi h (fun h4 h => ?_) fun h4 h => ?_
  ·
   rw [dt h4]
   refine Gn 1 [(11, (pt gx1 0))] (Zr Qrj [7, 8, 9] Jzi) ?_
   refine Goes.ld 3 (.tmp 11) 12 3 ⟨gx1, 0, none⟩ (.i x1v.Op) (p1.c 0 0) ?_
   refine Gm 3 [([13, 14], .bool (decide (x1v.Op > 2)))] Jzi ?_
   exact Gj 51 [(1, (pt gx1 0)), (3, .string x3), (4, .i x4), (14, .bool (decide (x1v.Op > 2)))] (umq _ _ h _ _ hx _ _ _ _ p1 u23 rfl)
  ·
   rw [df h4]
   refine Gm 5 [([11, 12, 13], undef), ([14], .bool false)] Jzi ?_
   exact Gj 51 [(1, (pt gx1 0)), (3, .string x3), (4, .i x4), (14, .bool false)] (umq _ _ h _ _ hx _ _ _ _ p1 u23 rfl)
 ·
  intro umr ums ⟨x1v, x3, x4, x14⟩ r h nz wz S0 w0 Lr S1 w1 hx gx1 u1z u20 u21 p1 u23 u24 junk
  try dsimp only at h
  subst u24
  refine Gi h (fun h6 h => ?_) fun h6 h => ?_
  ·
   rw [h6]
   refine Gn 10 [(17, .i x4), (18, .bool (decide (x4 > 0)))] (Ys 111010010001 B66 Jzl) ?_
   refine Gi h (fun h7 h => ?_) fun h7 h => ?_
   ·
    rw [dt h7]
    refine Gn 3 [(19, .string x3)] (Yt 1110100100010 B66 [1, 2] Jzl) ?_
    refine Gg h fun g8 h => ?_
    refine Op_.cat_n 9 (.tmp 19) (.const (.string ⟨#[32]⟩)) 9 20 9 x3 (⟨#[32]⟩ : ByteArray) (x3 ++ (⟨#[32]⟩ : ByteArray)) rfl Goes.v (by kernel_rfl) (by kernel_rfl) g8 ?_
    refine Gn 2 [(3, .string (x3 ++ (⟨#[32]⟩ : ByteArray)))] Jzl ?_
    exact Gj 51 [(1, (pt gx1 0)), (3, .string (x3 ++ (⟨#[32]⟩ : ByteArray))), (4, .i x4)] (ums _ _ h _ _ hx _ _ _ _ p1 u23 rfl)
   ·
    rw [df h7]
    refine Gn 2 [] Jzl ?_
    exact Gj 51 [(1, (pt gx1 0)), (3, .string x3), (4, .i x4)] (ums _ _ h _ _ hx _ _ _ _ p1 u23 rfl)
  ·
   rw [bf h6]
   refine Gn 6 [(29, (pt gx1 0))] (Yt 111100 B66 [1] (Ys 111101 B66 Jzt)) ?_
   refine Goes.ld 3 (.tmp 29) 30 3 ⟨gx1, 0, none⟩ (.i x1v.Op) (p1.c 0 0) ?_
   refine Gm 7 [([32, 31], .bool (decide (x1v.Op = 0)))] (Ys 11110101 B66 Jzw) ?_
   refine Gi h (fun h10 h => ?_) fun h10 h => ?_
   ·
    rw [dt h10]
    refine Gn 5 [(2, .string (⟨#[42]⟩ : ByteArray))] (Ys 1111010101 B66 Jzw) ?_
    obtain rfl := sj h
    have p1 := p1.dp 0
    exact Goes.rt Tryz.f66 (.string (⟨#[42]⟩ : ByteArray)) ⟨_, rfl, hx, p1⟩
   ·
    rw [df h10]
    refine Gm 6 [([34, 33], .bool (decide (x1v.Op = 1)))] (Ys 1111010111 B66 Jzw) ?_
    refine Gi h (fun h11 h => ?_) fun h11 h => ?_
    ·
     rw [dt h11]
     refine Gn 5 [(2, .string (⟨#[45]⟩ : ByteArray))] (Ys 111101011101 B66 Jzw) ?_
     obtain rfl := sj h
     have p1 := p1.dp 0
     exact Goes.rt Tryz.f66 (.string (⟨#[45]⟩ : ByteArray)) ⟨_, rfl, hx, p1⟩
    ·
     rw [df h11]
     refine Gm 6 [([36, 35], .bool (decide (x1v.Op = 2)))] (Ys 111101011111 B66 Jzw) ?_
     refine Gi h (fun h12 h => ?_) fun h12 h => ?_
     ·
      rw [dt h12]
      refine Gn 4 [(37, (pt gx1 1))] (Yt 11110101111100 B66 [1, 2, 3, 4] J102) ?_
      refine Goes.ld 9 (.tmp 37) 38 9 ⟨gx1, 1, none⟩ (.string x1v.Text) (p1.c 0 1) ?_
      refine Gg h fun g13 h => ?_
      refine Op_.cat_n 9 (.const (.string ⟨#[124]⟩)) (.tmp 38) 9 39 9 (⟨#[124]⟩ : ByteArray) x1v.Text ((⟨#[124]⟩ : ByteArray) ++ x1v.Text) rfl Goes.v (by kernel_rfl) (by kernel_rfl) g13 ?_
      refine Gg h fun g14 h => ?_
      refine Gl h fun v15 e16 h => ?_
      refine Op_.cat_n 9 (.tmp 39) (.const (.string ⟨#[124]⟩)) 9 40 9 ((⟨#[124]⟩ : ByteArray) ++ x1v.Text) (⟨#[124]⟩ : ByteArray) v15 e16 Goes.v (by kernel_rfl) (by kernel_rfl) g14 ?_
      refine Gn 2 [(2, .string v15)] J102 ?_
      obtain rfl := sj h
      have p1 := p1.dp 0
      exact Goes.rt Tryz.f66 (.string v15) ⟨_, rfl, hx, p1⟩
     ·
      rw [df h12]
      refine Gm 6 [([42, 41], .bool (decide (x1v.Op = 3)))] (Ys 11110101111111 B66 Jzw) ?_
      refine Gi h (fun h17 h => ?_) fun h17 h => ?_
      ·
       rw [dt h17]
       refine Gn 4 [(43, .string x3)] (Yt 1111010111111100 B66 [1, 2, 3] J105) ?_
       refine Gg h fun g18 h => ?_
       refine Op_.cat_n 9 (.const (.string ⟨#[40]⟩)) (.tmp 43) 9 44 9 (⟨#[40]⟩ : ByteArray) x3 ((⟨#[40]⟩ : ByteArray) ++ x3) rfl Goes.v (by kernel_rfl) (by kernel_rfl) g18 ?_
       refine Gg h fun g19 h => ?_
       refine Gl h fun v20 e21 h => ?_
       refine Op_.cat_n 9 (.tmp 44) (.const (.string ⟨#[41]⟩)) 9 45 9 ((⟨#[40]⟩ : ByteArray) ++ x3) (⟨#[41]⟩ : ByteArray) v20 e21 Goes.v (by kernel_rfl) (by kernel_rfl) g19 ?_
       refine Gn 2 [(2, .string v20)] J105 ?_
       obtain rfl := sj h
       have p1 := p1.dp 0
       exact Goes.rt Tryz.f66 (.string v20) ⟨_, rfl, hx, p1⟩
      ·
       rw [df h17]
       refine Gm 6 [([47, 46], .bool (decide (x1v.Op = 4)))] (Ys 1111010111111111 B66 Jzw) ?_
       refine Gi h (fun h22 h => ?_) fun h22 h => ?_
       ·
        rw [dt h22]
        refine Gn 4 [(48, .string x3)] (Yt 111101011111111100 B66 [1, 2, 3] J108) ?_
        refine Gg h fun g23 h => ?_
        refine Op_.cat_n 9 (.const (.string ⟨#[91]⟩)) (.tmp 48) 9 49 9 (⟨#[91]⟩ : ByteArray) x3 ((⟨#[91]⟩ : ByteArray) ++ x3) rfl Goes.v (by kernel_rfl) (by kernel_rfl) g23 ?_
        refine Gg h fun g24 h => ?_
        refine Gl h fun v25 e26 h => ?_
        refine Op_.cat_n 9 (.tmp 49) (.const (.string ⟨#[93]⟩)) 9 50 9 ((⟨#[91]⟩ : ByteArray) ++ x3) (⟨#[93]⟩ : ByteArray) v25 e26 Goes.v (by kernel_rfl) (by kernel_rfl) g24 ?_
        refine Gn 2 [(2, .string v25)] J108 ?_
        obtain rfl := sj h
        have p1 := p1.dp 0
        exact Goes.rt Tryz.f66 (.string v25) ⟨_, rfl, hx, p1⟩
       ·
        rw [df h22]
        refine Gn 7 [(2, .string (⟨#[]⟩ : ByteArray))] (Ys 111111 B66 []) ?_
        obtain rfl := sj h
        have p1 := p1.dp 0
        exact Goes.rt Tryz.f66 (.string (⟨#[]⟩ : ByteArray)) ⟨_, rfl, hx, p1⟩
 ·
  intro umt umn umu umo ⟨x1v, x3, x4⟩ r h nz wz S0 w0 Lr S1 w1 hx gx1 u1z u20 u21 p1 u23 u24 junk
  try dsimp only at h
  subst u24
  refine Gn 3 [(21, .string x3), (22, (pt gx1 2))] (Zr Qrg [2, 3, 4, 5, 6, 7, 8] Jzk) ?_
  refine Goes.ld 37 (.tmp 22) 23 37 ⟨gx1, 2, none⟩ (.slice u1z x1v.L.length u21) (p1.c 0 2) ?_
  refine Gn 1 [(24, .i x4)] (Zr Qrg [4, 5, 6, 7, 8] Jzk) ?_
  refine Gg h fun g27 h => ?_
  refine Gg h fun g28 h => ?_
  refine Oi 37 (.tmp 23) (.tmp 24) 25 0 39 .i64 x4 (gi x1v.L x4) rfl rfl u23 Goes.v g27 g28 fun a29 _ f30 q31 => ?_
  have q32 := q31
  obtain ⟨_, _, rfl, rfl, ⟨_, _, rfl, rfl, ⟨A33, c34, rfl, f35⟩⟩⟩ := kT38_open q32
  refine Goes.ldN 39 (.tmp 25) 26 39 a29 ([.i ((gi x1v.L x4).Op)] ++ ([.string ((gi x1v.L x4).Text)] ++ [.slice A33 (((gi x1v.L x4).L).length) c34])) (f30.cell) ?_
  refine Gb h fun y36 e37 h => ?_
  refine Gc (kc 66 [26] #[39]) 27 9 66 _ (umu (gi x1v.L x4) y36 e37 _ _ _ p1 f35 rfl) ?_
  rintro _ w3 ⟨S3, rfl, z3, p3⟩
  refine Gg h fun g38 h => ?_
  refine Op_.cat_n 9 (.tmp 21) (.tmp 27) 9 28 9 x3 y36 (x3 ++ y36) rfl Goes.v (by kernel_rfl) (by kernel_rfl) g38 ?_
  refine Gm 9 [([3], .string (x3 ++ y36)), ([15], .i x4), ([16, 4], .i (wr .i64 (x4 + 1)))] Jzg ?_
  exact Gj 51 [(1, (pt gx1 0)), (3, .string (x3 ++ y36)), (4, .i (wr .i64 (x4 + 1)))] (umo _ _ h _ _ (hx.t z3) _ _ _ _ p3 (u23.ext z3) rfl)

theorem W.z5g : ∀ a r, M.a49 a = some r → LF.z5g a r := (W.z5k).1

theorem W.z5h : ∀ a r, M.a4a a = some r → LL.z5h a r := (W.z5k).2.1

theorem W.z5i : ∀ a r, M.a4b a = some r → LL.z5i a r := (W.z5k).2.2.1

theorem W.z5j : ∀ a r, M.a5g a = some r → LL.z5j a r := (W.z5k).2.2.2

def J10f := Ys 111 B23 []
def J10g := Ys 1101 B23 J10f
def J10i := Ys 1111 B23 []

def Post.z5l (r : ByteArray) (v : Value) (w' : World) : Prop :=
 ∃ S', v = .string r ∧ Ext S0 w0 S' w' ∧ Hp nz wz S' w' (Lr)

theorem W.z5l (x0 : T38) (r : ByteArray) (h : M.a5h x0 = some r) {nz wz S0 w0 Lr} (u5 u6 u7) (p0 : Hp nz wz S0 w0 (Lr)) (un : Rd kT38 S0 w0 u5 u7 x0.L) (uo : x0.L.length = u6) :
  Calls Tryz.prog 23 #[(ag (wT29 x0.Op x0.Text u5 u6 u7))] w0 (Rets (Post.z5l nz wz S0 w0 Lr r)) := by
 subst uo
 refine Zf Tryz.f23 B23 7 ?_
 refine Gj 8 [(0, (ag (wT29 x0.Op x0.Text u5 x0.L.length u7)))] fun junk => ?_
 delta M.a5h at h
 refine Gn 2 [] (Yt 10 B23 [0, 1] (Ys 11 B23 [])) ?_
 refine Ob 39 (.tmp 0) 1 0 ((ag (wT29 x0.Op x0.Text u5 x0.L.length u7))) (wT29 x0.Op x0.Text u5 x0.L.length u7) p0 Goes.v fun b1 w2 z2 p2 => ?_
 refine Gn 5 [(2, .string (⟨#[]⟩ : ByteArray))] (Yt 1100 B23 [0, 1, 2] J10g) ?_
 refine Goes.ldN 39 (.tmp 1) 3 39 ⟨b1, 0, none⟩ (wT29 x0.Op x0.Text u5 x0.L.length u7) (p2.pa 0 0) ?_
 refine Gb h fun y3 e4 h => ?_
 refine Gc (kc 21 [3] #[39]) 4 34 21 _ (W.z5c x0 y3 e4 _ _ _ p2 (un.ext z2) rfl) ?_
 rintro _ w3 ⟨S3, rfl, z3, p3⟩
 refine Gn 2 [(5, .bool (!(decide (y3 = 0))))] J10g ?_
 refine Gi h (fun h5 h => ?_) fun h5 h => ?_
 ·
  rw [dt h5]
  refine Gn 4 [] (Yt 1110 B23 [0, 1, 2] J10i) ?_
  refine Goes.ldN 39 (.tmp 1) 6 39 ⟨b1, 0, none⟩ (wT29 x0.Op x0.Text u5 x0.L.length u7) (p3.pa 0 0) ?_
  refine Gb h fun y6 e7 h => ?_
  refine Gc (kc 66 [6] #[39]) 7 9 66 _ (W.z5g x0 y6 e7 _ _ _ p3 (un.ext (z2.t z3)) rfl) ?_
  rintro _ w4 ⟨S4, rfl, z4, p4⟩
  have p4 := p4.dp 0
  refine Gn 2 [(2, .string y6)] J10i ?_
  obtain rfl := sj h
  exact Goes.rt Tryz.f23 (.string y6) ⟨_, rfl, ((z2.t z3).t z4), p4⟩
 ·
  rw [df h5]
  refine Gn 5 [(2, .string (⟨#[]⟩ : ByteArray))] (Ys 110101 B23 J10f) ?_
  obtain rfl := sj h
  have p3 := p3.dp 0
  exact Goes.rt Tryz.f23 (.string (⟨#[]⟩ : ByteArray)) ⟨_, rfl, (z2.t z3), p3⟩

def J10l := Ys 111 B197 []
def J10m := Ys 1101 B197 J10l

def Post.z5m (gx0 : Nat) (r : Int × T134) (v : Value) (w' : World) : Prop :=
 ∃ S' umv, v = .int .u8 r.1 ∧ Ext S0 w0 S' w' ∧ Hp nz wz S' w' ((some gx0, .row 135 (vT134 r.2 umv) 4 0) :: Lr) ∧ PtO kT138 S' w' umv r.2.bad

def L.z5n (gx0 : Nat) : Bool × T134 → (Int × T134) → Prop := fun ⟨x19, e0v⟩ r => ∀ S1 w1, Ext S0 w0 S1 w1 → ∀ umv (_ : Hp nz wz S1 w1 ((some gx0, .row 135 (vT134 e0v umv) 4 0) :: Lr)) (_ : PtO kT138 S1 w1 umv e0v.bad) (junk : Nat → Value),
 Goes Tryz.prog (base 197) J10m ⟨lfr 29 [(0, (pt gx0 0)), (19, .bool x19)] junk, []⟩ w1 (Done Tryz.prog 197 (Rets (Post.z5m nz wz S0 w0 Lr gx0 r)))

theorem W.z5n {nz wz S0 w0 Lr} (gx0 : Nat) : ∀ a r, M.a60 a = some r → L.z5n nz wz S0 w0 Lr gx0 a r := by
 intro ⟨x19, e0v⟩ r h S1 w1 hx umv p1 umw junk
 rw [M.a60] at h
 try dsimp only at h
 refine Gi h (fun h9 h => ?_) fun h9 h => ?_
 ·
  rw [h9]
  refine Gn 5 [(2, .int .u8 0)] (Ys 110101 B197 J10l) ?_
  obtain rfl := sj h
  exact Goes.rt Tryz.f197 (.int .u8 0) ⟨_, _, rfl, hx, p1, umw⟩
 ·
  rw [bf h9]
  refine Gn 3 [] (Ys 1110 B197 (Ys 1111 B197 [])) ?_
  have z3 : Ext S1 w1 S1 (w1).drew := Ext.draw
  have p3 := p1.draw
  refine Gd [] (Fc S1 (w1).drew [(⟨gx0, 0, none⟩, .string e0v.s), (⟨gx0, 1, none⟩, .i e0v.at_)]) 3 10 ?_
  generalize (w1).drew = w3 at z3 p3 ⊢
  refine AnyG.pu 0 (.move (.tmp 0)) 20 132 ((pt gx0 0)) (Fc.here (p3.cs [(0, 0, 2)])) ?_
  refine AnyG.pu 1 (.nilCheck (.tmp 20)) 21 0 ((pt gx0 0)) (Fc.here (p3.cs [(0, 0, 2)])) ?_
  refine AnyG.pu 2 (.fieldAddr 135 (.tmp 21) 0) 22 0 ((pt gx0 0)) (Fc.here (p3.cs [(0, 0, 2)])) ?_
  refine Al 3 9 (.tmp 22) 23 9 ⟨gx0, 0, none⟩ (.string e0v.s) (Fc.here (p3.cs [(0, 0, 2)])) (fun _ h => h.2.at_ 0 rfl) ?_
  refine AnyG.pu 4 (.move (.tmp 0)) 24 132 ((pt gx0 0)) (Fc.here (p3.cs [(0, 0, 2)])) ?_
  refine AnyG.pu 5 (.nilCheck (.tmp 24)) 25 0 ((pt gx0 0)) (Fc.here (p3.cs [(0, 0, 2)])) ?_
  refine AnyG.pu 6 (.fieldAddr 135 (.tmp 25) 1) 26 0 ((pt gx0 1)) (Fc.here (p3.cs [(0, 0, 2)])) ?_
  refine Al 7 3 (.tmp 26) 27 3 ⟨gx0, 1, none⟩ (.i e0v.at_) (Fc.here (p3.cs [(0, 0, 2)])) (fun _ h => h.2.at_ 1 rfl) ?_
  refine Gg h fun g10 h => ?_
  refine Gg h fun g11 h => ?_
  refine AnyG.ixS (i := 8) 9 (.tmp 23) (.tmp 27) 28 5 .i64 e0v.s e0v.at_ (by kernel_rfl) (by kernel_rfl) (Fc.here (p3.cs [(0, 0, 2)])) (by kernel_rfl) (by kernel_rfl) (by kernel_rfl) g10 g11 ?_
  refine AnyG.pu 9 (.assign (.tmp 28)) 2 5 (.int .u8 (bt e0v.s e0v.at_)) (Fc.here (p3.cs [(0, 0, 2)])) ?_
  refine Ad ?_
  obtain rfl := sj h
  exact Goes.rt Tryz.f197 (.int .u8 (bt e0v.s e0v.at_)) ⟨_, _, rfl, (hx.t z3), p3, (umw.ext z3)⟩


theorem W.z5m (x0v : T134) (r : Int × T134) (h : M.a2 x0v = some r) {nz wz S0 w0 Lr} (gx0 umx) (p0 : Hp nz wz S0 w0 ((some gx0, .row 135 (vT134 x0v umx) 4 0) :: Lr)) (umy : PtO kT138 S0 w0 umx x0v.bad) :
  Calls Tryz.prog 197 #[(pt gx0 0)] w0 (Rets (Post.z5m nz wz S0 w0 Lr gx0 r)) := by
 refine Zf Tryz.f197 B197 28 ?_
 refine Gj 29 [(0, (pt gx0 0))] fun junk => ?_
 delta M.a2 at h
 refine Gn 6 [(2, .int .u8 0)] (Ys 1100 B197 J10m) ?_
 have z2 : Ext S0 w0 S0 (w0).drew := Ext.draw
 have p2 := p0.draw
 refine Gd [] (Fc S0 (w0).drew [(⟨gx0, 3, none⟩, umx), (⟨gx0, 1, none⟩, .i x0v.at_), (⟨gx0, 0, none⟩, .string x0v.s)]) 1 17 ?_
 generalize (w0).drew = w2 at z2 p2 ⊢
 refine AnyG.pu 0 (.move (.tmp 0)) 3 132 ((pt gx0 0)) (Fc.here (p2.cs [(0, 3, 1), (0, 1, 1), (0, 0, 1)])) ?_
 refine AnyG.pu 1 (.nilCheck (.tmp 3)) 4 0 ((pt gx0 0)) (Fc.here (p2.cs [(0, 3, 1), (0, 1, 1), (0, 0, 1)])) ?_
 refine AnyG.pu 2 (.fieldAddr 135 (.tmp 4) 3) 5 0 ((pt gx0 3)) (Fc.here (p2.cs [(0, 3, 1), (0, 1, 1), (0, 0, 1)])) ?_
 refine Al 3 133 (.tmp 5) 6 133 ⟨gx0, 3, none⟩ (umx) (Fc.here (p2.cs [(0, 3, 1), (0, 1, 1), (0, 0, 1)])) (fun _ h => h.2.at_ 0 rfl) ?_
 refine Gl h fun v8 h2 h => ?_
 rcases v8 with _ | y3
 ·
  try dsimp only at h
  obtain rfl := PtO.nil (umy.ext z2) h2
  refine AnyG.pu 4 (.binOp .neq 133 (.tmp 6) (.const (.pointer none)) 133) 7 4 (.bool false) (Fc.here (p2.cs [(0, 3, 1), (0, 1, 1), (0, 0, 1)])) ?_
  refine AnyG.pu 5 (.move (.tmp 7)) 8 4 (.bool false) (Fc.here (p2.cs [(0, 3, 1), (0, 1, 1), (0, 0, 1)])) ?_
  refine AnyG.pu 6 (.move (.tmp 0)) 9 132 ((pt gx0 0)) (Fc.here (p2.cs [(0, 3, 1), (0, 1, 1), (0, 0, 1)])) ?_
  refine AnyG.pu 7 (.nilCheck (.tmp 9)) 10 0 ((pt gx0 0)) (Fc.here (p2.cs [(0, 3, 1), (0, 1, 1), (0, 0, 1)])) ?_
  refine AnyG.pu 8 (.fieldAddr 135 (.tmp 10) 1) 11 0 ((pt gx0 1)) (Fc.here (p2.cs [(0, 3, 1), (0, 1, 1), (0, 0, 1)])) ?_
  refine Al 9 3 (.tmp 11) 12 3 ⟨gx0, 1, none⟩ (.i x0v.at_) (Fc.here (p2.cs [(0, 3, 1), (0, 1, 1), (0, 0, 1)])) (fun _ h => h.2.at_ 1 rfl) ?_
  refine AnyG.pu 10 (.move (.tmp 0)) 13 132 ((pt gx0 0)) (Fc.here (p2.cs [(0, 3, 1), (0, 1, 1), (0, 0, 1)])) ?_
  refine AnyG.pu 11 (.nilCheck (.tmp 13)) 14 0 ((pt gx0 0)) (Fc.here (p2.cs [(0, 3, 1), (0, 1, 1), (0, 0, 1)])) ?_
  refine AnyG.pu 12 (.fieldAddr 135 (.tmp 14) 0) 15 0 ((pt gx0 0)) (Fc.here (p2.cs [(0, 3, 1), (0, 1, 1), (0, 0, 1)])) ?_
  refine Al 13 9 (.tmp 15) 16 9 ⟨gx0, 0, none⟩ (.string x0v.s) (Fc.here (p2.cs [(0, 3, 1), (0, 1, 1), (0, 0, 1)])) (fun _ h => h.2.at_ 2 rfl) ?_
  refine AnyG.pu 14 (.call { callee := .builtin .len, args := #[(.tmp 16)], argTypes := #[9] }) 17 3 (.i (x0v.s.size : Int)) (Fc.here (p2.cs [(0, 3, 1), (0, 1, 1), (0, 0, 1)])) ?_
  refine AnyG.pu 15 (.binOp .geq 3 (.tmp 12) (.tmp 17) 3) 18 4 (.bool (decide (x0v.at_ ≥ (x0v.s.size : Int)))) (Fc.here (p2.cs [(0, 3, 1), (0, 1, 1), (0, 0, 1)])) ?_
  refine AnyG.pu 16 (.pick (.tmp 8) (.const (.bool true)) (.tmp 18)) 19 4 (.bool (decide (x0v.at_ ≥ (x0v.s.size : Int)))) (Fc.here (p2.cs [(0, 3, 1), (0, 1, 1), (0, 0, 1)])) ?_
  refine Ad ?_
  exact Gj 29 [(0, (pt gx0 0)), (19, .bool (decide (x0v.at_ ≥ (x0v.s.size : Int))))] (W.z5n gx0 _ _ h _ _ z2 (.pointer none) p2 rfl)
 ·
  try dsimp only at h
  obtain ⟨a5, _, rfl, -, f6, q7⟩ := PtO.got (umy.ext z2) h2
  obtain rfl := q7
  refine AnyG.pu 4 (.binOp .neq 133 (.tmp 6) (.const (.pointer none)) 133) 7 4 (.bool true) (Fc.here (p2.cs [(0, 3, 1), (0, 1, 1), (0, 0, 1)])) ?_
  refine AnyG.pu 5 (.move (.tmp 7)) 8 4 (.bool true) (Fc.here (p2.cs [(0, 3, 1), (0, 1, 1), (0, 0, 1)])) ?_
  refine AnyG.s1 6 9 (Fc.here (p2.cs [(0, 3, 1), (0, 1, 1), (0, 0, 1)])) ?_
  refine AnyG.s1 7 10 (Fc.here (p2.cs [(0, 3, 1), (0, 1, 1), (0, 0, 1)])) ?_
  refine AnyG.s1 8 11 (Fc.here (p2.cs [(0, 3, 1), (0, 1, 1), (0, 0, 1)])) ?_
  refine AnyG.s1 9 12 (Fc.here (p2.cs [(0, 3, 1), (0, 1, 1), (0, 0, 1)])) ?_
  refine AnyG.s1 10 13 (Fc.here (p2.cs [(0, 3, 1), (0, 1, 1), (0, 0, 1)])) ?_
  refine AnyG.s1 11 14 (Fc.here (p2.cs [(0, 3, 1), (0, 1, 1), (0, 0, 1)])) ?_
  refine AnyG.s1 12 15 (Fc.here (p2.cs [(0, 3, 1), (0, 1, 1), (0, 0, 1)])) ?_
  refine AnyG.s1 13 16 (Fc.here (p2.cs [(0, 3, 1), (0, 1, 1), (0, 0, 1)])) ?_
  refine AnyG.s1 14 17 (Fc.here (p2.cs [(0, 3, 1), (0, 1, 1), (0, 0, 1)])) ?_
  refine AnyG.s1 15 18 (Fc.here (p2.cs [(0, 3, 1), (0, 1, 1), (0, 0, 1)])) ?_
  refine AnyG.pu 16 (.pick (.tmp 8) (.const (.bool true)) (.tmp 18)) 19 4 (.bool true) (Fc.here (p2.cs [(0, 3, 1), (0, 1, 1), (0, 0, 1)])) ?_
  refine Ad ?_
  exact Gj 29 [(0, (pt gx0 0)), (19, .bool true)] (W.z5n gx0 _ _ h _ _ z2 _ p2 ⟨_, _, rfl, List.cons_ne_nil _ _, f6, rfl⟩)

def J10t := Ys 111 B69 []
def Qsm := Yq 11010 B69
def J10y := Ys 1111 B69 []
def J10z := Yt 1110 B69 [1] J10y

def Post.z5o (gx0 : Nat) (r : T26 × T134) (v : Value) (w' : World) : Prop :=
 ∃ S' u9d u1 u2 umv, v = (ag (vT26 r.1 u9d u1 u2)) ∧ Ext S0 w0 S' w' ∧ Hp nz wz S' w' ((some gx0, .row 135 (vT134 r.2 umv) 4 0) :: Lr) ∧ r.1.Set.length = 4 ∧ Rd kT26 S' w' u9d u2 r.1.L ∧ r.1.L.length = u1 ∧ PtO kT138 S' w' umv r.2.bad

theorem W.z5o (x0v : T134) (x1 : Int) (r : T26 × T134) (h : M.a1 x0v x1 = some r) {nz wz S0 w0 Lr} (gx0 umx) (p0 : Hp nz wz S0 w0 ((some gx0, .row 135 (vT134 x0v umx) 4 0) :: Lr)) (umy : PtO kT138 S0 w0 umx x0v.bad) :
  Calls Tryz.prog 69 #[(pt gx0 0), .i x1] w0 (Rets (Post.z5o nz wz S0 w0 Lr gx0 r)) := by
 refine Zf Tryz.f69 B69 15 ?_
 refine Gj 17 [(0, (pt gx0 0)), (1, .i x1)] fun junk => ?_
 delta M.a1 at h
 refine Gn 2 [] (Yt 10 B69 [0] (Ys 11 B69 [])) ?_
 refine Oa 27 4 0 (.agg #[.i 0, .u 0, .u 0, .u 0, .u 0, .slice none 0 0, .i 0, .i 0]) [.i 0, .u 0, .u 0, .u 0, .u 0, .slice none 0 0, .i 0, .i 0] p0 Goes.v fun b2 w2 z2 p2 => ?_
 refine Gm 7 [([5, 6], (pt gx0 0)), ([7], (pt gx0 3))] (Yt 1100 B69 [3, 4] (Ys 1101 B69 J10t)) ?_
 refine Goes.ld 133 (.tmp 7) 8 133 ⟨gx0, 3, none⟩ (umx) (p2.c 1 3) ?_
 refine Gl h fun v13 h4 h => ?_
 rcases v13 with _ | y5
 ·
  try dsimp only at h
  obtain rfl := PtO.nil (umy.ext z2) h4
  refine Gn 7 [(9, .bool true), (10, (pt gx0 0)), (11, .i x1), (12, .agg #[.i x1])] (Zr Qsm [3, 4, 5, 6] J10t) ?_
  refine Ob 139 (.tmp 12) 13 133 (.agg #[.i x1]) [.i x1] p2 Goes.v fun b10 w3 z3 p3 => ?_
  refine Gn 2 [(14, (pt gx0 0)), (15, (pt gx0 3))] (Zr Qsm [6] J10t) ?_
  refine So 133 (.tmp 15) (.tmp 13) 0 2 gx0 3 ((pt b10 0)) [(pt b10 0)] p3 rfl Goes.s fun w4 z4 p4 => ?_
  refine Gn 4 [(16, .agg #[.i 0, .u 0, .u 0, .u 0, .u 0, .slice none 0 0, .i 0, .i 0])] J10z ?_
  refine So 27 (.tmp 4) (.tmp 16) 0 1 b2 0 (.agg #[.i 0, .u 0, .u 0, .u 0, .u 0, .slice none 0 0, .i 0, .i 0]) [.i 0, .u 0, .u 0, .u 0, .u 0, .slice none 0 0, .i 0, .i 0] p4 rfl Goes.s fun w5 z5 p5 => ?_
  refine Gn 1 [] J10y ?_
  obtain ⟨S6, z6, p6, f12⟩ := p5.freezeBlk 0 rfl
  obtain rfl := sj h
  exact R1 Tryz.f69 (.cell 4 27) (.agg #[.i 0, .u 0, .u 0, .u 0, .u 0, .slice none 0 0, .i 0, .i 0]) (Rn b2 (p6.pa 0 0)) ⟨_, _, _, _, _, rfl, ((((z2.t z3).t z4).t z5).t z6), p6.drop, rfl, Rd.none_, rfl, ⟨_, _, rfl, List.cons_ne_nil _ _, f12, rfl⟩⟩
 ·
  try dsimp only at h
  obtain ⟨a7, _, rfl, -, f8, q9⟩ := PtO.got (umy.ext z2) h4
  obtain rfl := q9
  refine Gn 7 [(9, .bool false), (16, .agg #[.i 0, .u 0, .u 0, .u 0, .u 0, .slice none 0 0, .i 0, .i 0])] J10z ?_
  refine So 27 (.tmp 4) (.tmp 16) 0 0 b2 0 (.agg #[.i 0, .u 0, .u 0, .u 0, .u 0, .slice none 0 0, .i 0, .i 0]) [.i 0, .u 0, .u 0, .u 0, .u 0, .slice none 0 0, .i 0, .i 0] p2 rfl Goes.s fun w7 z7 p7 => ?_
  refine Gn 1 [] J10y ?_
  obtain rfl := sj h
  exact R1 Tryz.f69 (.cell 4 27) (.agg #[.i 0, .u 0, .u 0, .u 0, .u 0, .slice none 0 0, .i 0, .i 0]) (Rn b2 (p7.pa 0 0)) ⟨_, _, _, _, _, rfl, (z2.t z7), p7.drop, rfl, Rd.none_, rfl, ⟨_, _, rfl, List.cons_ne_nil _ _, (f8.ext z7), rfl⟩⟩

def J110 := Ys 111 B132 []
def J111 := Ys 1101 B132 J110
def J113 := Ys 1111 B132 []
def Qst := Yq 1110 B132

def Post.z5p (gx0 : Nat) (r : Bool × T134) (v : Value) (w' : World) : Prop :=
 ∃ S' umv, v = .bool r.1 ∧ Ext S0 w0 S' w' ∧ Hp nz wz S' w' ((some gx0, .row 135 (vT134 r.2 umv) 4 0) :: Lr) ∧ PtO kT138 S' w' umv r.2.bad

def L.z5q (gx0 : Nat) : Bool × T134 → (Bool × T134) → Prop := fun ⟨x12, e0v⟩ r => ∀ S1 w1, Ext S0 w0 S1 w1 → ∀ umv (_ : Hp nz wz S1 w1 ((some gx0, .row 135 (vT134 e0v umv) 4 0) :: Lr)) (_ : PtO kT138 S1 w1 umv e0v.bad) (junk : Nat → Value),
 Goes Tryz.prog (base 132) J111 ⟨lfr 20 [(0, (pt gx0 0)), (12, .bool x12)] junk, []⟩ w1 (Done Tryz.prog 132 (Rets (Post.z5p nz wz S0 w0 Lr gx0 r)))

theorem W.z5q {nz wz S0 w0 Lr} (gx0 : Nat) : ∀ a r, M.a61 a = some r → L.z5q nz wz S0 w0 Lr gx0 a r := by
 intro ⟨x12, e0v⟩ r h S1 w1 hx umv p1 umw junk
 rw [M.a61] at h
 try dsimp only at h
 refine Gi h (fun h5 h => ?_) fun h5 h => ?_
 ·
  rw [h5]
  refine Gn 5 [(4, .bool false)] (Ys 110101 B132 J110) ?_
  obtain rfl := sj h
  exact Goes.rt Tryz.f132 (.bool false) ⟨_, _, rfl, hx, p1, umw⟩
 ·
  rw [bf h5]
  refine Gm 7 [([13, 14], (pt gx0 0)), ([15], (pt gx0 1))] (Zr Qst [3, 4, 5, 6, 7] J113) ?_
  refine Goes.ld 3 (.tmp 15) 16 3 ⟨gx0, 1, none⟩ (.i e0v.at_) (p1.c 0 1) ?_
  refine Gn 3 [(17, .i (wr .i64 (e0v.at_ + 1))), (18, (pt gx0 0)), (19, (pt gx0 1))] (Zr Qst [7] J113) ?_
  refine So 3 (.tmp 19) (.tmp 17) 0 0 gx0 1 (.i (wr .i64 (e0v.at_ + 1))) [.i (wr .i64 (e0v.at_ + 1))] p1 rfl Goes.s fun w3 z3 p3 => ?_
  refine Gn 5 [(4, .bool true)] (Ys 11111 B132 []) ?_
  obtain rfl := sj h
  exact Goes.rt Tryz.f132 (.bool true) ⟨_, _, rfl, (hx.t z3), p3, (umw.ext z3)⟩

def Qsv := Yq 1100 B132

theorem W.z5p (x0v : T134) (x1 : Int) (r : Bool × T134) (h : M.a0 x0v x1 = some r) {nz wz S0 w0 Lr} (gx0 umx) (p0 : Hp nz wz S0 w0 ((some gx0, .row 135 (vT134 x0v umx) 4 0) :: Lr)) (umy : PtO kT138 S0 w0 umx x0v.bad) :
  Calls Tryz.prog 132 #[(pt gx0 0), .int .u8 x1] w0 (Rets (Post.z5p nz wz S0 w0 Lr gx0 r)) := by
 refine Zf Tryz.f132 B132 18 ?_
 refine Gj 20 [(0, (pt gx0 0)), (1, .int .u8 x1)] fun junk => ?_
 delta M.a0 at h
 refine Gm 10 [([4], .bool false), ([5], .int .u8 x1), ([6, 7], .bool (decide (x1 = 0)))] (Zr Qsv [3, 4, 5, 6, 7] J111) ?_
 refine Gi h (fun h2 h => ?_) fun h2 h => ?_
 ·
  rw [dt h2]
  refine Gm 6 [([8, 9, 10, 11], undef), ([12], .bool true)] J111 ?_
  exact Gj 20 [(0, (pt gx0 0)), (12, .bool true)] (W.z5q gx0 _ _ h _ _ (Ext.refl S0 w0) _ p0 umy)
 ·
  rw [df h2]
  refine Gn 1 [(8, (pt gx0 0))] (Zr Qsv [4, 5, 6, 7] J111) ?_
  refine Gb h fun y3 e4 h => ?_
  refine Gc (kc 197 [8] #[132]) 9 5 197 _ (W.z5m x0v y3 e4 _ _ p0 umy) ?_
  rintro _ w2 ⟨S2, umz, rfl, z2, p2, un0⟩
  refine Gm 4 [([10], .int .u8 x1), ([11, 12], .bool (!(decide (y3.1 = x1))))] J111 ?_
  exact Gj 20 [(0, (pt gx0 0)), (12, .bool (!(decide (y3.1 = x1))))] (W.z5q gx0 _ _ h _ _ z2 _ p2 un0)

end

end Go.Gx
