import Derived.Test.YtdccklkdakfnaaaGreatWGta

set_option linter.unusedVariables false

set_option linter.unusedSimpArgs false

set_option maxRecDepth 100000

set_option maxHeartbeats 4000000

namespace Go.Gx

open Go.RowKit Go.Proofs

variable (nz : Nat) (wz : World) (S0 : Fz) (w0 : World) (Lr : List Ent)

noncomputable section

def Jcz := Zb 0 (Ys 1111 B189 [])
def Qa7 := Yq 1110100 B189
def Jd0 := Zl Qa7 Jcz
def Jd1 := Zc Qa7 Jd0
def Jd3 := Zb 1 (Ys 1110100111 B189 Jd0)
def Jd8 := Ys 1110100110011 B189 Jd3

def Post.z21 (r : List T29) (v : Value) (w' : World) : Prop :=
 ∃ S' Gq nq cq csq kzq, v = .slice (Gp Gq) nq cq ∧ Ext S0 w0 S' w' ∧ Hp nz wz S' w' ((Gq, .row 30 csq (cq * kT29.size) kzq) :: Lr) ∧ Els kT29 S' w' csq r ∧ r.length = nq

def L.z22 : (List T29) × (List T29) × Int × Int → (List T29) → Prop := fun ⟨x5, x8, x9, x10⟩ r => ∀ S1 w1, Ext S0 w0 S1 w1 → ∀ gx3 Gx5 nx5 cx5 u3a u96 Ax8 nx8 cx8 (_ : Hp nz wz S1 w1 ((some gx3, .row 301 [.func (.func 190) #[] #[]] 1 0) :: (Gx5, .row 30 u3a (cx5 * kT29.size) u96) :: Lr)) (_ : Els kT29 S1 w1 u3a x5) (_ : x5.length = nx5) (_ : Rd kT29 S1 w1 Ax8 cx8 x8) (_ : x8.length = nx8) (junk : Nat → Value),
 Goes Tryz.prog (base 189) Jd1 ⟨lfr 24 [(3, (pt gx3 0)), (5, .slice (Gp Gx5) nx5 cx5), (8, .slice Ax8 nx8 cx8), (9, .i x9), (10, .i x10)] junk, []⟩ w1 (Done Tryz.prog 189 (Rets (Post.z21 nz wz S0 w0 Lr r)))

def L.z23 : (List T29) × (List T29) × Int × Int → (List T29) → Prop := fun ⟨x5, x8, x9, x10⟩ r => ∀ S1 w1, Ext S0 w0 S1 w1 → ∀ gx3 Gx5 nx5 cx5 u3a u96 Ax8 nx8 cx8 (_ : Hp nz wz S1 w1 ((some gx3, .row 301 [.func (.func 190) #[] #[]] 1 0) :: (Gx5, .row 30 u3a (cx5 * kT29.size) u96) :: Lr)) (_ : Els kT29 S1 w1 u3a x5) (_ : x5.length = nx5) (_ : Rd kT29 S1 w1 Ax8 cx8 x8) (_ : x8.length = nx8) (junk : Nat → Value),
 Goes Tryz.prog (base 189) Jd3 ⟨lfr 24 [(3, (pt gx3 0)), (5, .slice (Gp Gx5) nx5 cx5), (8, .slice Ax8 nx8 cx8), (9, .i x9), (10, .i x10)] junk, []⟩ w1 (Done Tryz.prog 189 (Rets (Post.z21 nz wz S0 w0 Lr r)))

theorem W.z24 {nz wz S0 w0 Lr} : (∀ a r, M.ad a = some r → (L.z22 nz wz S0 w0 Lr) a r) ∧ (∀ a r, M.a1u a = some r → (L.z23 nz wz S0 w0 Lr) a r) := by
 refine M.ad.mutual_partial_correctness (L.z22 nz wz S0 w0 Lr) (L.z23 nz wz S0 w0 Lr) ?_ ?_
 ·
  intro u97 u98 ⟨x5, x8, x9, x10⟩ r h S1 w1 hx gx3 Gx5 nx5 cx5 u3a u96 Ax8 nx8 cx8 p1 fx5 lx5 fx8 lx8 junk
  try dsimp only at h
  subst lx5
  subst lx8
  refine Gn 5 [(11, .bool (decide (x10 < x9)))] (Ys 111010010 B189 (Ys 111010011 B189 Jd0)) ?_
  refine Gi h (fun h6 h => ?_) fun h6 h => ?_
  ·
   rw [dt h6]
   refine Gn 6 [] (Yt 111010011000 B189 [0, 1, 2, 3] (Ys 111010011001 B189 Jd3)) ?_
   refine Gg h fun g7 h => ?_
   refine Gg h fun g8 h => ?_
   refine Oi 28 (.tmp 8) (.tmp 10) 12 0 30 .i64 x10 (gi x8 x10) rfl rfl fx8 Goes.v g7 g8 fun a9 _ f10 q11 => ?_
   have q12 := q11
   obtain ⟨_, _, rfl, rfl, ⟨_, _, rfl, rfl, ⟨A13, c14, rfl, f15⟩⟩⟩ := kT29_open q12
   refine Goes.ldN 30 (.tmp 12) 13 30 a9 ([.i ((gi x8 x10).Op)] ++ ([.string ((gi x8 x10).Text)] ++ [.slice A13 (((gi x8 x10).L).length) c14])) (f10.cell) ?_
   refine Oa 30 7 0 (.agg #[.i 0, .string (⟨#[]⟩ : ByteArray), .slice none 0 0]) [.i 0, .string (⟨#[]⟩ : ByteArray), .slice none 0 0] p1 Goes.v fun b16 w3 z3 p3 => ?_
   refine So 30 (.tmp 7) (.tmp 13) 0 0 b16 0 ((ag (wT29 (gi x8 x10).Op (gi x8 x10).Text A13 (((gi x8 x10).L).length) c14))) (wT29 (gi x8 x10).Op (gi x8 x10).Text A13 (((gi x8 x10).L).length) c14) p3 rfl Goes.s fun w4 z4 p4 => ?_
   refine Gn 5 [(14, .slice (Gp Gx5) x5.length cx5), (15, .func (.func 234) #[] #[(pt gx3 0), (pt b16 0)])] (Yt 1110100110010 B189 [2, 3] Jd8) ?_
   obtain ⟨S5, z5, p5, f18⟩ := p4.freezeRd 2 rfl (fx5.ext (z3.t z4)) (by decide)
   have p5 := (p5.fr 0).fr 1
   refine Gb h fun y19 e20 h => ?_
   refine Gc (kc 128 [14, 15] #[28, 232]) 16 4 128 _ (W.z20 x5 (gi x8 x10) y19 e20 _ _ _ _ _ _ _ _ p5 f18 rfl (f15.ext ((z3.t z4).t z5)) rfl) ?_
   rintro _ w6 ⟨S6, rfl, z6, p6⟩
   refine Gn 2 [(17, .bool (!y19))] Jd8 ?_
   refine Gi h (fun h21 h => ?_) fun h21 h => ?_
   ·
    rw [h21]
    refine Gn 2 [] Jd3 ?_
    have p6 := p6.dp 1
    exact Gj 24 [(3, (pt gx3 0)), (5, .slice (Gp Gx5) x5.length cx5), (8, .slice Ax8 x8.length cx8), (9, .i x9), (10, .i x10)] (u98 _ _ h _ _ ((((hx.t z3).t z4).t z5).t z6) _ _ _ _ _ _ _ _ _ p6 (fx5.ext (((z3.t z4).t z5).t z6)) rfl (fx8.ext (((z3.t z4).t z5).t z6)) rfl)
   ·
    rw [bf h21]
    refine Gn 3 [(18, .slice (Gp Gx5) x5.length cx5)] (Yt 11101001100110 B189 [1, 2, 3, 4] Jd3) ?_
    refine Goes.ldN 30 (.tmp 7) 19 30 ⟨b16, 0, none⟩ (wT29 (gi x8 x10).Op (gi x8 x10).Text A13 (((gi x8 x10).L).length) c14) (p6.pa 1 0) ?_
    have f25 : Els kT29 S6 w6 ((wT29 (gi x8 x10).Op (gi x8 x10).Text A13 (((gi x8 x10).L).length) c14) : List Value) [gi x8 x10] := by exact (Els.cons (K := kT29) (vs := (wT29 (gi x8 x10).Op (gi x8 x10).Text A13 (((gi x8 x10).L).length) c14)) (x := gi x8 x10) (kT29_close ⟨[.i ((gi x8 x10).Op)], [.string ((gi x8 x10).Text), .slice A13 (((gi x8 x10).L).length) c14], rfl, rfl, ⟨[.string ((gi x8 x10).Text)], [.slice A13 (((gi x8 x10).L).length) c14], rfl, rfl, ⟨_, _, rfl, (f15.ext (((z3.t z4).t z5).t z6))⟩⟩⟩) Els.nil)
    refine Om (.buildSlice 28 1 #[(0, (.tmp 19))]) 20 28 (fun b => .slice (Gp (some b)) 1 1) 30 ((wT29 (gi x8 x10).Op (gi x8 x10).Text A13 (((gi x8 x10).L).length) c14) : List Value) (1 * kT29.size) p6 Goes.v fun b24 w7 z7 p7 => ?_
    refine Gg h fun g30 h => ?_
    refine On (K := kT29) 28 (.tmp 18) (.tmp 20) 21 28 30 3 (.agg #[.i 0, .string ⟨#[]⟩, .slice none 0 0]) 48 x5.length cx5 1 x5 [gi x8 x10] (x5 ++ [gi x8 x10]) (Gp (some b24)) 1 rfl rfl rfl p7 rfl (fx5.ext ((((z3.t z4).t z5).t z6).t z7)) Goes.v (f25.ext z7) (src_own p7 (q := 0) rfl) g30 fun w8 G31 c32 u9a z8 p8 f34 => ?_
    refine Gn 2 [(5, .slice (Gp G31) ((x5 ++ [gi x8 x10]).length) c32)] Jd3 ?_
    have p8 := (p8.dp 0).dp 1
    exact Gj 24 [(3, (pt gx3 0)), (5, .slice (Gp G31) ((x5 ++ [gi x8 x10]).length) c32), (8, .slice Ax8 x8.length cx8), (9, .i x9), (10, .i x10)] (u98 _ _ h _ _ ((((((hx.t z3).t z4).t z5).t z6).t z7).t z8) _ _ _ _ _ _ _ _ _ p8 f34 rfl (fx8.ext (((((z3.t z4).t z5).t z6).t z7).t z8)) rfl)
  ·
   rw [df h6]
   refine Gm 7 [([23, 4], .slice (Gp Gx5) x5.length cx5)] (Ys 11111 B189 []) ?_
   obtain rfl := sj h
   have p1 := p1.dp 0
   exact Goes.rt Tryz.f189 (.slice (Gp Gx5) x5.length cx5) ⟨_, _, _, _, _, _, rfl, hx, p1, fx5, rfl⟩
 ·
  intro u9b u9c ⟨x5, x8, x9, x10⟩ r h S1 w1 hx gx3 Gx5 nx5 cx5 u3a u96 Ax8 nx8 cx8 p1 fx5 lx5 fx8 lx8 junk
  try dsimp only at h
  subst lx5
  subst lx8
  refine Gm 6 [([22, 10], .i (wr .i64 (x10 + 1)))] Jd1 ?_
  exact Gj 24 [(3, (pt gx3 0)), (5, .slice (Gp Gx5) x5.length cx5), (8, .slice Ax8 x8.length cx8), (9, .i x9), (10, .i (wr .i64 (x10 + 1)))] (u9c _ _ h _ _ hx _ _ _ _ _ _ _ _ _ p1 fx5 rfl fx8 rfl)

theorem W.z22 {nz wz S0 w0 Lr} : ∀ a r, M.ad a = some r → (L.z22 nz wz S0 w0 Lr) a r := (W.z24).1

theorem W.z23 {nz wz S0 w0 Lr} : ∀ a r, M.a1u a = some r → (L.z23 nz wz S0 w0 Lr) a r := (W.z24).2


theorem W.z21 (x0 : List T29) (r : List T29) (h : M.a3c x0 = some r) {nz wz S0 w0 Lr} (Ax0 nx0 cx0) (p0 : Hp nz wz S0 w0 (Lr)) (fx0 : Rd kT29 S0 w0 Ax0 cx0 x0) (lx0 : x0.length = nx0) :
  Calls Tryz.prog 189 #[.slice Ax0 nx0 cx0, .func (.func 190) #[] #[]] w0 (Rets (Post.z21 nz wz S0 w0 Lr r)) := by
 subst lx0
 refine Zf Tryz.f189 B189 22 ?_
 refine Gj 24 [(0, .slice Ax0 x0.length cx0), (1, .func (.func 190) #[] #[])] fun junk => ?_
 delta M.a3c at h
 refine Gn 2 [] (Yt 10 B189 [0, 1] (Ys 11 B189 [])) ?_
 refine Ob 301 (.tmp 1) 3 0 (.func (.func 190) #[] #[]) [.func (.func 190) #[] #[]] p0 Goes.v fun b1 w2 z2 p2 => ?_
 refine Gm 14 [([4, 5], .slice none 0 0), ([8], .slice Ax0 x0.length cx0), ([9], .i (x0.length : Int)), ([10], .i 0)] (Ys 111010 B189 Jcz) ?_
 refine Gn 1 [] Jd1 ?_
 have p2 : Hp nz wz S0 w2 ((none, .row 30 [] (0 * kT29.size) 0) :: (some b1, .row 301 [.func (.func 190) #[] #[]] 1 0) :: Lr) := p2.nilRow' 30
 have p2 := (p2.fr 0).fr 1
 exact Gj 24 [(3, (pt b1 0)), (5, .slice (Gp none) 0 0), (8, .slice Ax0 x0.length cx0), (9, .i (x0.length : Int)), (10, .i 0)] (W.z22 _ _ h _ _ z2 _ none 0 0 [] 0 _ _ _ p2 (Els.nil (K := kT29)) rfl (fx0.ext z2) rfl)

def Jdf := Ys 11111 B118 []
def Qal := Yq 11110100 B118
def Jdh := Zl Qal (Zb 0 Jdf)
def Jdi := Zc Qal Jdh
def Jdk := Zb 1 (Ys 11110100111 B118 Jdh)
def Jdl := Zb 2 Jdk
def Jdv := Ys 11110100110011011101 B118 Jdl
def Jdz := Ys 111111 B118 []
def Je2 := Zb 3 Jdz
def Je4 := Ys 111110110101 B118 Je2
def Je7 := Ys 11111011011101 B118 Je2
def Je9 := Ys 1111111 B118 []

def Post.z25 (r : T29) (v : Value) (w' : World) : Prop :=
 ∃ S' u9d u1 u2, v = (ag (wT29 r.Op r.Text u9d u1 u2)) ∧ Ext S0 w0 S' w' ∧ Hp nz wz S' w' (Lr) ∧ Rd kT29 S' w' u9d u2 r.L ∧ r.L.length = u1

def L.z26 : Int × T29 × Int × Int × (List T29) × (List T29) × Int × Int → T29 → Prop := fun ⟨x0, x4v, x5, x6, x7, x15, x16, x17⟩ r => ∀ S1 w1, Ext S0 w0 S1 w1 → ∀ gx4 u9e u9f u9g u9h Gx7 nx7 cx7 u4t u8d u8e u8f (_ : Hp nz wz S1 w1 ((some gx4, .row 30 (wT29 x4v.Op x4v.Text (Gp u9e) u9f u9g) 3 0) :: (u9e, .row 30 u9h (u9g * kT29.size) 0) :: (Gx7, .row 30 u4t (cx7 * kT29.size) 0) :: Lr)) (_ : Els kT29 S1 w1 u9h x4v.L) (_ : x4v.L.length = u9f) (_ : Els kT29 S1 w1 u4t x7) (_ : x7.length = nx7) (_ : Rd kT29 S1 w1 u8d u8f x15) (_ : x15.length = u8e) (junk : Nat → Value),
 Goes Tryz.prog (base 118) Jdi ⟨lfr 59 [(0, .i x0), (4, (pt gx4 0)), (5, .i x5), (6, .i x6), (7, .slice (Gp Gx7) nx7 cx7), (15, .slice u8d u8e u8f), (16, .i x16), (17, .i x17)] junk, []⟩ w1 (Done Tryz.prog 118 (Rets (Post.z25 nz wz S0 w0 Lr r)))

def L.z27 : Int × T29 × Int × Int × (List T29) × (List T29) × Int × Int → T29 → Prop := fun ⟨x0, x4v, x5, x6, x7, x15, x16, x17⟩ r => ∀ S1 w1, Ext S0 w0 S1 w1 → ∀ gx4 u9e u9f u9g u9h Gx7 nx7 cx7 u4t u8d u8e u8f (_ : Hp nz wz S1 w1 ((some gx4, .row 30 (wT29 x4v.Op x4v.Text (Gp u9e) u9f u9g) 3 0) :: (u9e, .row 30 u9h (u9g * kT29.size) 0) :: (Gx7, .row 30 u4t (cx7 * kT29.size) 0) :: Lr)) (_ : Els kT29 S1 w1 u9h x4v.L) (_ : x4v.L.length = u9f) (_ : Els kT29 S1 w1 u4t x7) (_ : x7.length = nx7) (_ : Rd kT29 S1 w1 u8d u8f x15) (_ : x15.length = u8e) (junk : Nat → Value),
 Goes Tryz.prog (base 118) Jdl ⟨lfr 59 [(0, .i x0), (4, (pt gx4 0)), (5, .i x5), (6, .i x6), (7, .slice (Gp Gx7) nx7 cx7), (15, .slice u8d u8e u8f), (16, .i x16), (17, .i x17)] junk, []⟩ w1 (Done Tryz.prog 118 (Rets (Post.z25 nz wz S0 w0 Lr r)))

theorem W.z28 {nz wz S0 w0 Lr} : (∀ a r, M.ae a = some r → (L.z26 nz wz S0 w0 Lr) a r) ∧ (∀ a r, M.a18 a = some r → (L.z27 nz wz S0 w0 Lr) a r) := by
 refine M.ae.mutual_partial_correctness (L.z26 nz wz S0 w0 Lr) (L.z27 nz wz S0 w0 Lr) ?_ ?_
 ·
  intro u9i u9j ⟨x0, x4v, x5, x6, x7, x15, x16, x17⟩ r h S1 w1 hx gx4 u9e u9f u9g u9h Gx7 nx7 cx7 u4t u8d u8e u8f p1 u9k u9l fx7 lx7 u8m u8n junk
  try dsimp only at h
  subst u9l
  subst lx7
  subst u8n
  refine Gn 5 [(18, .bool (decide (x17 < x16)))] (Ys 1111010010 B118 (Ys 1111010011 B118 Jdh)) ?_
  refine Gi h (fun h10 h => ?_) fun h10 h => ?_
  ·
   rw [dt h10]
   refine Gn 6 [] (Yt 1111010011000 B118 [0, 1, 2, 3] (Ys 1111010011001 B118 Jdk)) ?_
   refine Gg h fun g11 h => ?_
   refine Gg h fun g12 h => ?_
   refine Oi 28 (.tmp 15) (.tmp 17) 19 0 30 .i64 x17 (gi x15 x17) rfl rfl u8m Goes.v g11 g12 fun a13 _ f14 q15 => ?_
   have q16 := q15
   obtain ⟨_, _, rfl, rfl, ⟨_, _, rfl, rfl, ⟨A17, c18, rfl, f19⟩⟩⟩ := kT29_open q16
   refine Goes.ldN 30 (.tmp 19) 20 30 a13 ([.i ((gi x15 x17).Op)] ++ ([.string ((gi x15 x17).Text)] ++ [.slice A17 (((gi x15 x17).L).length) c18])) (f14.cell) ?_
   refine Oa 30 9 0 (.agg #[.i 0, .string (⟨#[]⟩ : ByteArray), .slice none 0 0]) [.i 0, .string (⟨#[]⟩ : ByteArray), .slice none 0 0] p1 Goes.v fun b20 w4 z4 p4 => ?_
   refine So 30 (.tmp 9) (.tmp 20) 0 0 b20 0 ((ag (wT29 (gi x15 x17).Op (gi x15 x17).Text A17 (((gi x15 x17).L).length) c18))) (wT29 (gi x15 x17).Op (gi x15 x17).Text A17 (((gi x15 x17).L).length) c18) p4 rfl Goes.s fun w5 z5 p5 => ?_
   refine Gn 4 [(21, (pt b20 0))] (Yt 11110100110010 B118 [1] (Ys 11110100110011 B118 Jdk)) ?_
   refine Goes.ld 3 (.tmp 21) 22 3 ⟨b20, 0, none⟩ (.i ((gi x15 x17).Op)) (p5.c 0 0) ?_
   refine Gm 8 [([28], .i x0), ([29, 27], .bool (decide ((gi x15 x17).Op = x0)))] (Ys 1111010011001101 B118 Jdl) ?_
   refine Gi h (fun h22 h => ?_) fun h22 h => ?_
   ·
    rw [dt h22]
    refine Gn 4 [(30, .slice (Gp Gx7) x7.length cx7), (31, (pt b20 2))] (Yt 11110100110011010 B118 [2, 3, 4] Jdl) ?_
    refine Goes.ld 28 (.tmp 31) 32 28 ⟨b20, 2, none⟩ (.slice A17 (((gi x15 x17).L).length) c18) (p5.c 0 2) ?_
    obtain ⟨u4w, f24, f25⟩ := src_rd (f19.ext (z4.t z5))
    refine Gg h fun g26 h => ?_
    refine On (K := kT29) 28 (.tmp 30) (.tmp 32) 33 28 30 3 (.agg #[.i 0, .string ⟨#[]⟩, .slice none 0 0]) 48 x7.length cx7 (((gi x15 x17).L).length) x7 ((gi x15 x17).L) (x7 ++ (gi x15 x17).L) A17 c18 rfl rfl rfl p5 rfl (fx7.ext (z4.t z5)) Goes.v f24 f25 g26 fun w6 G27 c28 u4x z6 p6 f30 => ?_
    refine Gn 2 [(7, .slice (Gp G27) ((x7 ++ (gi x15 x17).L).length) c28)] Jdl ?_
    have p6 := p6.dp 0
    exact Gj 59 [(0, .i x0), (4, (pt gx4 0)), (5, .i x5), (6, .i x6), (7, .slice (Gp G27) ((x7 ++ (gi x15 x17).L).length) c28), (15, .slice u8d x15.length u8f), (16, .i x16), (17, .i x17)] (u9j _ _ h _ _ (((hx.t z4).t z5).t z6) _ _ _ _ _ _ _ _ _ _ _ _ p6 (u9k.ext ((z4.t z5).t z6)) rfl f30 rfl (u8m.ext ((z4.t z5).t z6)) rfl)
   ·
    rw [df h22]
    refine Gm 7 [([35], .i x6), ([36, 34], .bool (decide ((gi x15 x17).Op = x6)))] (Ys 111101001100110111 B118 Jdl) ?_
    refine Gi h (fun h34 h => ?_) fun h34 h => ?_
    ·
     rw [dt h34]
     refine Gn 5 [(37, .i x6), (38, .agg #[.i x6, .string (⟨#[]⟩ : ByteArray), .slice none 0 0])] (Yt 11110100110011011100 B118 [2] Jdv) ?_
     refine So 30 (.tmp 4) (.tmp 38) 0 1 gx4 0 (.agg #[.i x6, .string (⟨#[]⟩ : ByteArray), .slice none 0 0]) [.i x6, .string (⟨#[]⟩ : ByteArray), .slice none 0 0] p5 rfl Goes.s fun w7 z7 p7 => ?_
     refine Gn 1 [] Jdv ?_
     obtain rfl := sj h
     have p7 := ((p7.dp 0).dp 1).dp 1
     exact R1 Tryz.f118 (.cell 4 30) (.agg #[.i x6, .string (⟨#[]⟩ : ByteArray), .slice none 0 0]) (Rn gx4 (p7.pa 0 0)) ⟨_, _, _, _, rfl, (((hx.t z4).t z5).t z7), p7.drop, Rd.none_, rfl⟩
    ·
     rw [df h34]
     refine Gm 7 [([40], .i x5), ([41, 39], .bool (decide ((gi x15 x17).Op = x5)))] (Ys 11110100110011011111 B118 Jdl) ?_
     refine Gi h (fun h35 h => ?_) fun h35 h => ?_
     ·
      rw [dt h35]
      refine Gn 2 [] Jdl ?_
      have p5 := p5.dp 0
      exact Gj 59 [(0, .i x0), (4, (pt gx4 0)), (5, .i x5), (6, .i x6), (7, .slice (Gp Gx7) x7.length cx7), (15, .slice u8d x15.length u8f), (16, .i x16), (17, .i x17)] (u9j _ _ h _ _ ((hx.t z4).t z5) _ _ _ _ _ _ _ _ _ _ _ _ p5 (u9k.ext (z4.t z5)) rfl (fx7.ext (z4.t z5)) rfl (u8m.ext (z4.t z5)) rfl)
     ·
      rw [df h35]
      refine Gn 3 [(23, .slice (Gp Gx7) x7.length cx7)] (Yt 111101001100110111111 B118 [1, 2, 3, 4] Jdl) ?_
      refine Goes.ldN 30 (.tmp 9) 24 30 ⟨b20, 0, none⟩ (wT29 (gi x15 x17).Op (gi x15 x17).Text A17 (((gi x15 x17).L).length) c18) (p5.pa 0 0) ?_
      have f37 : Els kT29 S1 w5 ((wT29 (gi x15 x17).Op (gi x15 x17).Text A17 (((gi x15 x17).L).length) c18) : List Value) [gi x15 x17] := by exact (Els.cons (K := kT29) (vs := (wT29 (gi x15 x17).Op (gi x15 x17).Text A17 (((gi x15 x17).L).length) c18)) (x := gi x15 x17) (kT29_close ⟨[.i ((gi x15 x17).Op)], [.string ((gi x15 x17).Text), .slice A17 (((gi x15 x17).L).length) c18], rfl, rfl, ⟨[.string ((gi x15 x17).Text)], [.slice A17 (((gi x15 x17).L).length) c18], rfl, rfl, ⟨_, _, rfl, (f19.ext (z4.t z5))⟩⟩⟩) Els.nil)
      refine Om (.buildSlice 28 1 #[(0, (.tmp 24))]) 25 28 (fun b => .slice (Gp (some b)) 1 1) 30 ((wT29 (gi x15 x17).Op (gi x15 x17).Text A17 (((gi x15 x17).L).length) c18) : List Value) (1 * kT29.size) p5 Goes.v fun b36 w8 z8 p8 => ?_
      refine Gg h fun g42 h => ?_
      refine On (K := kT29) 28 (.tmp 23) (.tmp 25) 26 28 30 4 (.agg #[.i 0, .string ⟨#[]⟩, .slice none 0 0]) 48 x7.length cx7 1 x7 [gi x15 x17] (x7 ++ [gi x15 x17]) (Gp (some b36)) 1 rfl rfl rfl p8 rfl (fx7.ext ((z4.t z5).t z8)) Goes.v (f37.ext z8) (src_own p8 (q := 0) rfl) g42 fun w9 G43 c44 u9m z9 p9 f46 => ?_
      refine Gn 2 [(7, .slice (Gp G43) ((x7 ++ [gi x15 x17]).length) c44)] Jdl ?_
      have p9 := (p9.dp 0).dp 0
      exact Gj 59 [(0, .i x0), (4, (pt gx4 0)), (5, .i x5), (6, .i x6), (7, .slice (Gp G43) ((x7 ++ [gi x15 x17]).length) c44), (15, .slice u8d x15.length u8f), (16, .i x16), (17, .i x17)] (u9j _ _ h _ _ ((((hx.t z4).t z5).t z8).t z9) _ _ _ _ _ _ _ _ _ _ _ _ p9 (u9k.ext (((z4.t z5).t z8).t z9)) rfl f46 rfl (u8m.ext (((z4.t z5).t z8).t z9)) rfl)
  ·
   rw [df h10]
   refine Gn 6 [(43, .slice (Gp Gx7) x7.length cx7)] (Yt 1111100 B118 [1, 2] (Ys 1111101 B118 Jdz)) ?_
   obtain ⟨S10, z10, p10, f47⟩ := p1.freezeRd 2 rfl fx7 (by decide)
   refine Gb h fun y48 e49 h => ?_
   refine Gc (.call { callee := .value (.func 189), args := #[(.tmp 43), (.func 190)], argTypes := #[28, 301] }) 44 28 189 _ (W.z21 x7 y48 e49 _ _ _ p10 f47 rfl) ?_
   rintro _ w11 ⟨S11, u5i, u5j, u5k, u5l, u9n, rfl, z11, p11, u5m, rfl⟩
   have p11 := p11.dp 3
   refine Gm 13 [([7, 45], .slice (Gp u5i) y48.length u5k), ([46], .i (y48.length : Int)), ([48, 47], .bool (decide ((y48.length : Int) = 0)))] (Ys 1111101101 B118 Je2) ?_
   refine Gi h (fun h51 h => ?_) fun h51 h => ?_
   ·
    rw [dt h51]
    refine Gn 5 [(49, .i x5), (50, .agg #[.i x5, .string (⟨#[]⟩ : ByteArray), .slice none 0 0])] (Yt 111110110100 B118 [2] Je4) ?_
    refine So 30 (.tmp 4) (.tmp 50) 0 1 gx4 0 (.agg #[.i x5, .string (⟨#[]⟩ : ByteArray), .slice none 0 0]) [.i x5, .string (⟨#[]⟩ : ByteArray), .slice none 0 0] p11 rfl Goes.s fun w12 z12 p12 => ?_
    refine Gn 1 [] Je4 ?_
    obtain rfl := sj h
    have p12 := (p12.dp 0).dp 1
    exact R1 Tryz.f118 (.cell 4 30) (.agg #[.i x5, .string (⟨#[]⟩ : ByteArray), .slice none 0 0]) (Rn gx4 (p12.pa 0 0)) ⟨_, _, _, _, rfl, (((hx.t z10).t z11).t z12), p12.drop, Rd.none_, rfl⟩
   ·
    rw [df h51]
    refine Gm 6 [([52, 51], .bool (decide ((y48.length : Int) = 1)))] (Ys 111110110111 B118 Je2) ?_
    refine Gi h (fun h52 h => ?_) fun h52 h => ?_
    ·
     rw [dt h52]
     refine Gn 4 [(53, .slice (Gp u5i) y48.length u5k)] (Yt 11111011011100 B118 [1, 2, 3] Je7) ?_
     refine Gg h fun g53 h => ?_
     refine Op_.ixO_n 28 (.tmp 53) (.const (.int .i64 0)) 54 0 30 .i64 0 0 y48.length u5k (gi y48 0) rfl rfl p11 rfl u5m Goes.v (by kernel_rfl) (by kernel_rfl) (by kernel_rfl) (by kernel_rfl) (by decide) (by decide : (0 : Int) ≤ 0) g53 ?_
     rintro b54 _ rfl q56 f55
     have q57 := q56
     obtain ⟨_, _, rfl, rfl, ⟨_, _, rfl, rfl, ⟨A58, c59, rfl, f60⟩⟩⟩ := kT29_open q57
     refine Goes.ldN 30 (.tmp 54) 55 30 ⟨b54, (0 : Int).toNat * kT29.size, none⟩ ([.i ((gi y48 0).Op)] ++ ([.string ((gi y48 0).Text)] ++ [.slice A58 (((gi y48 0).L).length) c59])) f55 ?_
     refine So 30 (.tmp 4) (.tmp 55) 0 1 gx4 0 ((ag (wT29 (gi y48 0).Op (gi y48 0).Text A58 (((gi y48 0).L).length) c59))) (wT29 (gi y48 0).Op (gi y48 0).Text A58 (((gi y48 0).L).length) c59) p11 rfl Goes.s fun w13 z13 p13 => ?_
     refine Gn 1 [] Je7 ?_
     obtain rfl := sj h
     have p13 := (p13.dp 0).dp 1
     exact R1 Tryz.f118 (.cell 4 30) ((ag (wT29 (gi y48 0).Op (gi y48 0).Text A58 (((gi y48 0).L).length) c59))) (Rn gx4 (p13.pa 0 0)) ⟨_, _, _, _, rfl, (((hx.t z10).t z11).t z13), p13.drop, (f60.ext z13), rfl⟩
    ·
     rw [df h52]
     refine Gn 8 [(56, .i x0), (57, .slice (Gp u5i) y48.length u5k), (58, .agg #[.i x0, .string (⟨#[]⟩ : ByteArray), .slice (Gp u5i) y48.length u5k])] (Yt 1111110 B118 [3] Je9) ?_
     refine So 30 (.tmp 4) (.tmp 58) 0 1 gx4 0 (.agg #[.i x0, .string (⟨#[]⟩ : ByteArray), .slice (Gp u5i) y48.length u5k]) [.i x0, .string (⟨#[]⟩ : ByteArray), .slice (Gp u5i) y48.length u5k] p11 rfl Goes.s fun w14 z14 p14 => ?_
     refine Gn 1 [] Je9 ?_
     obtain ⟨S15, z15, p15, f62⟩ := p14.freezeRd 0 rfl (u5m.ext z14) (by decide)
     obtain rfl := sj h
     have p15 := (p15.dp 0).dp 1
     exact R1 Tryz.f118 (.cell 4 30) (.agg #[.i x0, .string (⟨#[]⟩ : ByteArray), .slice (Gp u5i) y48.length u5k]) (Rn gx4 (p15.pa 0 0)) ⟨_, _, _, _, rfl, ((((hx.t z10).t z11).t z14).t z15), p15.drop, f62, rfl⟩
 ·
  intro u9o u9p ⟨x0, x4v, x5, x6, x7, x15, x16, x17⟩ r h S1 w1 hx gx4 u9e u9f u9g u9h Gx7 nx7 cx7 u4t u8d u8e u8f p1 u9k u9l fx7 lx7 u8m u8n junk
  try dsimp only at h
  subst u9l
  subst lx7
  subst u8n
  refine Gm 7 [([42, 17], .i (wr .i64 (x17 + 1)))] Jdi ?_
  exact Gj 59 [(0, .i x0), (4, (pt gx4 0)), (5, .i x5), (6, .i x6), (7, .slice (Gp Gx7) x7.length cx7), (15, .slice u8d x15.length u8f), (16, .i x16), (17, .i (wr .i64 (x17 + 1)))] (u9p _ _ h _ _ hx _ _ _ _ _ _ _ _ _ _ _ _ p1 u9k rfl fx7 rfl u8m rfl)

theorem W.z26 {nz wz S0 w0 Lr} : ∀ a r, M.ae a = some r → (L.z26 nz wz S0 w0 Lr) a r := (W.z28).1

theorem W.z27 {nz wz S0 w0 Lr} : ∀ a r, M.a18 a = some r → (L.z27 nz wz S0 w0 Lr) a r := (W.z28).2


theorem W.z25 (x0 : Int) (x1 : List T29) (r : T29) (h : M.af x0 x1 = some r) {nz wz S0 w0 Lr} (Ax1 nx1 cx1) (p0 : Hp nz wz S0 w0 (Lr)) (fx1 : Rd kT29 S0 w0 Ax1 cx1 x1) (lx1 : x1.length = nx1) :
  Calls Tryz.prog 118 #[.i x0, .slice Ax1 nx1 cx1] w0 (Rets (Post.z25 nz wz S0 w0 Lr r)) := by
 subst lx1
 refine Zf Tryz.f118 B118 57 ?_
 refine Gj 59 [(0, .i x0), (1, .slice Ax1 x1.length cx1)] fun junk => ?_
 delta M.af at h
 refine Gn 2 [] (Yt 10 B118 [0] (Ys 11 B118 [])) ?_
 refine Oa 30 4 0 (.agg #[.i 0, .string (⟨#[]⟩ : ByteArray), .slice none 0 0]) [.i 0, .string (⟨#[]⟩ : ByteArray), .slice none 0 0] p0 Goes.v fun b1 w2 z2 p2 => ?_
 refine Gn 4 [(11, .i x0)] (Yt 110 B118 [1, 2, 3, 4, 5, 6] (Ys 111 B118 [])) ?_
 refine Gb h fun y3 e4 h => ?_
 refine Gc (kc 188 [11] #[3]) 12 128 188 _ (W.z1s x0 y3 e4  p2 ) ?_
 rintro _ w3 ⟨S3, rfl, z3, p3⟩
 refine Gm 14 [([10], .tuple #[.i y3.1, .i y3.2]), ([13, 5], .i y3.1), ([14, 6], .i y3.2), ([7], .slice none 0 0), ([15], .slice Ax1 x1.length cx1)] (Yt 111100 B118 [1, 2] (Ys 111101 B118 Jdf)) ?_
 refine Gn 5 [(16, .i (x1.length : Int)), (17, .i 0)] Jdi ?_
 have p3 : Hp nz wz S3 w3 ((none, .row 30 [] (0 * kT29.size) 0) :: (some b1, .row 30 [.i 0, .string (⟨#[]⟩ : ByteArray), .slice none 0 0] 3 0) :: Lr) := p3.nilRow' 30
 have p3 : Hp nz wz S3 w3 ((none, .row 30 [] (0 * kT29.size) 0) :: (none, .row 30 [] (0 * kT29.size) 0) :: (some b1, .row 30 [.i 0, .string (⟨#[]⟩ : ByteArray), .slice (Gp none) 0 0] 3 0) :: Lr) := p3.nilRow' 30
 have p3 := ((p3.fr 0).fr 1).fr 2
 exact Gj 59 [(0, .i x0), (4, (pt b1 0)), (5, .i y3.1), (6, .i y3.2), (7, .slice (Gp none) 0 0), (15, .slice Ax1 x1.length cx1), (16, .i (x1.length : Int)), (17, .i 0)] (W.z26 _ _ h _ _ (z2.t z3) _ none 0 0 [] none 0 0 [] _ _ _ p3 (Els.nil (K := kT29)) rfl (Els.nil (K := kT29)) rfl (fx1.ext (z2.t z3)) rfl)

def Jeh := Ys 1111 B116 []
def Qbi := Yq 1110100 B116
def Jej := Zl Qbi (Zb 0 Jeh)
def Jek := Zc Qbi Jej
def Jem := Zb 1 (Ys 1110100111 B116 Jej)
def Qbk := Yq 11101001100111 B116
def Jen := Zc Qbk Jem
def Qbl := Yq 11101001100110100 B116
def Jep := Zl Qbl (Zb 2 Jen)
def Jeq := Zc Qbl Jep
def Jex := Ys 11111 B116 []
def Jf0 := Ys 1110100110011010010 B116 (Ys 1110100110011010011 B116 Jep)
def Jf2 := Zb 3 (Ys 11101001100110100111 B116 Jep)
def Qbx := Yq 1110100110011010011001 B116
def Jf4 := Yt 1110100110011010011000 B116 [0, 1, 2] (Zc Qbx Jf2)
def Jf5 := Zr Qbx [3, 4, 5] Jf2
def Jf6 := Zr Qbk [2, 3, 4, 5] Jem

def Post.z29 (r : T29) (v : Value) (w' : World) : Prop :=
 ∃ S' u9d u1 u2, v = (ag (wT29 r.Op r.Text u9d u1 u2)) ∧ Ext S0 w0 S' w' ∧ Hp nz wz S' w' (Lr) ∧ Rd kT29 S' w' u9d u2 r.L ∧ r.L.length = u1

def L.z2a : T29 × (List T29) × (List ByteArray) × Int × Int → T29 → Prop := fun ⟨x2v, x3, x10, x11, x12⟩ r => ∀ S1 w1, Ext S0 w0 S1 w1 → ∀ gx2 u9q u8q u8r u9r Gx3 nx3 cx3 u2l u9s u9t u9u (_ : Hp nz wz S1 w1 ((some gx2, .row 30 (wT29 x2v.Op x2v.Text (Gp u9q) u8q u8r) 3 0) :: (u9q, .row 30 u9r (u8r * kT29.size) 0) :: (Gx3, .row 30 u2l (cx3 * kT29.size) 0) :: Lr)) (_ : Els kT29 S1 w1 u9r x2v.L) (_ : x2v.L.length = u8q) (_ : Els kT29 S1 w1 u2l x3) (_ : x3.length = nx3) (_ : Rd kStr S1 w1 u9s u9u x10) (_ : x10.length = u9t) (junk : Nat → Value),
 Goes Tryz.prog (base 116) Jek ⟨lfr 37 [(2, (pt gx2 0)), (3, .slice (Gp Gx3) nx3 cx3), (10, .slice u9s u9t u9u), (11, .i x11), (12, .i x12)] junk, []⟩ w1 (Done Tryz.prog 116 (Rets (Post.z29 nz wz S0 w0 Lr r)))

def L.z2b : T29 × (List T29) × (List ByteArray) × Int × Int × (List ByteArray) × Int × Int → T29 → Prop := fun ⟨x2v, x3, x10, x11, x12, x17, x18, x19⟩ r => ∀ S1 w1, Ext S0 w0 S1 w1 → ∀ gx2 u9q u8q u8r u9r Gx3 nx3 cx3 u2l u9s u9t u9u u9v u9w u9x u9y (_ : Hp nz wz S1 w1 ((some gx2, .row 30 (wT29 x2v.Op x2v.Text (Gp u9q) u8q u8r) 3 0) :: (u9q, .row 30 u9r (u8r * kT29.size) 0) :: (Gx3, .row 30 u2l (cx3 * kT29.size) 0) :: (u9v, .row 9 u9y (u9x * kStr.size) 0) :: Lr)) (_ : Els kT29 S1 w1 u9r x2v.L) (_ : x2v.L.length = u8q) (_ : Els kT29 S1 w1 u2l x3) (_ : x3.length = nx3) (_ : Rd kStr S1 w1 u9s u9u x10) (_ : x10.length = u9t) (_ : Els kStr S1 w1 u9y x17) (_ : x17.length = u9w) (junk : Nat → Value),
 Goes Tryz.prog (base 116) Jeq ⟨lfr 37 [(2, (pt gx2 0)), (3, .slice (Gp Gx3) nx3 cx3), (6, .slice none 0 0), (10, .slice u9s u9t u9u), (11, .i x11), (12, .i x12), (17, .slice (Gp u9v) u9w u9x), (18, .i x18), (19, .i x19)] junk, []⟩ w1 (Done Tryz.prog 116 (Rets (Post.z29 nz wz S0 w0 Lr r)))

def L.z2c : T29 × (List T29) × (List T29) × (List ByteArray) × Int × Int × (List ByteArray) × Int × Int → T29 → Prop := fun ⟨x2v, x3, x6, x10, x11, x12, x17, x18, x19⟩ r => ∀ S1 w1, Ext S0 w0 S1 w1 → ∀ gx2 u9q u8q u8r u9r Gx3 nx3 cx3 u2l Gx6 nx6 cx6 u4a u9s u9t u9u u9v u9w u9x u9y (_ : Hp nz wz S1 w1 ((some gx2, .row 30 (wT29 x2v.Op x2v.Text (Gp u9q) u8q u8r) 3 0) :: (u9q, .row 30 u9r (u8r * kT29.size) 0) :: (Gx3, .row 30 u2l (cx3 * kT29.size) 0) :: (Gx6, .row 30 u4a (cx6 * kT29.size) 0) :: (u9v, .row 9 u9y (u9x * kStr.size) 0) :: Lr)) (_ : Els kT29 S1 w1 u9r x2v.L) (_ : x2v.L.length = u8q) (_ : Els kT29 S1 w1 u2l x3) (_ : x3.length = nx3) (_ : Els kT29 S1 w1 u4a x6) (_ : x6.length = nx6) (_ : Rd kStr S1 w1 u9s u9u x10) (_ : x10.length = u9t) (_ : Els kStr S1 w1 u9y x17) (_ : x17.length = u9w) (junk : Nat → Value),
 Goes Tryz.prog (base 116) Jeq ⟨lfr 37 [(2, (pt gx2 0)), (3, .slice (Gp Gx3) nx3 cx3), (6, .slice (Gp Gx6) nx6 cx6), (10, .slice u9s u9t u9u), (11, .i x11), (12, .i x12), (17, .slice (Gp u9v) u9w u9x), (18, .i x18), (19, .i x19)] junk, []⟩ w1 (Done Tryz.prog 116 (Rets (Post.z29 nz wz S0 w0 Lr r)))

theorem W.z2d {nz wz S0 w0 Lr} : (∀ a r, M.a8 a = some r → (L.z2a nz wz S0 w0 Lr) a r) ∧ (∀ a r, M.a3d a = some r → (L.z2b nz wz S0 w0 Lr) a r) ∧ (∀ a r, M.a19 a = some r → (L.z2c nz wz S0 w0 Lr) a r) := by
 refine M.a8.mutual_partial_correctness (L.z2a nz wz S0 w0 Lr) (L.z2b nz wz S0 w0 Lr) (L.z2c nz wz S0 w0 Lr) ?_ ?_ ?_
 ·
  intro u9z ua0 ⟨x2v, x3, x10, x11, x12⟩ r h S1 w1 hx gx2 u9q u8q u8r u9r Gx3 nx3 cx3 u2l u9s u9t u9u p1 u8s u8t fx3 lx3 ua1 ua2 junk
  try dsimp only at h
  subst u8t
  subst lx3
  subst ua2
  refine Gn 5 [(13, .bool (decide (x12 < x11)))] (Ys 111010010 B116 (Ys 111010011 B116 Jej)) ?_
  refine Gi h (fun h10 h => ?_) fun h10 h => ?_
  ·
   rw [dt h10]
   refine Gn 6 [] (Yt 111010011000 B116 [0, 1, 2] (Ys 111010011001 B116 Jem)) ?_
   refine Gg h fun g11 h => ?_
   refine Gg h fun g12 h => ?_
   refine Oi 43 (.tmp 10) (.tmp 12) 14 0 9 .i64 x12 (gi x10 x12) rfl rfl ua1 Goes.v g11 g12 fun a13 _ f14 q15 => ?_
   obtain rfl := q15
   refine Goes.ld 9 (.tmp 14) 15 9 a13 (.string (gi x10 x12)) (f14.cell 0 _ rfl) ?_
   refine Gm 10 [([5, 16], .string (gi x10 x12)), ([6], .slice none 0 0)] (Yt 111010011001100 B116 [1, 2, 3] (Ys 111010011001101 B116 Jen)) ?_
   refine Gb h fun y16 e17 h => ?_
   refine Gc (kc 16 [16] #[9]) 17 43 16 _ (W.z1r (gi x10 x12) y16 e17  p1 ) ?_
   rintro _ w4 ⟨S4, ua3, ua4, ua5, ua6, rfl, z4, p4, ua7, rfl⟩
   refine Gn 5 [(18, .i (y16.length : Int)), (19, .i 0)] Jeq ?_
   have p4 := (((p4.fr 0).fr 3).fr 3).fr 3
   exact Gj 37 [(2, (pt gx2 0)), (3, .slice (Gp Gx3) x3.length cx3), (6, .slice none 0 0), (10, .slice u9s x10.length u9u), (11, .i x11), (12, .i x12), (17, .slice (Gp ua3) y16.length ua5), (18, .i (y16.length : Int)), (19, .i 0)] (ua0 _ _ h _ _ (hx.t z4) _ _ _ _ _ _ _ _ _ _ _ _ _ _ _ _ p4 (u8s.ext z4) rfl (fx3.ext z4) rfl (ua1.ext z4) rfl ua7 rfl)
  ·
   rw [df h10]
   refine Gn 5 [(35, .slice (Gp Gx3) x3.length cx3)] (Yt 11110 B116 [1, 2] Jex) ?_
   obtain ⟨S5, z5, p5, f23⟩ := p1.freezeRd 2 rfl fx3 (by decide)
   refine Gb h fun y24 e25 h => ?_
   refine Gc (.call { callee := .value (.func 118), args := #[(.const (.int .i64 4)), (.tmp 35)], argTypes := #[3, 28] }) 36 30 118 _ (W.z25 4 x3 y24 e25 _ _ _ p5 f23 rfl) ?_
   rintro _ w6 ⟨S6, ua8, u1c, u1d, rfl, z6, p6, u1g, rfl⟩
   have p6 := p6.dp 2
   refine So 30 (.tmp 2) (.tmp 36) 0 0 gx2 0 ((ag (wT29 y24.Op y24.Text ua8 y24.L.length u1d))) (wT29 y24.Op y24.Text ua8 y24.L.length u1d) p6 rfl Goes.s fun w7 z7 p7 => ?_
   refine Gn 1 [] Jex ?_
   obtain rfl := sj h
   have p7 := p7.dp 1
   exact R1 Tryz.f116 (.cell 2 30) ((ag (wT29 y24.Op y24.Text ua8 y24.L.length u1d))) (Rn gx2 (p7.pa 0 0)) ⟨_, _, _, _, rfl, (((hx.t z5).t z6).t z7), p7.drop, (u1g.ext z7), rfl⟩
 ·
  intro ua9 uaa uab uac ⟨x2v, x3, x10, x11, x12, x17, x18, x19⟩ r h S1 w1 hx gx2 u9q u8q u8r u9r Gx3 nx3 cx3 u2l u9s u9t u9u u9v u9w u9x u9y p1 u8s u8t fx3 lx3 ua1 ua2 uad uae junk
  try dsimp only at h
  subst u8t
  subst lx3
  subst ua2
  subst uae
  refine Gn 5 [(20, .bool (decide (x19 < x18)))] Jf0 ?_
  refine Gi h (fun h26 h => ?_) fun h26 h => ?_
  ·
   rw [dt h26]
   refine Gn 6 [] Jf4 ?_
   refine Gg h fun g27 h => ?_
   refine Gg h fun g28 h => ?_
   refine Op_.ixO_n 43 (.tmp 17) (.tmp 19) 21 0 9 .i64 x19 3 x17.length u9x (gi x17 x19) rfl rfl p1 rfl uad Goes.v (by kernel_rfl) (by kernel_rfl) (by kernel_rfl) (by kernel_rfl) (by decide) g27 g28 ?_
   rintro b29 _ rfl q31 f30
   obtain rfl := q31
   refine Goes.ld 9 (.tmp 21) 22 9 ⟨b29, (x19 : Int).toNat * kStr.size, none⟩ (.string (gi x17 x19)) (f30 0 _ rfl) ?_
   refine Gm 6 [([8, 24], .string (gi x17 x19)), ([23], .slice none 0 0), ([25], .agg #[.i 2, .string (gi x17 x19), .slice none 0 0])] Jf5 ?_
   have f34 : Els kT29 S1 w1 ([.i 2, .string (gi x17 x19), .slice none 0 0] : List Value) [(⟨2, gi x17 x19, ([] : List T29)⟩ : T29)] := by exact (Els.cons (K := kT29) (vs := [.i 2, .string (gi x17 x19), .slice none 0 0]) (x := (⟨2, gi x17 x19, ([] : List T29)⟩ : T29)) (kT29_close ⟨[.i 2], [.string (gi x17 x19), .slice none 0 0], rfl, rfl, ⟨[.string (gi x17 x19)], [.slice none 0 0], rfl, rfl, ⟨none, 0, rfl, Rd.none_⟩⟩⟩) Els.nil)
   refine Om (.buildSlice 28 1 #[(0, (.tmp 25))]) 26 28 (fun b => .slice (Gp (some b)) 1 1) 30 ([.i 2, .string (gi x17 x19), .slice none 0 0] : List Value) (1 * kT29.size) p1 Goes.v fun b33 w8 z8 p8 => ?_
   have p8 : Hp nz wz S1 w8 ((none, .row 30 [] (0 * kT29.size) 0) :: ((some b33), .row 30 ([.i 2, .string (gi x17 x19), .slice none 0 0] : List Value) (1 * kT29.size) 0) :: (some gx2, .row 30 (wT29 x2v.Op x2v.Text (Gp u9q) x2v.L.length u8r) 3 0) :: (u9q, .row 30 u9r (u8r * kT29.size) 0) :: (Gx3, .row 30 u2l (cx3 * kT29.size) 0) :: ((some b29), .row 9 u9y (u9x * kStr.size) 0) :: Lr) := p8.nilRow' 30
   refine Gg h fun g40 h => ?_
   refine On (K := kT29) 28 (.tmp 23) (.tmp 26) 27 28 30 0 (.agg #[.i 0, .string ⟨#[]⟩, .slice none 0 0]) 48 0 0 1 ([] : List T29) [(⟨2, gi x17 x19, ([] : List T29)⟩ : T29)] [(⟨2, gi x17 x19, ([] : List T29)⟩ : T29)] (Gp (some b33)) 1 rfl rfl (List.nil_append _) p8 rfl (Els.nil (K := kT29)) Goes.v (f34.ext z8) (src_own p8 (q := 1) rfl) g40 fun w9 G41 c42 uaf z9 p9 f44 => ?_
   refine Gm 8 [([6], .slice (Gp G41) ([(⟨2, gi x17 x19, ([] : List T29)⟩ : T29)].length) c42), ([28, 19], .i (wr .i64 (x19 + 1)))] Jeq ?_
   have p9 := p9.dp 1
   have p9 := ((((p9.fr 4).fr 1).fr 4).fr 4).fr 4
   exact Gj 37 [(2, (pt gx2 0)), (3, .slice (Gp Gx3) x3.length cx3), (6, .slice (Gp G41) ([(⟨2, gi x17 x19, ([] : List T29)⟩ : T29)].length) c42), (10, .slice u9s x10.length u9u), (11, .i x11), (12, .i x12), (17, .slice (Gp (some b29)) x17.length u9x), (18, .i x18), (19, .i (wr .i64 (x19 + 1)))] (uac _ _ h _ _ ((hx.t z8).t z9) _ _ _ _ _ _ _ _ _ _ _ _ _ _ _ _ (some b29) _ _ _ p9 (u8s.ext (z8.t z9)) rfl (fx3.ext (z8.t z9)) rfl f44 rfl (ua1.ext (z8.t z9)) rfl (uad.ext (z8.t z9)) rfl)
  ·
   rw [df h26]
   refine Gn 5 [(29, .slice (Gp Gx3) x3.length cx3), (30, .slice none 0 0)] Jf6 ?_
   refine Gb h fun y50 e51 h => ?_
   refine Gc (.call { callee := .value (.func 118), args := #[(.const (.int .i64 3)), (.tmp 30)], argTypes := #[3, 28] }) 31 30 118 _ (W.z25 3 ([] : List T29) y50 e51 none 0 0 p1 Rd.none_ rfl) ?_
   rintro _ w10 ⟨S10, uag, uah, uai, rfl, z10, p10, uaj, rfl⟩
   have p10 := p10.dp 3
   have f53 : Els kT29 S10 w10 ((wT29 y50.Op y50.Text uag y50.L.length uai) : List Value) [y50] := by exact (Els.cons (K := kT29) (vs := (wT29 y50.Op y50.Text uag y50.L.length uai)) (x := y50) (kT29_close ⟨[.i y50.Op], [.string y50.Text, .slice uag y50.L.length uai], rfl, rfl, ⟨[.string y50.Text], [.slice uag y50.L.length uai], rfl, rfl, ⟨_, _, rfl, uaj⟩⟩⟩) Els.nil)
   refine Om (.buildSlice 28 1 #[(0, (.tmp 31))]) 32 28 (fun b => .slice (Gp (some b)) 1 1) 30 ((wT29 y50.Op y50.Text uag y50.L.length uai) : List Value) (1 * kT29.size) p10 Goes.v fun b52 w11 z11 p11 => ?_
   refine Gg h fun g58 h => ?_
   refine On (K := kT29) 28 (.tmp 29) (.tmp 32) 33 28 30 3 (.agg #[.i 0, .string ⟨#[]⟩, .slice none 0 0]) 48 x3.length cx3 1 x3 [y50] (x3 ++ [y50]) (Gp (some b52)) 1 rfl rfl rfl p11 rfl (fx3.ext (z10.t z11)) Goes.v (f53.ext z11) (src_own p11 (q := 0) rfl) g58 fun w12 G59 c60 uak z12 p12 f62 => ?_
   refine Gm 8 [([3], .slice (Gp G59) ((x3 ++ [y50]).length) c60), ([34, 12], .i (wr .i64 (x12 + 1)))] Jek ?_
   have p12 := p12.dp 0
   exact Gj 37 [(2, (pt gx2 0)), (3, .slice (Gp G59) ((x3 ++ [y50]).length) c60), (10, .slice u9s x10.length u9u), (11, .i x11), (12, .i (wr .i64 (x12 + 1)))] (uab _ _ h _ _ (((hx.t z10).t z11).t z12) _ _ _ _ _ _ _ _ _ _ _ _ p12 (u8s.ext ((z10.t z11).t z12)) rfl f62 rfl (ua1.ext ((z10.t z11).t z12)) rfl)
 ·
  intro ua9 uaa uab uac ⟨x2v, x3, x6, x10, x11, x12, x17, x18, x19⟩ r h S1 w1 hx gx2 u9q u8q u8r u9r Gx3 nx3 cx3 u2l Gx6 nx6 cx6 u4a u9s u9t u9u u9v u9w u9x u9y p1 u8s u8t fx3 lx3 fx6 lx6 ua1 ua2 uad uae junk
  try dsimp only at h
  subst u8t
  subst lx3
  subst lx6
  subst ua2
  subst uae
  refine Gn 5 [(20, .bool (decide (x19 < x18)))] Jf0 ?_
  refine Gi h (fun h63 h => ?_) fun h63 h => ?_
  ·
   rw [dt h63]
   refine Gn 6 [] Jf4 ?_
   refine Gg h fun g64 h => ?_
   refine Gg h fun g65 h => ?_
   refine Op_.ixO_n 43 (.tmp 17) (.tmp 19) 21 0 9 .i64 x19 4 x17.length u9x (gi x17 x19) rfl rfl p1 rfl uad Goes.v (by kernel_rfl) (by kernel_rfl) (by kernel_rfl) (by kernel_rfl) (by decide) g64 g65 ?_
   rintro b66 _ rfl q68 f67
   obtain rfl := q68
   refine Goes.ld 9 (.tmp 21) 22 9 ⟨b66, (x19 : Int).toNat * kStr.size, none⟩ (.string (gi x17 x19)) (f67 0 _ rfl) ?_
   refine Gm 6 [([8, 24], .string (gi x17 x19)), ([23], .slice (Gp Gx6) x6.length cx6), ([25], .agg #[.i 2, .string (gi x17 x19), .slice none 0 0])] Jf5 ?_
   have f71 : Els kT29 S1 w1 ([.i 2, .string (gi x17 x19), .slice none 0 0] : List Value) [(⟨2, gi x17 x19, ([] : List T29)⟩ : T29)] := by exact (Els.cons (K := kT29) (vs := [.i 2, .string (gi x17 x19), .slice none 0 0]) (x := (⟨2, gi x17 x19, ([] : List T29)⟩ : T29)) (kT29_close ⟨[.i 2], [.string (gi x17 x19), .slice none 0 0], rfl, rfl, ⟨[.string (gi x17 x19)], [.slice none 0 0], rfl, rfl, ⟨none, 0, rfl, Rd.none_⟩⟩⟩) Els.nil)
   refine Om (.buildSlice 28 1 #[(0, (.tmp 25))]) 26 28 (fun b => .slice (Gp (some b)) 1 1) 30 ([.i 2, .string (gi x17 x19), .slice none 0 0] : List Value) (1 * kT29.size) p1 Goes.v fun b70 w13 z13 p13 => ?_
   refine Gl h fun v76 e77 h => ?_
   refine Gg h fun g78 h => ?_
   refine On (K := kT29) 28 (.tmp 23) (.tmp 26) 27 28 30 4 (.agg #[.i 0, .string ⟨#[]⟩, .slice none 0 0]) 48 x6.length cx6 1 x6 [(⟨2, gi x17 x19, ([] : List T29)⟩ : T29)] v76 (Gp (some b70)) 1 rfl rfl e77 p13 rfl (fx6.ext z13) Goes.v (f71.ext z13) (src_own p13 (q := 0) rfl) g78 fun w14 G79 c80 ual z14 p14 f82 => ?_
   refine Gm 8 [([6], .slice (Gp G79) v76.length c80), ([28, 19], .i (wr .i64 (x19 + 1)))] Jeq ?_
   have p14 := p14.dp 0
   exact Gj 37 [(2, (pt gx2 0)), (3, .slice (Gp Gx3) x3.length cx3), (6, .slice (Gp G79) v76.length c80), (10, .slice u9s x10.length u9u), (11, .i x11), (12, .i x12), (17, .slice (Gp (some b66)) x17.length u9x), (18, .i x18), (19, .i (wr .i64 (x19 + 1)))] (uac _ _ h _ _ ((hx.t z13).t z14) _ _ _ _ _ _ _ _ _ _ _ _ _ _ _ _ (some b66) _ _ _ p14 (u8s.ext (z13.t z14)) rfl (fx3.ext (z13.t z14)) rfl f82 rfl (ua1.ext (z13.t z14)) rfl (uad.ext (z13.t z14)) rfl)
  ·
   rw [df h63]
   refine Gn 5 [(29, .slice (Gp Gx3) x3.length cx3), (30, .slice (Gp Gx6) x6.length cx6)] Jf6 ?_
   obtain ⟨S15, z15, p15, f83⟩ := p1.freezeRd 3 rfl fx6 (by decide)
   refine Gb h fun y84 e85 h => ?_
   refine Gc (.call { callee := .value (.func 118), args := #[(.const (.int .i64 3)), (.tmp 30)], argTypes := #[3, 28] }) 31 30 118 _ (W.z25 3 x6 y84 e85 _ _ _ p15 f83 rfl) ?_
   rintro _ w16 ⟨S16, uam, uan, uao, rfl, z16, p16, uap, rfl⟩
   have p16 := (p16.dp 3).dp 3
   have f87 : Els kT29 S16 w16 ((wT29 y84.Op y84.Text uam y84.L.length uao) : List Value) [y84] := by exact (Els.cons (K := kT29) (vs := (wT29 y84.Op y84.Text uam y84.L.length uao)) (x := y84) (kT29_close ⟨[.i y84.Op], [.string y84.Text, .slice uam y84.L.length uao], rfl, rfl, ⟨[.string y84.Text], [.slice uam y84.L.length uao], rfl, rfl, ⟨_, _, rfl, uap⟩⟩⟩) Els.nil)
   refine Om (.buildSlice 28 1 #[(0, (.tmp 31))]) 32 28 (fun b => .slice (Gp (some b)) 1 1) 30 ((wT29 y84.Op y84.Text uam y84.L.length uao) : List Value) (1 * kT29.size) p16 Goes.v fun b86 w17 z17 p17 => ?_
   refine Gg h fun g92 h => ?_
   refine On (K := kT29) 28 (.tmp 29) (.tmp 32) 33 28 30 3 (.agg #[.i 0, .string ⟨#[]⟩, .slice none 0 0]) 48 x3.length cx3 1 x3 [y84] (x3 ++ [y84]) (Gp (some b86)) 1 rfl rfl rfl p17 rfl (fx3.ext ((z15.t z16).t z17)) Goes.v (f87.ext z17) (src_own p17 (q := 0) rfl) g92 fun w18 G93 c94 uaq z18 p18 f96 => ?_
   refine Gm 8 [([3], .slice (Gp G93) ((x3 ++ [y84]).length) c94), ([34, 12], .i (wr .i64 (x12 + 1)))] Jek ?_
   have p18 := p18.dp 0
   exact Gj 37 [(2, (pt gx2 0)), (3, .slice (Gp G93) ((x3 ++ [y84]).length) c94), (10, .slice u9s x10.length u9u), (11, .i x11), (12, .i (wr .i64 (x12 + 1)))] (uab _ _ h _ _ ((((hx.t z15).t z16).t z17).t z18) _ _ _ _ _ _ _ _ _ _ _ _ p18 (u8s.ext (((z15.t z16).t z17).t z18)) rfl f96 rfl (ua1.ext (((z15.t z16).t z17).t z18)) rfl)

theorem W.z2a {nz wz S0 w0 Lr} : ∀ a r, M.a8 a = some r → (L.z2a nz wz S0 w0 Lr) a r := (W.z2d).1

theorem W.z2b {nz wz S0 w0 Lr} : ∀ a r, M.a3d a = some r → (L.z2b nz wz S0 w0 Lr) a r := (W.z2d).2.1

theorem W.z2c {nz wz S0 w0 Lr} : ∀ a r, M.a19 a = some r → (L.z2c nz wz S0 w0 Lr) a r := (W.z2d).2.2


theorem W.z29 (x0 : T218) (r : T29) (h : M.a1a x0 = some r) {nz wz S0 w0 Lr} (u3y u3z u40) (p0 : Hp nz wz S0 w0 (Lr)) (u44 : Rd kStr S0 w0 u3y u40 x0.l) (u45 : x0.l.length = u3z) :
  Calls Tryz.prog 116 #[(ag (vT218 x0 u3y u3z u40))] w0 (Rets (Post.z29 nz wz S0 w0 Lr r)) := by
 subst u45
 refine Zf Tryz.f116 B116 36 ?_
 refine Gj 37 [(0, (ag (vT218 x0 u3y x0.l.length u40)))] fun junk => ?_
 delta M.a1a at h
 refine Gn 2 [] (Yt 10 B116 [0, 1] (Ys 11 B116 [])) ?_
 refine Ob 219 (.tmp 0) 1 0 (ag (vT218 x0 u3y x0.l.length u40)) (vT218 x0 u3y x0.l.length u40) p0 Goes.v fun b1 w2 z2 p2 => ?_
 refine Oa 30 2 0 (.agg #[.i 0, .string (⟨#[]⟩ : ByteArray), .slice none 0 0]) [.i 0, .string (⟨#[]⟩ : ByteArray), .slice none 0 0] p2 Goes.v fun b3 w3 z3 p3 => ?_
 refine Gn 9 [(3, .slice none 0 0), (9, (pt b1 0))] (Yt 11100 B116 [1, 2, 3] (Ys 11101 B116 Jeh)) ?_
 refine Goes.ld 43 (.tmp 9) 10 43 ⟨b1, 0, none⟩ (.slice u3y x0.l.length u40) (p3.c 1 0) ?_
 refine Gn 5 [(11, .i (x0.l.length : Int)), (12, .i 0)] Jek ?_
 have p3 : Hp nz wz S0 w3 ((none, .row 30 [] (0 * kT29.size) 0) :: (some b3, .row 30 [.i 0, .string (⟨#[]⟩ : ByteArray), .slice none 0 0] 3 0) :: (some b1, .row 219 (vT218 x0 u3y x0.l.length u40) 2 0) :: Lr) := p3.nilRow' 30
 have p3 := p3.dp 2
 have p3 : Hp nz wz S0 w3 ((none, .row 30 [] (0 * kT29.size) 0) :: (none, .row 30 [] (0 * kT29.size) 0) :: (some b3, .row 30 [.i 0, .string (⟨#[]⟩ : ByteArray), .slice (Gp none) 0 0] 3 0) :: Lr) := p3.nilRow' 30
 have p3 := ((p3.fr 0).fr 1).fr 2
 exact Gj 37 [(2, (pt b3 0)), (3, .slice (Gp none) 0 0), (10, .slice u3y x0.l.length u40), (11, .i (x0.l.length : Int)), (12, .i 0)] (W.z2a _ _ h _ _ (z2.t z3) _ none 0 0 [] none 0 0 [] _ _ _ p3 (Els.nil (K := kT29)) rfl (Els.nil (K := kT29)) rfl (u44.ext (z2.t z3)) rfl)

def Qc4 := Yq 1111000 B187
def Jfd := Zl Qc4 (Zb 0 (Ys 11111 B187 []))
def Jfe := Zc Qc4 Jfd
def Jfg := Ys 111100001 B187 (Ys 11110001 B187 Jfd)
def Jfi := Zb 1 (Ys 111100011 B187 Jfd)
def Jfj := Ys 11110001001 B187 Jfi
def Qc9 := Yq 111100000 B187
def Jfn := Ys 111111 B187 []
def Qcc := Yq 111110 B187
def Jfo := Zr Qcc [0, 1, 2, 3] Jfn
def Jfp := Zr Qcc [2, 3] Jfn
def Qcd := Yq 111100010011 B187
def Jfr := Ys 1111000100101 B187 (Zc Qcd Jfi)

def Post.z2e (r : T218 × Int) (v : Value) (w' : World) : Prop :=
 ∃ S' uar uas uat, v = .tuple #[(ag (vT218 r.1 uar uas uat)), .i r.2] ∧ Ext S0 w0 S' w' ∧ Hp nz wz S' w' (Lr) ∧ Rd kStr S' w' uar uat r.1.l ∧ r.1.l.length = uas

def L.z2f : (List T26) × T218 × T218 × Int → (T218 × Int) → Prop := fun ⟨x0, x2v, x4v, x5⟩ r => ∀ S1 w1, Ext S0 w0 S1 w1 → ∀ Ax0 nx0 cx0 gx2 u2h u2i u2j u2k gx4 uau u37 u38 (_ : Hp nz wz S1 w1 ((some gx2, .row 219 (vT218 x2v (Gp u2h) u2i u2j) 2 0) :: (u2h, .row 9 u2k (u2j * kStr.size) 0) :: (some gx4, .row 219 (vT218 x4v uau u37 u38) 2 0) :: Lr)) (_ : Rd kT26 S1 w1 Ax0 cx0 x0) (_ : x0.length = nx0) (_ : Els kStr S1 w1 u2k x2v.l) (_ : x2v.l.length = u2i) (_ : Rd kStr S1 w1 uau u38 x4v.l) (_ : x4v.l.length = u37) (junk : Nat → Value),
 Goes Tryz.prog (base 187) Jfe ⟨lfr 34 [(0, .slice Ax0 nx0 cx0), (2, (pt gx2 0)), (4, (pt gx4 0)), (5, .i x5)] junk, []⟩ w1 (Done Tryz.prog 187 (Rets (Post.z2e nz wz S0 w0 Lr r)))

def L.z2g : (List T26) × T218 × T218 × Int × Bool → (T218 × Int) → Prop := fun ⟨x0, x2v, x4v, x5, x18⟩ r => ∀ S1 w1, Ext S0 w0 S1 w1 → ∀ Ax0 nx0 cx0 gx2 u2h u2i u2j u2k gx4 uau u37 u38 (_ : Hp nz wz S1 w1 ((some gx2, .row 219 (vT218 x2v (Gp u2h) u2i u2j) 2 0) :: (u2h, .row 9 u2k (u2j * kStr.size) 0) :: (some gx4, .row 219 (vT218 x4v uau u37 u38) 2 0) :: Lr)) (_ : Rd kT26 S1 w1 Ax0 cx0 x0) (_ : x0.length = nx0) (_ : Els kStr S1 w1 u2k x2v.l) (_ : x2v.l.length = u2i) (_ : Rd kStr S1 w1 uau u38 x4v.l) (_ : x4v.l.length = u37) (junk : Nat → Value),
 Goes Tryz.prog (base 187) Jfg ⟨lfr 34 [(0, .slice Ax0 nx0 cx0), (2, (pt gx2 0)), (4, (pt gx4 0)), (5, .i x5), (18, .bool x18)] junk, []⟩ w1 (Done Tryz.prog 187 (Rets (Post.z2e nz wz S0 w0 Lr r)))

def L.z2h : (List T26) × T218 × T218 × Int × T218 → (T218 × Int) → Prop := fun ⟨x0, x2v, x4v, x5, x6v⟩ r => ∀ S1 w1, Ext S0 w0 S1 w1 → ∀ Ax0 nx0 cx0 gx2 u2h u2i u2j u2k gx4 uau u37 u38 gx6 u51 u52 u53 (_ : Hp nz wz S1 w1 ((some gx2, .row 219 (vT218 x2v (Gp u2h) u2i u2j) 2 0) :: (u2h, .row 9 u2k (u2j * kStr.size) 0) :: (some gx4, .row 219 (vT218 x4v uau u37 u38) 2 0) :: (some gx6, .row 219 (vT218 x6v u51 u52 u53) 2 0) :: Lr)) (_ : Rd kT26 S1 w1 Ax0 cx0 x0) (_ : x0.length = nx0) (_ : Els kStr S1 w1 u2k x2v.l) (_ : x2v.l.length = u2i) (_ : Rd kStr S1 w1 uau u38 x4v.l) (_ : x4v.l.length = u37) (_ : Rd kStr S1 w1 u51 u53 x6v.l) (_ : x6v.l.length = u52) (junk : Nat → Value),
 Goes Tryz.prog (base 187) Jfj ⟨lfr 34 [(0, .slice Ax0 nx0 cx0), (2, (pt gx2 0)), (4, (pt gx4 0)), (5, .i x5), (6, (pt gx6 0))] junk, []⟩ w1 (Done Tryz.prog 187 (Rets (Post.z2e nz wz S0 w0 Lr r)))

theorem W.z2i {nz wz S0 w0 Lr} : (∀ a r, M.ag a = some r → (L.z2f nz wz S0 w0 Lr) a r) ∧ (∀ a r, M.a1b a = some r → (L.z2g nz wz S0 w0 Lr) a r) ∧ (∀ a r, M.a3e a = some r → (L.z2h nz wz S0 w0 Lr) a r) := by
 refine M.ag.mutual_partial_correctness (L.z2f nz wz S0 w0 Lr) (L.z2g nz wz S0 w0 Lr) (L.z2h nz wz S0 w0 Lr) ?_ ?_ ?_
 ·
  intro uav uaw ⟨x0, x2v, x4v, x5⟩ r h S1 w1 hx Ax0 nx0 cx0 gx2 u2h u2i u2j u2k gx4 uau u37 u38 p1 fx0 lx0 u2o u2p u3k u3l junk
  try dsimp only at h
  subst lx0
  subst u2p
  subst u3l
  refine Gn 4 [(11, (pt gx4 1))] (Zr Qc9 [1, 2, 3, 4, 5, 6, 7] Jfg) ?_
  refine Goes.ld 4 (.tmp 11) 12 4 ⟨gx4, 1, none⟩ (.bool x4v.known) (p1.c 2 1) ?_
  refine Gn 1 [(13, .bool x4v.known)] (Zr Qc9 [3, 4, 5, 6, 7] Jfg) ?_
  refine Gi h (fun h21 h => ?_) fun h21 h => ?_
  ·
   rw [h21]
   have p1 : Hp nz wz S1 w1 ((some gx2, .row 219 (vT218 x2v (Gp u2h) x2v.l.length u2j) 2 0) :: (u2h, .row 9 u2k (u2j * kStr.size) 0) :: (some gx4, .row 219 [.slice uau x4v.l.length u38, .bool true] 2 0) :: Lr) := by simp only [vT26, wT29, vT218, vT134, vT370, h21] at p1; exact p1
   refine Gm 6 [([14], .i x5), ([15], .slice Ax0 x0.length cx0), ([16], .i (x0.length : Int)), ([17, 18], .bool (decide (x5 < (x0.length : Int))))] Jfg ?_
   exact Gj 34 [(0, .slice Ax0 x0.length cx0), (2, (pt gx2 0)), (4, (pt gx4 0)), (5, .i x5), (18, .bool (decide (x5 < (x0.length : Int))))] (uaw _ _ h _ _ hx _ _ _ _ _ _ _ _ _ _ _ _ p1 fx0 rfl u2o rfl u3k rfl)
  ·
   have u99 := bf h21
   rw [u99]
   have p1 : Hp nz wz S1 w1 ((some gx2, .row 219 (vT218 x2v (Gp u2h) x2v.l.length u2j) 2 0) :: (u2h, .row 9 u2k (u2j * kStr.size) 0) :: (some gx4, .row 219 [.slice uau x4v.l.length u38, .bool false] 2 0) :: Lr) := by simp only [vT26, wT29, vT218, vT134, vT370, u99] at p1; exact p1
   refine Gm 6 [([14, 15, 16, 17], undef), ([18], .bool false)] Jfg ?_
   exact Gj 34 [(0, .slice Ax0 x0.length cx0), (2, (pt gx2 0)), (4, (pt gx4 0)), (5, .i x5), (18, .bool false)] (uaw _ _ h _ _ hx _ _ _ _ _ _ _ _ _ _ _ _ p1 fx0 rfl u2o rfl u3k rfl)
 ·
  intro uax uay ⟨x0, x2v, x4v, x5, x18⟩ r h S1 w1 hx Ax0 nx0 cx0 gx2 u2h u2i u2j u2k gx4 uau u37 u38 p1 fx0 lx0 u2o u2p u3k u3l junk
  try dsimp only at h
  subst lx0
  subst u2p
  subst u3l
  refine Gi h (fun h25 h => ?_) fun h25 h => ?_
  ·
   rw [h25]
   refine Gn 5 [] (Ys 11110001000 B187 Jfj) ?_
   have z6 : Ext S1 w1 S1 (w1).drew := Ext.draw
   have p6 := p1.draw
   refine Gd [6, 8] (Fc S1 (w1).drew [(⟨gx4, 0, none⟩, .slice uau x4v.l.length u38), (⟨gx4, 1, none⟩, .bool x4v.known)]) 5 9 ?_
   generalize (w1).drew = w6 at z6 p6 ⊢
   refine AnyG.ldN (i := 0) 219 (.tmp 4) 21 219 ⟨gx4, 0, none⟩ (vT218 x4v uau x4v.l.length u38) (by kernel_rfl) (by kernel_rfl) (Fc.here (p6.cs [(2, 0, 2)])) (by kernel_rfl) (by kernel_rfl) (by kernel_rfl) (fun _ h j v hj => by match j, hj with | 0, rfl => exact h.2.at_ 0 rfl | 1, rfl => exact h.2.at_ 1 rfl | (j + 2), hj => simp at hj) ?_
   refine AnyG.pu 1 (.move (.tmp 0)) 22 25 (.slice Ax0 x0.length cx0) (Fc.here (p6.cs [(2, 0, 2)])) ?_
   refine AnyG.pu 2 (.move (.tmp 5)) 23 3 (.i x5) (Fc.here (p6.cs [(2, 0, 2)])) ?_
   refine Gg h fun g26 h => ?_
   refine Gg h fun g27 h => ?_
   refine AnyG.ixR_n (i := 3) 25 (.tmp 22) (.tmp 23) 24 0 27 .i64 x5 (gi x0 x5) rfl rfl (fx0.ext z6) (by kernel_rfl) (by kernel_rfl) (Fc.here (p6.cs [(2, 0, 2)])) (by kernel_rfl) (by kernel_rfl) (by kernel_rfl) (by kernel_rfl) g26 g27 fun a28 _ f29 q30 => ?_
   have q31 := q30
   obtain ⟨_, _, rfl, rfl, ⟨_, _, rfl, ⟨l32, f33⟩, ⟨_, _, rfl, ⟨A34, c35, rfl, f36⟩, ⟨_, _, rfl, rfl, rfl⟩⟩⟩⟩ := kT26_open q31
   obtain rfl := els_lit4' f33 l32
   refine AnyG.ldN (i := 4) 27 (.tmp 24) 25 27 a28 ([.i ((gi x0 x5).Kind)] ++ ((U4 ((gi x0 x5).Set) []) ++ ([.slice A34 (((gi x0 x5).L).length) c35] ++ ([.i ((gi x0 x5).Min)] ++ [.i ((gi x0 x5).Max)])))) (by kernel_rfl) (by kernel_rfl) (Fc.here (p6.cs [(2, 0, 2)])) (by kernel_rfl) (by kernel_rfl) (by kernel_rfl) (fun _ h => f29.fc h) ?_
   refine AnyG.two (i := 5) (j := 7) (by kernel_rfl) ?_ ?_
   ·
    refine Gb h fun y37 e38 h => ?_
    refine Oc (kc 115 [25] #[27]) 26 219 115 #[(ag (.i ((gi x0 x5).Kind) :: U4 ((gi x0 x5).Set) [.slice A34 (((gi x0 x5).L).length) c35, .i ((gi x0 x5).Min), .i ((gi x0 x5).Max)]))] (AnyG.ct (i := 5) (by kernel_rfl)) (W.z1e (⟨(gi x0 x5).Kind, ((gi x0 x5).Set), (gi x0 x5).L, (gi x0 x5).Min, (gi x0 x5).Max⟩ : T26) y37 e38 _ _ _ p6 l32 f36 rfl) ?_
    rintro _ w7 ⟨S7, u3o, u3p, u3q, rfl, z7, p7, u3r, rfl⟩
    refine AnyG.next z7 ⟨(p7.c 2 0), (p7.c 2 1), trivial⟩ ?_
    refine AnyG.two (i := 6) (j := 7) (by kernel_rfl) ?_ ?_
    ·
     refine Gb h fun y39 e40 h => ?_
     refine Oc (kc 231 [21, 26] #[219, 219]) 27 219 231 #[(ag (vT218 x4v uau x4v.l.length u38)), (ag (vT218 y37 u3o y37.l.length u3q))] (AnyG.ct (i := 6) (by kernel_rfl)) (W.zu x4v y37 y39 e40 _ _ _ _ _ _ p7 (u3k.ext (z6.t z7)) rfl u3r rfl) ?_
     rintro _ w8 ⟨S8, u5e, u5f, u5g, rfl, z8, p8, u5h, rfl⟩
     refine AnyG.last [7, 8] (Fc S8 w8 []) (by decide) ?_
     refine Oa 219 6 0 (.agg #[.slice none 0 0, .bool false]) [.slice none 0 0, .bool false] p8 (Av 7) fun b41 w9 z9 p9 => ?_
     refine AnyG.last [8] (Fc S8 w9 []) (by decide) ?_
     refine So 219 (.tmp 6) (.tmp 27) 0 0 b41 0 (ag (vT218 y39 u5e y39.l.length u5g)) (vT218 y39 u5e y39.l.length u5g) p9 rfl (As 8) fun w10 z10 p10 => ?_
     refine AnyG.last [] (Fc S8 w10 []) (by decide) ?_
     refine Ad ?_
     have p10 := (((p10.fr 0).fr 3).fr 3).fr 3
     exact Gj 34 [(0, .slice Ax0 x0.length cx0), (2, (pt gx2 0)), (4, (pt gx4 0)), (5, .i x5), (6, (pt b41 0))] (uay _ _ h _ _ (((((hx.t z6).t z7).t z8).t z9).t z10) _ _ _ _ _ _ _ _ _ _ _ _ _ _ _ _ p10 (fx0.ext ((((z6.t z7).t z8).t z9).t z10)) rfl (u2o.ext ((((z6.t z7).t z8).t z9).t z10)) rfl (u3k.ext ((((z6.t z7).t z8).t z9).t z10)) rfl (u5h.ext (z9.t z10)) rfl)
    ·
     refine Oa 219 6 0 (.agg #[.slice none 0 0, .bool false]) [.slice none 0 0, .bool false] p7 (AnyG.vt (i := 7) (by kernel_rfl)) fun b47 w11 z11 p11 => ?_
     refine AnyG.next z11 ⟨(p11.c 3 0), (p11.c 3 1), trivial⟩ ?_
     refine Gb h fun y49 e50 h => ?_
     refine Oc (kc 231 [21, 26] #[219, 219]) 27 219 231 #[(ag (vT218 x4v uau x4v.l.length u38)), (ag (vT218 y37 u3o y37.l.length u3q))] (Ac 6) (W.zu x4v y37 y49 e50 _ _ _ _ _ _ p11 (u3k.ext ((z6.t z7).t z11)) rfl (u3r.ext z11) rfl) ?_
     rintro _ w12 ⟨S12, uaz, ub0, ub1, rfl, z12, p12, ub2, rfl⟩
     refine AnyG.last [8] (Fc S12 w12 []) (by decide) ?_
     refine So 219 (.tmp 6) (.tmp 27) 0 0 b47 0 (ag (vT218 y49 uaz y49.l.length ub1)) (vT218 y49 uaz y49.l.length ub1) p12 rfl (As 8) fun w13 z13 p13 => ?_
     refine AnyG.last [] (Fc S12 w13 []) (by decide) ?_
     refine Ad ?_
     have p13 := (((p13.fr 0).fr 3).fr 3).fr 3
     exact Gj 34 [(0, .slice Ax0 x0.length cx0), (2, (pt gx2 0)), (4, (pt gx4 0)), (5, .i x5), (6, (pt b47 0))] (uay _ _ h _ _ (((((hx.t z6).t z7).t z11).t z12).t z13) _ _ _ _ _ _ _ _ _ _ _ _ _ _ _ _ p13 (fx0.ext ((((z6.t z7).t z11).t z12).t z13)) rfl (u2o.ext ((((z6.t z7).t z11).t z12).t z13)) rfl (u3k.ext ((((z6.t z7).t z11).t z12).t z13)) rfl (ub2.ext z13) rfl)
   ·
    refine Oa 219 6 0 (.agg #[.slice none 0 0, .bool false]) [.slice none 0 0, .bool false] p6 (AnyG.vt (i := 7) (by kernel_rfl)) fun b51 w14 z14 p14 => ?_
    refine AnyG.next z14 ⟨(p14.c 3 0), (p14.c 3 1), trivial⟩ ?_
    refine Gb h fun y53 e54 h => ?_
    refine Oc (kc 115 [25] #[27]) 26 219 115 #[(ag (.i ((gi x0 x5).Kind) :: U4 ((gi x0 x5).Set) [.slice A34 (((gi x0 x5).L).length) c35, .i ((gi x0 x5).Min), .i ((gi x0 x5).Max)]))] (Ac 5) (W.z1e (⟨(gi x0 x5).Kind, ((gi x0 x5).Set), (gi x0 x5).L, (gi x0 x5).Min, (gi x0 x5).Max⟩ : T26) y53 e54 _ _ _ p14 l32 (f36.ext z14) rfl) ?_
    rintro _ w15 ⟨S15, u5r, u5s, u5t, rfl, z15, p15, u5u, rfl⟩
    refine AnyG.next z15 ⟨(p15.c 3 0), (p15.c 3 1), trivial⟩ ?_
    refine Gb h fun y55 e56 h => ?_
    refine Oc (kc 231 [21, 26] #[219, 219]) 27 219 231 #[(ag (vT218 x4v uau x4v.l.length u38)), (ag (vT218 y53 u5r y53.l.length u5t))] (Ac 6) (W.zu x4v y53 y55 e56 _ _ _ _ _ _ p15 (u3k.ext ((z6.t z14).t z15)) rfl u5u rfl) ?_
    rintro _ w16 ⟨S16, ub3, ub4, ub5, rfl, z16, p16, ub6, rfl⟩
    refine AnyG.last [8] (Fc S16 w16 []) (by decide) ?_
    refine So 219 (.tmp 6) (.tmp 27) 0 0 b51 0 (ag (vT218 y55 ub3 y55.l.length ub5)) (vT218 y55 ub3 y55.l.length ub5) p16 rfl (As 8) fun w17 z17 p17 => ?_
    refine AnyG.last [] (Fc S16 w17 []) (by decide) ?_
    refine Ad ?_
    have p17 := (((p17.fr 0).fr 3).fr 3).fr 3
    exact Gj 34 [(0, .slice Ax0 x0.length cx0), (2, (pt gx2 0)), (4, (pt gx4 0)), (5, .i x5), (6, (pt b51 0))] (uay _ _ h _ _ (((((hx.t z6).t z14).t z15).t z16).t z17) _ _ _ _ _ _ _ _ _ _ _ _ _ _ _ _ p17 (fx0.ext ((((z6.t z14).t z15).t z16).t z17)) rfl (u2o.ext ((((z6.t z14).t z15).t z16).t z17)) rfl (u3k.ext ((((z6.t z14).t z15).t z16).t z17)) rfl (ub6.ext z17) rfl)
  ·
   rw [bf h25]
   refine Gn 4 [] Jfo ?_
   refine Goes.ldN 219 (.tmp 4) 32 219 ⟨gx4, 0, none⟩ (vT218 x4v uau x4v.l.length u38) (p1.pa 2 0) ?_
   refine Gn 1 [(33, .i x5)] Jfp ?_
   refine So 219 (.tmp 2) (.tmp 32) 0 0 gx2 0 (ag (vT218 x4v uau x4v.l.length u38)) (vT218 x4v uau x4v.l.length u38) p1 rfl Goes.s fun w18 z18 p18 => ?_
   refine Gn 2 [(3, .i x5)] Jfn ?_
   obtain rfl := sj h
   have p18 := (p18.dp 1).dp 1
   exact R2 Tryz.f187 (.cell 2 219) (.tmp 3) (.tuple #[(ag (vT218 x4v uau x4v.l.length u38)), .i x5]) (Rn gx2 (p18.pa 0 0)) Rt ⟨_, _, _, _, rfl, (hx.t z18), p18.drop, (u3k.ext z18), rfl⟩
 ·
  intro ub7 ub8 ⟨x0, x2v, x4v, x5, x6v⟩ r h S1 w1 hx Ax0 nx0 cx0 gx2 u2h u2i u2j u2k gx4 uau u37 u38 gx6 u51 u52 u53 p1 fx0 lx0 u2o u2p u3k u3l u62 u63 junk
  try dsimp only at h
  subst lx0
  subst u2p
  subst u3l
  subst u63
  refine Gn 4 [(28, (pt gx6 1))] (Yt 1111000100100 B187 [1, 2] Jfr) ?_
  refine Goes.ld 4 (.tmp 28) 29 4 ⟨gx6, 1, none⟩ (.bool x6v.known) (p1.c 3 1) ?_
  refine Gn 2 [(30, .bool (!x6v.known))] Jfr ?_
  refine Gi h (fun h57 h => ?_) fun h57 h => ?_
  ·
   rw [h57]
   have p1 : Hp nz wz S1 w1 ((some gx2, .row 219 (vT218 x2v (Gp u2h) x2v.l.length u2j) 2 0) :: (u2h, .row 9 u2k (u2j * kStr.size) 0) :: (some gx4, .row 219 (vT218 x4v uau x4v.l.length u38) 2 0) :: (some gx6, .row 219 [.slice u51 x6v.l.length u53, .bool true] 2 0) :: Lr) := by simp only [vT26, wT29, vT218, vT134, vT370, h57] at p1; exact p1
   refine Gn 3 [] (Zr Qcd [0, 1] Jfi) ?_
   refine Goes.ldN 219 (.tmp 6) 31 219 ⟨gx6, 0, none⟩ [.slice u51 x6v.l.length u53, .bool true] (p1.pa 3 0) ?_
   refine So 219 (.tmp 4) (.tmp 31) 0 2 gx4 0 (.agg #[.slice u51 x6v.l.length u53, .bool true]) [.slice u51 x6v.l.length u53, .bool true] p1 rfl Goes.s fun w19 z19 p19 => ?_
   refine Gm 8 [([19], .i x5), ([20, 5], .i (wr .i64 (x5 + 1)))] Jfe ?_
   have p19 := p19.dp 3
   exact Gj 34 [(0, .slice Ax0 x0.length cx0), (2, (pt gx2 0)), (4, (pt gx4 0)), (5, .i (wr .i64 (x5 + 1)))] (ub8 _ _ h _ _ (hx.t z19) _ _ _ _ _ _ _ _ _ _ _ _ p19 (fx0.ext z19) rfl (u2o.ext z19) rfl (u62.ext z19) rfl)
  ·
   have ub9 := bf h57
   rw [ub9]
   have p1 : Hp nz wz S1 w1 ((some gx2, .row 219 (vT218 x2v (Gp u2h) x2v.l.length u2j) 2 0) :: (u2h, .row 9 u2k (u2j * kStr.size) 0) :: (some gx4, .row 219 (vT218 x4v uau x4v.l.length u38) 2 0) :: (some gx6, .row 219 [.slice u51 x6v.l.length u53, .bool false] 2 0) :: Lr) := by simp only [vT26, wT29, vT218, vT134, vT370, ub9] at p1; exact p1
   refine Gn 4 [] Jfo ?_
   refine Goes.ldN 219 (.tmp 4) 32 219 ⟨gx4, 0, none⟩ (vT218 x4v uau x4v.l.length u38) (p1.pa 2 0) ?_
   refine Gn 1 [(33, .i x5)] Jfp ?_
   refine So 219 (.tmp 2) (.tmp 32) 0 0 gx2 0 (ag (vT218 x4v uau x4v.l.length u38)) (vT218 x4v uau x4v.l.length u38) p1 rfl Goes.s fun w20 z20 p20 => ?_
   refine Gn 2 [(3, .i x5)] Jfn ?_
   obtain rfl := sj h
   have p20 := ((p20.dp 1).dp 1).dp 1
   exact R2 Tryz.f187 (.cell 2 219) (.tmp 3) (.tuple #[(ag (vT218 x4v uau x4v.l.length u38)), .i x5]) (Rn gx2 (p20.pa 0 0)) Rt ⟨_, _, _, _, rfl, (hx.t z20), p20.drop, (u3k.ext z20), rfl⟩

theorem W.z2f {nz wz S0 w0 Lr} : ∀ a r, M.ag a = some r → (L.z2f nz wz S0 w0 Lr) a r := (W.z2i).1

theorem W.z2g {nz wz S0 w0 Lr} : ∀ a r, M.a1b a = some r → (L.z2g nz wz S0 w0 Lr) a r := (W.z2i).2.1

theorem W.z2h {nz wz S0 w0 Lr} : ∀ a r, M.a3e a = some r → (L.z2h nz wz S0 w0 Lr) a r := (W.z2i).2.2


theorem W.z2e (x0 : List T26) (r : T218 × Int) (h : M.a1v x0 = some r) {nz wz S0 w0 Lr} (Ax0 nx0 cx0) (p0 : Hp nz wz S0 w0 (Lr)) (fx0 : Rd kT26 S0 w0 Ax0 cx0 x0) (lx0 : x0.length = nx0) :
  Calls Tryz.prog 187 #[.slice Ax0 nx0 cx0] w0 (Rets (Post.z2e nz wz S0 w0 Lr r)) := by
 subst lx0
 refine Zf Tryz.f187 B187 33 ?_
 refine Gj 34 [(0, .slice Ax0 x0.length cx0)] fun junk => ?_
 delta M.a1v at h
 refine Gn 2 [] (Yt 10 B187 [0, 1] (Ys 11 B187 [])) ?_
 refine Oa 219 2 0 (.agg #[.slice none 0 0, .bool false]) [.slice none 0 0, .bool false] p0 Goes.v fun b1 w2 z2 p2 => ?_
 refine Gn 5 [(3, .i 0), (7, .slice Ax0 x0.length cx0)] (Yt 110 B187 [1, 2, 3, 4, 5] (Ys 111 B187 [])) ?_
 refine Gg h fun g3 h => ?_
 refine Oi 25 (.tmp 7) (.const (.int .i64 0)) 8 0 27 .i64 0 (gi x0 0) rfl rfl (fx0.ext z2) Goes.v (by decide : (0 : Int) ≤ 0) g3 fun a4 _ f5 q6 => ?_
 have q7 := q6
 obtain ⟨_, _, rfl, rfl, ⟨_, _, rfl, ⟨l8, f9⟩, ⟨_, _, rfl, ⟨A10, c11, rfl, f12⟩, ⟨_, _, rfl, rfl, rfl⟩⟩⟩⟩ := kT26_open q7
 obtain rfl := els_lit4' f9 l8
 refine Goes.ldN 27 (.tmp 8) 9 27 a4 ([.i ((gi x0 0).Kind)] ++ ((U4 ((gi x0 0).Set) []) ++ ([.slice A10 (((gi x0 0).L).length) c11] ++ ([.i ((gi x0 0).Min)] ++ [.i ((gi x0 0).Max)])))) (f5.cell) ?_
 refine Gb h fun y13 e14 h => ?_
 refine Gc (kc 115 [9] #[27]) 10 219 115 _ (W.z1e (⟨(gi x0 0).Kind, ((gi x0 0).Set), (gi x0 0).L, (gi x0 0).Min, (gi x0 0).Max⟩ : T26) y13 e14 _ _ _ p2 l8 f12 rfl) ?_
 rintro _ w3 ⟨S3, uba, ubb, ubc, rfl, z3, p3, ubd, rfl⟩
 refine Oa 219 4 0 (.agg #[.slice none 0 0, .bool false]) [.slice none 0 0, .bool false] p3 Goes.v fun b15 w4 z4 p4 => ?_
 refine So 219 (.tmp 4) (.tmp 10) 0 0 b15 0 (ag (vT218 y13 uba y13.l.length ubc)) (vT218 y13 uba y13.l.length ubc) p4 rfl Goes.s fun w5 z5 p5 => ?_
 refine Gn 8 [(5, .i 1)] Jfe ?_
 have p5 : Hp nz wz S3 w5 ((none, .row 9 [] (0 * kStr.size) 0) :: (some b15, .row 219 (vT218 y13 uba y13.l.length ubc) 2 0) :: (some b1, .row 219 [.slice none 0 0, .bool false] 2 0) :: Lr) := p5.nilRow' 9
 have p5 := ((p5.fr 1).fr 1).fr 2
 exact Gj 34 [(0, .slice Ax0 x0.length cx0), (2, (pt b1 0)), (4, (pt b15 0)), (5, .i 1)] (W.z2f _ _ h _ _ (((z2.t z3).t z4).t z5) _ _ _ _ none 0 0 [] _ _ _ _ p5 (fx0.ext (((z2.t z3).t z4).t z5)) rfl (Els.nil (K := kStr)) rfl (ubd.ext (z4.t z5)) rfl)

def Qcl := Yq 111000 B117
def Jg0 := Zl Qcl (Zb 0 (Ys 1111 B117 []))
def Jg1 := Zc Qcl Jg0
def Jg2 := Zb 1 Jg0
def Qcm := Yq 1110001011 B117
def Jg3 := Zc Qcm Jg2
def Jg4 := Ys 11111 B54 []
def Jg5 := Zb 0 Jg4
def Jg6 := Ys 111101011101 B54 Jg5
def Qcp := Yq 111101011100100 B54
def Jg8 := Zl Qcp (Zb 1 Jg6)
def Jg9 := Zc Qcp Jg8
def Jgc := Ys 111 B54 []
def Jgf := Ys 11011 B54 Jgc
def Jgh := Ys 1101101 B54 Jgc
def Jgm := Ys 1111010101 B54 Jg5
def Jgs := Ys 11110101111101 B54 Jg5
def Jgu := Ys 1111010111110101 B54 Jg5
def Jgw := Ys 111111 B54 []
def Jgx := Yt 111110 B54 [1] Jgw
def Jh1 := Zb 2 (Ys 111101011100100111 B54 Jg8)
def Qdh := Yq 11110101110010011001 B54
def Jh5 := Ys 1111010111011 B54 Jg5
def Jhb := Ys 111000101 B117 Jg2
def Qdq := Yq 111000100 B117
def Jhe := Ys 11100010101 B117 Jg3
def Jhi := Ys 11111 B117 []

def Post.z2j (r : T29) (v : Value) (w' : World) : Prop :=
 ∃ S' u9d u1 u2, v = (ag (wT29 r.Op r.Text u9d u1 u2)) ∧ Ext S0 w0 S' w' ∧ Hp nz wz S' w' (Lr) ∧ Rd kT29 S' w' u9d u2 r.L ∧ r.L.length = u1

def Post.z2k (r : T29) (v : Value) (w' : World) : Prop :=
 ∃ S' u9d u1 u2, v = (ag (wT29 r.Op r.Text u9d u1 u2)) ∧ Ext S0 w0 S' w' ∧ Hp nz wz S' w' (Lr) ∧ Rd kT29 S' w' u9d u2 r.L ∧ r.L.length = u1

def LF.z2j : T26 → T29 → Prop := fun x0 r => ∀ {nz wz S0 w0 Lr} u5 u6 u7 (_ : Hp nz wz S0 w0 (Lr)) (_ : x0.Set.length = 4) (_ : Rd kT26 S0 w0 u5 u7 x0.L) (_ : x0.L.length = u6),
 Calls Tryz.prog 54 #[(ag (vT26 x0 u5 u6 u7))] w0 (Rets (Post.z2j nz wz S0 w0 Lr r))

def LF.z2k : (List T26) → T29 → Prop := fun x0 r => ∀ {nz wz S0 w0 Lr} Ax0 nx0 cx0 (_ : Hp nz wz S0 w0 (Lr)) (_ : Rd kT26 S0 w0 Ax0 cx0 x0) (_ : x0.length = nx0),
 Calls Tryz.prog 117 #[.slice Ax0 nx0 cx0] w0 (Rets (Post.z2k nz wz S0 w0 Lr r))

def L.z2l : (List T26) × T29 × (List T29) → T29 → Prop := fun ⟨x0, x2v, x3⟩ r => ∀ S1 w1, Ext S0 w0 S1 w1 → ∀ Ax0 nx0 cx0 gx2 u9q u8q u8r u9r Gx3 nx3 cx3 u2l (_ : Hp nz wz S1 w1 ((some gx2, .row 30 (wT29 x2v.Op x2v.Text (Gp u9q) u8q u8r) 3 0) :: (u9q, .row 30 u9r (u8r * kT29.size) 0) :: (Gx3, .row 30 u2l (cx3 * kT29.size) 0) :: Lr)) (_ : Rd kT26 S1 w1 Ax0 cx0 x0) (_ : x0.length = nx0) (_ : Els kT29 S1 w1 u9r x2v.L) (_ : x2v.L.length = u8q) (_ : Els kT29 S1 w1 u2l x3) (_ : x3.length = nx3) (junk : Nat → Value),
 Goes Tryz.prog (base 117) Jg1 ⟨lfr 33 [(0, .slice Ax0 nx0 cx0), (2, (pt gx2 0)), (3, .slice (Gp Gx3) nx3 cx3)] junk, []⟩ w1 (Done Tryz.prog 117 (Rets (Post.z2k nz wz S0 w0 Lr r)))

def LL.z2l : (List T26) × T29 × (List T29) → T29 → Prop := fun a r => ∀ {nz wz S0 w0 Lr}, L.z2l nz wz S0 w0 Lr a r

def L.z2m : (List T26) × T29 × (List T29) × Int → T29 → Prop := fun ⟨x0, x2v, x3, x5⟩ r => ∀ S1 w1, Ext S0 w0 S1 w1 → ∀ Ax0 nx0 cx0 gx2 u9q u8q u8r u9r Gx3 nx3 cx3 u2l (_ : Hp nz wz S1 w1 ((some gx2, .row 30 (wT29 x2v.Op x2v.Text (Gp u9q) u8q u8r) 3 0) :: (u9q, .row 30 u9r (u8r * kT29.size) 0) :: (Gx3, .row 30 u2l (cx3 * kT29.size) 0) :: Lr)) (_ : Rd kT26 S1 w1 Ax0 cx0 x0) (_ : x0.length = nx0) (_ : Els kT29 S1 w1 u9r x2v.L) (_ : x2v.L.length = u8q) (_ : Els kT29 S1 w1 u2l x3) (_ : x3.length = nx3) (junk : Nat → Value),
 Goes Tryz.prog (base 117) Jg3 ⟨lfr 33 [(0, .slice Ax0 nx0 cx0), (2, (pt gx2 0)), (3, .slice (Gp Gx3) nx3 cx3), (5, .i x5)] junk, []⟩ w1 (Done Tryz.prog 117 (Rets (Post.z2k nz wz S0 w0 Lr r)))

def LL.z2m : (List T26) × T29 × (List T29) × Int → T29 → Prop := fun a r => ∀ {nz wz S0 w0 Lr}, L.z2m nz wz S0 w0 Lr a r

def L.z2n : T29 × (List T29) × (List T26) × Int × Int → T29 → Prop := fun ⟨x2v, x4, x23, x24, x25⟩ r => ∀ S1 w1, Ext S0 w0 S1 w1 → ∀ gx2 u9q u8q u8r u9r Gx4 nx4 cx4 ube u1o u1p u1q (_ : Hp nz wz S1 w1 ((some gx2, .row 30 (wT29 x2v.Op x2v.Text (Gp u9q) u8q u8r) 3 0) :: (u9q, .row 30 u9r (u8r * kT29.size) 0) :: (Gx4, .row 30 ube (cx4 * kT29.size) 0) :: Lr)) (_ : Els kT29 S1 w1 u9r x2v.L) (_ : x2v.L.length = u8q) (_ : Els kT29 S1 w1 ube x4) (_ : x4.length = nx4) (_ : Rd kT26 S1 w1 u1o u1q x23) (_ : x23.length = u1p) (junk : Nat → Value),
 Goes Tryz.prog (base 54) Jg9 ⟨lfr 48 [(2, (pt gx2 0)), (4, .slice (Gp Gx4) nx4 cx4), (23, .slice u1o u1p u1q), (24, .i x24), (25, .i x25)] junk, []⟩ w1 (Done Tryz.prog 54 (Rets (Post.z2j nz wz S0 w0 Lr r)))

def LL.z2n : T29 × (List T29) × (List T26) × Int × Int → T29 → Prop := fun a r => ∀ {nz wz S0 w0 Lr}, L.z2n nz wz S0 w0 Lr a r

theorem W.z2o : (∀ a r, M.a6 a = some r → LF.z2j a r) ∧ (∀ a r, M.a1c a = some r → LL.z2n a r) ∧ (∀ a r, M.a3f a = some r → LF.z2k a r) ∧ (∀ a r, M.an a = some r → LL.z2l a r) ∧ (∀ a r, M.a1w a = some r → LL.z2m a r) := by
 refine M.a6.mutual_partial_correctness LF.z2j LL.z2n LF.z2k LL.z2l LL.z2m ?_ ?_ ?_ ?_ ?_
 ·
  intro rec_gram_from ubf rec_gram_each ih_gram_from ubg ih_gram_each x0 r h nz wz S0 w0 Lr u5 u6 u7 p0 um un uo
  try dsimp only at h
  subst uo
  refine Zf Tryz.f54 B54 47 ?_
  refine Gj 48 [(0, (ag (vT26 x0 u5 x0.L.length u7)))] fun junk => ?_
  refine Gn 2 [] (Yt 10 B54 [0, 1] (Ys 11 B54 [])) ?_
  refine Ob 27 (.tmp 0) 1 0 (ag (vT26 x0 u5 x0.L.length u7)) (vT26 x0 u5 x0.L.length u7) p0 Goes.v fun b1 w2 z2 p2 => ?_
  refine Oa 30 2 0 (.agg #[.i 0, .string (⟨#[]⟩ : ByteArray), .slice none 0 0]) [.i 0, .string (⟨#[]⟩ : ByteArray), .slice none 0 0] p2 Goes.v fun b3 w3 z3 p3 => ?_
  refine Gn 4 [] (Yt 1100 B54 [0, 1, 2, 3] (Ys 1101 B54 Jgc)) ?_
  refine Goes.ldN 27 (.tmp 1) 7 27 ⟨b1, 0, none⟩ (vT26 x0 u5 x0.L.length u7) (p3.pa 1 0) ?_
  refine Gb h fun y5 e6 h => ?_
  refine Gc (kc 115 [7] #[27]) 8 219 115 _ (W.z1e x0 y5 e6 _ _ _ p3 um (un.ext (z2.t z3)) rfl) ?_
  rintro _ w4 ⟨S4, u56, u57, u58, rfl, z4, p4, u59, rfl⟩
  refine Oa 219 3 0 (.agg #[.slice none 0 0, .bool false]) [.slice none 0 0, .bool false] p4 Goes.v fun b7 w5 z5 p5 => ?_
  refine So 219 (.tmp 3) (.tmp 8) 0 0 b7 0 (ag (vT218 y5 u56 y5.l.length u58)) (vT218 y5 u56 y5.l.length u58) p5 rfl Goes.s fun w6 z6 p6 => ?_
  refine Gn 4 [(9, (pt b7 1))] (Yt 11010 B54 [1] Jgf) ?_
  refine Goes.ld 4 (.tmp 9) 10 4 ⟨b7, 1, none⟩ (.bool y5.known) (p6.c 0 1) ?_
  refine Gn 1 [] Jgf ?_
  refine Gi h (fun h9 h => ?_) fun h9 h => ?_
  ·
   rw [h9]
   have p6 : Hp nz wz S4 w6 ((some b7, .row 219 [.slice u56 y5.l.length u58, .bool true] 2 0) :: (some b3, .row 30 [.i 0, .string (⟨#[]⟩ : ByteArray), .slice none 0 0] 3 0) :: (some b1, .row 27 (vT26 x0 u5 x0.L.length u7) 8 0) :: Lr) := by simp only [vT26, wT29, vT218, vT134, vT370, h9] at p6; exact p6
   refine Gn 3 [] (Yt 1101100 B54 [0, 1, 2] Jgh) ?_
   refine Goes.ldN 219 (.tmp 3) 11 219 ⟨b7, 0, none⟩ [.slice u56 y5.l.length u58, .bool true] (p6.pa 0 0) ?_
   refine Gb h fun y10 e11 h => ?_
   refine Gc (kc 116 [11] #[219]) 12 30 116 _ (W.z29 (⟨y5.l, true⟩ : T218) y10 e11 _ _ _ p6 (u59.ext (z5.t z6)) rfl) ?_
   rintro _ w7 ⟨S7, ubh, ubi, ubj, rfl, z7, p7, ubk, rfl⟩
   have p7 := (p7.dp 0).dp 1
   refine So 30 (.tmp 2) (.tmp 12) 0 0 b3 0 ((ag (wT29 y10.Op y10.Text ubh y10.L.length ubj))) (wT29 y10.Op y10.Text ubh y10.L.length ubj) p7 rfl Goes.s fun w8 z8 p8 => ?_
   refine Gn 1 [] Jgh ?_
   obtain rfl := sj h
   exact R1 Tryz.f54 (.cell 2 30) ((ag (wT29 y10.Op y10.Text ubh y10.L.length ubj))) (Rn b3 (p8.pa 0 0)) ⟨_, _, _, _, rfl, ((((((z2.t z3).t z4).t z5).t z6).t z7).t z8), p8.drop, (ubk.ext z8), rfl⟩
  ·
   have h9' := bf h9
   rw [h9']
   have p6 : Hp nz wz S4 w6 ((some b7, .row 219 [.slice u56 y5.l.length u58, .bool false] 2 0) :: (some b3, .row 30 [.i 0, .string (⟨#[]⟩ : ByteArray), .slice none 0 0] 3 0) :: (some b1, .row 27 (vT26 x0 u5 x0.L.length u7) 8 0) :: Lr) := by simp only [vT26, wT29, vT218, vT134, vT370, h9'] at p6; exact p6
   refine Gn 10 [(4, .slice none 0 0), (13, (pt b1 0))] (Yt 111100 B54 [1] (Ys 111101 B54 Jg4)) ?_
   refine Goes.ld 3 (.tmp 13) 14 3 ⟨b1, 0, none⟩ (.i x0.Kind) (p6.c 2 0) ?_
   refine Gm 7 [([16, 15], .bool (decide (x0.Kind = 2)))] (Ys 11110101 B54 Jg5) ?_
   refine Gi h (fun h12 h => ?_) fun h12 h => ?_
   ·
    rw [dt h12]
    refine Gn 4 [(17, (pt b1 5))] (Yt 1111010100 B54 [1, 2, 3] Jgm) ?_
    refine Goes.ld 25 (.tmp 17) 18 25 ⟨b1, 5, none⟩ (.slice u5 x0.L.length u7) (p6.c 2 5) ?_
    refine Gb h fun y13 e14 h => ?_
    refine Gc (kc 117 [18] #[25]) 19 30 117 _ (ih_gram_each x0.L y13 e14 _ _ _ p6 (un.ext ((((z2.t z3).t z4).t z5).t z6)) rfl) ?_
    rintro _ w9 ⟨S9, ubl, u14, u15, rfl, z9, p9, u18, rfl⟩
    have p9 := (p9.dp 0).dp 1
    refine So 30 (.tmp 2) (.tmp 19) 0 0 b3 0 ((ag (wT29 y13.Op y13.Text ubl y13.L.length u15))) (wT29 y13.Op y13.Text ubl y13.L.length u15) p9 rfl Goes.s fun w10 z10 p10 => ?_
    refine Gn 1 [] Jgm ?_
    obtain rfl := sj h
    exact R1 Tryz.f54 (.cell 2 30) ((ag (wT29 y13.Op y13.Text ubl y13.L.length u15))) (Rn b3 (p10.pa 0 0)) ⟨_, _, _, _, rfl, ((((((z2.t z3).t z4).t z5).t z6).t z9).t z10), p10.drop, (u18.ext z10), rfl⟩
   ·
    rw [df h12]
    refine Gm 6 [([21, 20], .bool (decide (x0.Kind = 3)))] (Ys 1111010111 B54 Jg5) ?_
    refine Gi h (fun h15 h => ?_) fun h15 h => ?_
    ·
     rw [dt h15]
     refine Gn 5 [(22, (pt b1 5))] (Yt 1111010111000 B54 [1, 2, 3] (Ys 1111010111001 B54 Jg6)) ?_
     refine Goes.ld 25 (.tmp 22) 23 25 ⟨b1, 5, none⟩ (.slice u5 x0.L.length u7) (p6.c 2 5) ?_
     refine Gn 5 [(24, .i (x0.L.length : Int)), (25, .i 0)] Jg9 ?_
     have p6 : Hp nz wz S4 w6 ((none, .row 30 [] (0 * kT29.size) 0) :: (some b7, .row 219 [.slice u56 y5.l.length u58, .bool false] 2 0) :: (some b3, .row 30 [.i 0, .string (⟨#[]⟩ : ByteArray), .slice none 0 0] 3 0) :: (some b1, .row 27 (vT26 x0 u5 x0.L.length u7) 8 0) :: Lr) := p6.nilRow' 30
     have p6 := (p6.dp 1).dp 2
     have p6 : Hp nz wz S4 w6 ((none, .row 30 [] (0 * kT29.size) 0) :: (none, .row 30 [] (0 * kT29.size) 0) :: (some b3, .row 30 [.i 0, .string (⟨#[]⟩ : ByteArray), .slice (Gp none) 0 0] 3 0) :: Lr) := p6.nilRow' 30
     have p6 := ((p6.fr 0).fr 1).fr 2
     exact Gj 48 [(2, (pt b3 0)), (4, .slice (Gp none) 0 0), (23, .slice u5 x0.L.length u7), (24, .i (x0.L.length : Int)), (25, .i 0)] (ubg _ _ h _ _ ((((z2.t z3).t z4).t z5).t z6) _ none 0 0 [] none 0 0 [] _ _ _ p6 (Els.nil (K := kT29)) rfl (Els.nil (K := kT29)) rfl (un.ext ((((z2.t z3).t z4).t z5).t z6)) rfl)
    ·
     rw [df h15]
     refine Gm 6 [([38, 37], .bool (decide (x0.Kind = 4)))] (Ys 111101011111 B54 Jg5) ?_
     refine Gi h (fun h21 h => ?_) fun h21 h => ?_
     ·
      rw [dt h21]
      refine Gn 4 [(39, (pt b1 6))] (Yt 11110101111100 B54 [1, 2] Jgs) ?_
      refine Goes.ld 3 (.tmp 39) 40 3 ⟨b1, 6, none⟩ (.i x0.Min) (p6.c 2 6) ?_
      refine Gn 2 [(41, .bool (decide (x0.Min > 0)))] Jgs ?_
      refine Gi h (fun h22 h => ?_) fun h22 h => ?_
      ·
       rw [dt h22]
       refine Gn 4 [(42, (pt b1 5))] (Yt 1111010111110100 B54 [1, 2, 3, 4, 5] Jgu) ?_
       refine Goes.ld 25 (.tmp 42) 43 25 ⟨b1, 5, none⟩ (.slice u5 x0.L.length u7) (p6.c 2 5) ?_
       refine Gg h fun g23 h => ?_
       refine Oi 25 (.tmp 43) (.const (.int .i64 0)) 44 0 27 .i64 0 (gi x0.L 0) rfl rfl (un.ext ((((z2.t z3).t z4).t z5).t z6)) Goes.v (by decide : (0 : Int) ≤ 0) g23 fun a24 _ f25 q26 => ?_
       have q27 := q26
       obtain ⟨_, _, rfl, rfl, ⟨_, _, rfl, ⟨l28, f29⟩, ⟨_, _, rfl, ⟨A30, c31, rfl, f32⟩, ⟨_, _, rfl, rfl, rfl⟩⟩⟩⟩ := kT26_open q27
       obtain rfl := els_lit4' f29 l28
       refine Goes.ldN 27 (.tmp 44) 45 27 a24 ([.i ((gi x0.L 0).Kind)] ++ ((U4 ((gi x0.L 0).Set) []) ++ ([.slice A30 (((gi x0.L 0).L).length) c31] ++ ([.i ((gi x0.L 0).Min)] ++ [.i ((gi x0.L 0).Max)])))) (f25.cell) ?_
       refine Gb h fun y33 e34 h => ?_
       refine Gc (kc 54 [45] #[27]) 46 30 54 _ (ih_gram_from (⟨(gi x0.L 0).Kind, ((gi x0.L 0).Set), (gi x0.L 0).L, (gi x0.L 0).Min, (gi x0.L 0).Max⟩ : T26) y33 e34 _ _ _ p6 l28 f32 rfl) ?_
       rintro _ w11 ⟨S11, ubm, ubn, ubo, rfl, z11, p11, ubp, rfl⟩
       have p11 := (p11.dp 0).dp 1
       refine So 30 (.tmp 2) (.tmp 46) 0 0 b3 0 ((ag (wT29 y33.Op y33.Text ubm y33.L.length ubo))) (wT29 y33.Op y33.Text ubm y33.L.length ubo) p11 rfl Goes.s fun w12 z12 p12 => ?_
       refine Gn 1 [] Jgu ?_
       obtain rfl := sj h
       exact R1 Tryz.f54 (.cell 2 30) ((ag (wT29 y33.Op y33.Text ubm y33.L.length ubo))) (Rn b3 (p12.pa 0 0)) ⟨_, _, _, _, rfl, ((((((z2.t z3).t z4).t z5).t z6).t z11).t z12), p12.drop, (ubp.ext z12), rfl⟩
      ·
       rw [df h22]
       refine Gn 6 [(47, .agg #[.i 0, .string (⟨#[]⟩ : ByteArray), .slice none 0 0])] Jgx ?_
       refine So 30 (.tmp 2) (.tmp 47) 0 1 b3 0 (.agg #[.i 0, .string (⟨#[]⟩ : ByteArray), .slice none 0 0]) [.i 0, .string (⟨#[]⟩ : ByteArray), .slice none 0 0] p6 rfl Goes.s fun w13 z13 p13 => ?_
       refine Gn 1 [] Jgw ?_
       obtain rfl := sj h
       have p13 := (p13.dp 0).dp 1
       exact R1 Tryz.f54 (.cell 2 30) (.agg #[.i 0, .string (⟨#[]⟩ : ByteArray), .slice none 0 0]) (Rn b3 (p13.pa 0 0)) ⟨_, _, _, _, rfl, (((((z2.t z3).t z4).t z5).t z6).t z13), p13.drop, Rd.none_, rfl⟩
     ·
      rw [df h21]
      refine Gn 6 [(47, .agg #[.i 0, .string (⟨#[]⟩ : ByteArray), .slice none 0 0])] Jgx ?_
      refine So 30 (.tmp 2) (.tmp 47) 0 1 b3 0 (.agg #[.i 0, .string (⟨#[]⟩ : ByteArray), .slice none 0 0]) [.i 0, .string (⟨#[]⟩ : ByteArray), .slice none 0 0] p6 rfl Goes.s fun w14 z14 p14 => ?_
      refine Gn 1 [] Jgw ?_
      obtain rfl := sj h
      have p14 := (p14.dp 0).dp 1
      exact R1 Tryz.f54 (.cell 2 30) (.agg #[.i 0, .string (⟨#[]⟩ : ByteArray), .slice none 0 0]) (Rn b3 (p14.pa 0 0)) ⟨_, _, _, _, rfl, (((((z2.t z3).t z4).t z5).t z6).t z14), p14.drop, Rd.none_, rfl⟩
 ·
  intro rec_gram_from ubf ih_gram_from ubg ⟨x2v, x4, x23, x24, x25⟩ r h nz wz S0 w0 Lr S1 w1 hx gx2 u9q u8q u8r u9r Gx4 nx4 cx4 ube u1o u1p u1q p1 u8s u8t fx4 lx4 u1v u1w junk
  try dsimp only at h
  subst u8t
  subst lx4
  subst u1w
  refine Gn 5 [(26, .bool (decide (x25 < x24)))] (Ys 11110101110010010 B54 (Ys 11110101110010011 B54 Jg8)) ?_
  refine Gi h (fun h35 h => ?_) fun h35 h => ?_
  ·
   rw [dt h35]
   refine Gn 6 [] (Yt 11110101110010011000 B54 [0, 1, 2, 3] (Zc Qdh Jh1)) ?_
   refine Gg h fun g36 h => ?_
   refine Gg h fun g37 h => ?_
   refine Oi 25 (.tmp 23) (.tmp 25) 27 0 27 .i64 x25 (gi x23 x25) rfl rfl u1v Goes.v g36 g37 fun a38 _ f39 q40 => ?_
   have q41 := q40
   obtain ⟨_, _, rfl, rfl, ⟨_, _, rfl, ⟨l42, f43⟩, ⟨_, _, rfl, ⟨A44, c45, rfl, f46⟩, ⟨_, _, rfl, rfl, rfl⟩⟩⟩⟩ := kT26_open q41
   obtain rfl := els_lit4' f43 l42
   refine Goes.ldN 27 (.tmp 27) 28 27 a38 ([.i ((gi x23 x25).Kind)] ++ ((U4 ((gi x23 x25).Set) []) ++ ([.slice A44 (((gi x23 x25).L).length) c45] ++ ([.i ((gi x23 x25).Min)] ++ [.i ((gi x23 x25).Max)])))) (f39.cell) ?_
   refine Oa 27 6 0 (.agg #[.i 0, .u 0, .u 0, .u 0, .u 0, .slice none 0 0, .i 0, .i 0]) [.i 0, .u 0, .u 0, .u 0, .u 0, .slice none 0 0, .i 0, .i 0] p1 Goes.v fun b47 w15 z15 p15 => ?_
   refine So 27 (.tmp 6) (.tmp 28) 0 0 b47 0 (ag (.i ((gi x23 x25).Kind) :: U4 ((gi x23 x25).Set) [.slice A44 (((gi x23 x25).L).length) c45, .i ((gi x23 x25).Min), .i ((gi x23 x25).Max)])) (.i ((gi x23 x25).Kind) :: U4 ((gi x23 x25).Set) [.slice A44 (((gi x23 x25).L).length) c45, .i ((gi x23 x25).Min), .i ((gi x23 x25).Max)]) p15 rfl Goes.s fun w16 z16 p16 => ?_
   refine Gn 3 [(29, .slice (Gp Gx4) x4.length cx4)] (Zr Qdh [1, 2, 3, 4, 5] Jh1) ?_
   refine Goes.ldN 27 (.tmp 6) 30 27 ⟨b47, 0, none⟩ (.i ((gi x23 x25).Kind) :: U4 ((gi x23 x25).Set) [.slice A44 (((gi x23 x25).L).length) c45, .i ((gi x23 x25).Min), .i ((gi x23 x25).Max)]) (p16.pa 0 0) ?_
   refine Gb h fun y49 e50 h => ?_
   refine Gc (kc 54 [30] #[27]) 31 30 54 _ (ih_gram_from (⟨(gi x23 x25).Kind, ((gi x23 x25).Set), (gi x23 x25).L, (gi x23 x25).Min, (gi x23 x25).Max⟩ : T26) y49 e50 _ _ _ p16 l42 (f46.ext (z15.t z16)) rfl) ?_
   rintro _ w17 ⟨S17, ubq, ubr, ubs, rfl, z17, p17, ubt, rfl⟩
   have p17 := p17.dp 0
   have f52 : Els kT29 S17 w17 ((wT29 y49.Op y49.Text ubq y49.L.length ubs) : List Value) [y49] := by exact (Els.cons (K := kT29) (vs := (wT29 y49.Op y49.Text ubq y49.L.length ubs)) (x := y49) (kT29_close ⟨[.i y49.Op], [.string y49.Text, .slice ubq y49.L.length ubs], rfl, rfl, ⟨[.string y49.Text], [.slice ubq y49.L.length ubs], rfl, rfl, ⟨_, _, rfl, ubt⟩⟩⟩) Els.nil)
   refine Om (.buildSlice 28 1 #[(0, (.tmp 31))]) 32 28 (fun b => .slice (Gp (some b)) 1 1) 30 ((wT29 y49.Op y49.Text ubq y49.L.length ubs) : List Value) (1 * kT29.size) p17 Goes.v fun b51 w18 z18 p18 => ?_
   refine Gg h fun g57 h => ?_
   refine On (K := kT29) 28 (.tmp 29) (.tmp 32) 33 28 30 3 (.agg #[.i 0, .string ⟨#[]⟩, .slice none 0 0]) 48 x4.length cx4 1 x4 [y49] (x4 ++ [y49]) (Gp (some b51)) 1 rfl rfl rfl p18 rfl (fx4.ext (((z15.t z16).t z17).t z18)) Goes.v (f52.ext z18) (src_own p18 (q := 0) rfl) g57 fun w19 G58 c59 ubu z19 p19 f61 => ?_
   refine Gm 8 [([4], .slice (Gp G58) ((x4 ++ [y49]).length) c59), ([34, 25], .i (wr .i64 (x25 + 1)))] Jg9 ?_
   have p19 := p19.dp 0
   exact Gj 48 [(2, (pt gx2 0)), (4, .slice (Gp G58) ((x4 ++ [y49]).length) c59), (23, .slice u1o x23.length u1q), (24, .i x24), (25, .i (wr .i64 (x25 + 1)))] (ubg _ _ h _ _ (((((hx.t z15).t z16).t z17).t z18).t z19) _ _ _ _ _ _ _ _ _ _ _ _ p19 (u8s.ext ((((z15.t z16).t z17).t z18).t z19)) rfl f61 rfl (u1v.ext ((((z15.t z16).t z17).t z18).t z19)) rfl)
  ·
   rw [df h35]
   refine Gn 5 [(35, .slice (Gp Gx4) x4.length cx4)] (Yt 1111010111010 B54 [1, 2] Jh5) ?_
   obtain ⟨S20, z20, p20, f62⟩ := p1.freezeRd 2 rfl fx4 (by decide)
   refine Gb h fun y63 e64 h => ?_
   refine Gc (.call { callee := .value (.func 118), args := #[(.const (.int .i64 4)), (.tmp 35)], argTypes := #[3, 28] }) 36 30 118 _ (W.z25 4 x4 y63 e64 _ _ _ p20 f62 rfl) ?_
   rintro _ w21 ⟨S21, ubv, ubw, ubx, rfl, z21, p21, uby, rfl⟩
   have p21 := p21.dp 2
   refine So 30 (.tmp 2) (.tmp 36) 0 0 gx2 0 ((ag (wT29 y63.Op y63.Text ubv y63.L.length ubx))) (wT29 y63.Op y63.Text ubv y63.L.length ubx) p21 rfl Goes.s fun w22 z22 p22 => ?_
   refine Gn 1 [] Jh5 ?_
   obtain rfl := sj h
   have p22 := p22.dp 1
   exact R1 Tryz.f54 (.cell 2 30) ((ag (wT29 y63.Op y63.Text ubv y63.L.length ubx))) (Rn gx2 (p22.pa 0 0)) ⟨_, _, _, _, rfl, (((hx.t z20).t z21).t z22), p22.drop, (uby.ext z22), rfl⟩
 ·
  intro ubz uc0 x0 r h nz wz S0 w0 Lr Ax0 nx0 cx0 p0 fx0 lx0
  try dsimp only at h
  subst lx0
  refine Zf Tryz.f117 B117 32 ?_
  refine Gj 33 [(0, .slice Ax0 x0.length cx0)] fun junk => ?_
  refine Gn 2 [] (Yt 10 B117 [0] (Ys 11 B117 [])) ?_
  refine Oa 30 2 0 (.agg #[.i 0, .string (⟨#[]⟩ : ByteArray), .slice none 0 0]) [.i 0, .string (⟨#[]⟩ : ByteArray), .slice none 0 0] p0 Goes.v fun b1 w2 z2 p2 => ?_
  refine Gn 8 [(3, .slice none 0 0)] Jg1 ?_
  have p2 : Hp nz wz S0 w2 ((none, .row 30 [] (0 * kT29.size) 0) :: (some b1, .row 30 [.i 0, .string (⟨#[]⟩ : ByteArray), .slice none 0 0] 3 0) :: Lr) := p2.nilRow' 30
  have p2 : Hp nz wz S0 w2 ((none, .row 30 [] (0 * kT29.size) 0) :: (none, .row 30 [] (0 * kT29.size) 0) :: (some b1, .row 30 [.i 0, .string (⟨#[]⟩ : ByteArray), .slice (Gp none) 0 0] 3 0) :: Lr) := p2.nilRow' 30
  have p2 := ((p2.fr 0).fr 1).fr 2
  exact Gj 33 [(0, .slice Ax0 x0.length cx0), (2, (pt b1 0)), (3, .slice (Gp none) 0 0)] (uc0 _ _ h _ _ z2 _ _ _ _ none 0 0 [] none 0 0 [] p2 (fx0.ext z2) rfl (Els.nil (K := kT29)) rfl (Els.nil (K := kT29)) rfl)
 ·
  intro rec_gram_from uc1 ih_gram_from uc2 ⟨x0, x2v, x3⟩ r h nz wz S0 w0 Lr S1 w1 hx Ax0 nx0 cx0 gx2 u9q u8q u8r u9r Gx3 nx3 cx3 u2l p1 fx0 lx0 u8s u8t fx3 lx3 junk
  try dsimp only at h
  subst lx0
  subst u8t
  subst lx3
  refine Gn 7 [(6, .slice Ax0 x0.length cx0), (7, .i (x0.length : Int)), (8, .bool (decide ((x0.length : Int) > 0)))] (Ys 11100001 B117 (Ys 1110001 B117 Jg0)) ?_
  refine Gi h (fun h8 h => ?_) fun h8 h => ?_
  ·
   rw [dt h8]
   refine Gn 6 [(10, .slice Ax0 x0.length cx0)] (Zr Qdq [1, 2, 3, 4, 5, 6, 7] Jhb) ?_
   refine Gb h fun y9 e10 h => ?_
   refine Gc (kc 187 [10] #[25]) 11 297 187 _ (W.z2e x0 y9 e10 _ _ _ p1 fx0 rfl) ?_
   rintro _ w3 ⟨S3, uc3, uc4, uc5, rfl, z3, p3, uc6, rfl⟩
   refine Gn 3 [(9, .tuple #[(ag (vT218 y9.1 uc3 y9.1.l.length uc5)), .i y9.2]), (12, (ag (vT218 y9.1 uc3 y9.1.l.length uc5))), (13, .i y9.2)] (Zr Qdq [5, 6, 7] Jhb) ?_
   refine Oa 219 4 0 (.agg #[.slice none 0 0, .bool false]) [.slice none 0 0, .bool false] p3 Goes.v fun b11 w4 z4 p4 => ?_
   refine So 219 (.tmp 4) (.tmp 12) 0 0 b11 0 (ag (vT218 y9.1 uc3 y9.1.l.length uc5)) (vT218 y9.1 uc3 y9.1.l.length uc5) p4 rfl Goes.s fun w5 z5 p5 => ?_
   refine Gn 6 [(5, .i y9.2), (14, (pt b11 1))] (Yt 11100010100 B117 [1] Jhe) ?_
   refine Goes.ld 4 (.tmp 14) 15 4 ⟨b11, 1, none⟩ (.bool y9.1.known) (p5.c 0 1) ?_
   refine Gn 1 [] Jhe ?_
   refine Gi h (fun h13 h => ?_) fun h13 h => ?_
   ·
    rw [h13]
    have p5 : Hp nz wz S3 w5 ((some b11, .row 219 [.slice uc3 y9.1.l.length uc5, .bool true] 2 0) :: (some gx2, .row 30 (wT29 x2v.Op x2v.Text (Gp u9q) x2v.L.length u8r) 3 0) :: (u9q, .row 30 u9r (u8r * kT29.size) 0) :: (Gx3, .row 30 u2l (cx3 * kT29.size) 0) :: Lr) := by simp only [vT26, wT29, vT218, vT134, vT370, h13] at p5; exact p5
    refine Gn 3 [(16, .slice (Gp Gx3) x3.length cx3)] (Yt 111000101010 B117 [1, 2, 3, 4, 5] Jg3) ?_
    refine Goes.ldN 219 (.tmp 4) 17 219 ⟨b11, 0, none⟩ [.slice uc3 y9.1.l.length uc5, .bool true] (p5.pa 0 0) ?_
    refine Gb h fun y14 e15 h => ?_
    refine Gc (kc 116 [17] #[219]) 18 30 116 _ (W.z29 (⟨y9.1.l, true⟩ : T218) y14 e15 _ _ _ p5 (uc6.ext (z4.t z5)) rfl) ?_
    rintro _ w6 ⟨S6, ua8, u1c, u1d, rfl, z6, p6, u1g, rfl⟩
    have p6 := p6.dp 0
    have f17 : Els kT29 S6 w6 ((wT29 y14.Op y14.Text ua8 y14.L.length u1d) : List Value) [y14] := by exact (Els.cons (K := kT29) (vs := (wT29 y14.Op y14.Text ua8 y14.L.length u1d)) (x := y14) (kT29_close ⟨[.i y14.Op], [.string y14.Text, .slice ua8 y14.L.length u1d], rfl, rfl, ⟨[.string y14.Text], [.slice ua8 y14.L.length u1d], rfl, rfl, ⟨_, _, rfl, u1g⟩⟩⟩) Els.nil)
    refine Om (.buildSlice 28 1 #[(0, (.tmp 18))]) 19 28 (fun b => .slice (Gp (some b)) 1 1) 30 ((wT29 y14.Op y14.Text ua8 y14.L.length u1d) : List Value) (1 * kT29.size) p6 Goes.v fun b16 w7 z7 p7 => ?_
    refine Gg h fun g22 h => ?_
    refine On (K := kT29) 28 (.tmp 16) (.tmp 19) 20 28 30 3 (.agg #[.i 0, .string ⟨#[]⟩, .slice none 0 0]) 48 x3.length cx3 1 x3 [y14] (x3 ++ [y14]) (Gp (some b16)) 1 rfl rfl rfl p7 rfl (fx3.ext ((((z3.t z4).t z5).t z6).t z7)) Goes.v (f17.ext z7) (src_own p7 (q := 0) rfl) g22 fun w8 G23 c24 uc7 z8 p8 f26 => ?_
    refine Gn 2 [(3, .slice (Gp G23) ((x3 ++ [y14]).length) c24)] Jg3 ?_
    have p8 := p8.dp 0
    exact Gj 33 [(0, .slice Ax0 x0.length cx0), (2, (pt gx2 0)), (3, .slice (Gp G23) ((x3 ++ [y14]).length) c24), (5, .i y9.2)] (uc2 _ _ h _ _ ((((((hx.t z3).t z4).t z5).t z6).t z7).t z8) _ _ _ _ _ _ _ _ _ _ _ _ p8 (fx0.ext (((((z3.t z4).t z5).t z6).t z7).t z8)) rfl (u8s.ext (((((z3.t z4).t z5).t z6).t z7).t z8)) rfl f26 rfl)
   ·
    have u27 := bf h13
    rw [u27]
    have p5 : Hp nz wz S3 w5 ((some b11, .row 219 [.slice uc3 y9.1.l.length uc5, .bool false] 2 0) :: (some gx2, .row 30 (wT29 x2v.Op x2v.Text (Gp u9q) x2v.L.length u8r) 3 0) :: (u9q, .row 30 u9r (u8r * kT29.size) 0) :: (Gx3, .row 30 u2l (cx3 * kT29.size) 0) :: Lr) := by simp only [vT26, wT29, vT218, vT134, vT370, u27] at p5; exact p5
    refine Gn 4 [(21, .slice (Gp Gx3) x3.length cx3), (22, .slice Ax0 x0.length cx0)] (Yt 111000101011 B117 [2, 3, 4, 5, 6, 7] Jg3) ?_
    refine Gg h fun g30 h => ?_
    refine Oi 25 (.tmp 22) (.const (.int .i64 0)) 23 0 27 .i64 0 (gi x0 0) rfl rfl (fx0.ext ((z3.t z4).t z5)) Goes.v (by decide : (0 : Int) ≤ 0) g30 fun a31 _ f32 q33 => ?_
    have q34 := q33
    obtain ⟨_, _, rfl, rfl, ⟨_, _, rfl, ⟨l35, f36⟩, ⟨_, _, rfl, ⟨A37, c38, rfl, f39⟩, ⟨_, _, rfl, rfl, rfl⟩⟩⟩⟩ := kT26_open q34
    obtain rfl := els_lit4' f36 l35
    refine Goes.ldN 27 (.tmp 23) 24 27 a31 ([.i ((gi x0 0).Kind)] ++ ((U4 ((gi x0 0).Set) []) ++ ([.slice A37 (((gi x0 0).L).length) c38] ++ ([.i ((gi x0 0).Min)] ++ [.i ((gi x0 0).Max)])))) (f32.cell) ?_
    refine Gb h fun y40 e41 h => ?_
    refine Gc (kc 54 [24] #[27]) 25 30 54 _ (ih_gram_from (⟨(gi x0 0).Kind, ((gi x0 0).Set), (gi x0 0).L, (gi x0 0).Min, (gi x0 0).Max⟩ : T26) y40 e41 _ _ _ p5 l35 f39 rfl) ?_
    rintro _ w9 ⟨S9, ubl, u14, u15, rfl, z9, p9, u18, rfl⟩
    have p9 := p9.dp 0
    have f43 : Els kT29 S9 w9 ((wT29 y40.Op y40.Text ubl y40.L.length u15) : List Value) [y40] := by exact (Els.cons (K := kT29) (vs := (wT29 y40.Op y40.Text ubl y40.L.length u15)) (x := y40) (kT29_close ⟨[.i y40.Op], [.string y40.Text, .slice ubl y40.L.length u15], rfl, rfl, ⟨[.string y40.Text], [.slice ubl y40.L.length u15], rfl, rfl, ⟨_, _, rfl, u18⟩⟩⟩) Els.nil)
    refine Om (.buildSlice 28 1 #[(0, (.tmp 25))]) 26 28 (fun b => .slice (Gp (some b)) 1 1) 30 ((wT29 y40.Op y40.Text ubl y40.L.length u15) : List Value) (1 * kT29.size) p9 Goes.v fun b42 w10 z10 p10 => ?_
    refine Gg h fun g48 h => ?_
    refine On (K := kT29) 28 (.tmp 21) (.tmp 26) 27 28 30 3 (.agg #[.i 0, .string ⟨#[]⟩, .slice none 0 0]) 48 x3.length cx3 1 x3 [y40] (x3 ++ [y40]) (Gp (some b42)) 1 rfl rfl rfl p10 rfl (fx3.ext ((((z3.t z4).t z5).t z9).t z10)) Goes.v (f43.ext z10) (src_own p10 (q := 0) rfl) g48 fun w11 G49 c50 uc8 z11 p11 f52 => ?_
    refine Gn 2 [(3, .slice (Gp G49) ((x3 ++ [y40]).length) c50)] Jg3 ?_
    have p11 := p11.dp 0
    exact Gj 33 [(0, .slice Ax0 x0.length cx0), (2, (pt gx2 0)), (3, .slice (Gp G49) ((x3 ++ [y40]).length) c50), (5, .i y9.2)] (uc2 _ _ h _ _ ((((((hx.t z3).t z4).t z5).t z9).t z10).t z11) _ _ _ _ _ _ _ _ _ _ _ _ p11 (fx0.ext (((((z3.t z4).t z5).t z9).t z10).t z11)) rfl (u8s.ext (((((z3.t z4).t z5).t z9).t z10).t z11)) rfl f52 rfl)
  ·
   rw [df h8]
   refine Gn 5 [(31, .slice (Gp Gx3) x3.length cx3)] (Yt 11110 B117 [1, 2] Jhi) ?_
   obtain ⟨S12, z12, p12, f53⟩ := p1.freezeRd 2 rfl fx3 (by decide)
   refine Gb h fun y54 e55 h => ?_
   refine Gc (.call { callee := .value (.func 118), args := #[(.const (.int .i64 3)), (.tmp 31)], argTypes := #[3, 28] }) 32 30 118 _ (W.z25 3 x3 y54 e55 _ _ _ p12 f53 rfl) ?_
   rintro _ w13 ⟨S13, uc9, uca, ucb, rfl, z13, p13, ucc, rfl⟩
   have p13 := p13.dp 2
   refine So 30 (.tmp 2) (.tmp 32) 0 0 gx2 0 ((ag (wT29 y54.Op y54.Text uc9 y54.L.length ucb))) (wT29 y54.Op y54.Text uc9 y54.L.length ucb) p13 rfl Goes.s fun w14 z14 p14 => ?_
   refine Gn 1 [] Jhi ?_
   obtain rfl := sj h
   have p14 := p14.dp 1
   exact R1 Tryz.f117 (.cell 2 30) ((ag (wT29 y54.Op y54.Text uc9 y54.L.length ucb))) (Rn gx2 (p14.pa 0 0)) ⟨_, _, _, _, rfl, (((hx.t z12).t z13).t z14), p14.drop, (ucc.ext z14), rfl⟩
 ·
  intro ubz uc0 ⟨x0, x2v, x3, x5⟩ r h nz wz S0 w0 Lr S1 w1 hx Ax0 nx0 cx0 gx2 u9q u8q u8r u9r Gx3 nx3 cx3 u2l p1 fx0 lx0 u8s u8t fx3 lx3 junk
  try dsimp only at h
  subst lx0
  subst u8t
  subst lx3
  refine Gn 3 [(28, .slice Ax0 x0.length cx0), (29, .i x5)] (Zr Qcm [2, 3] Jg2) ?_
  refine Gg h fun g56 h => ?_
  refine Gg h fun g57 h => ?_
  refine Op_.slR_n 25 (.tmp 28) (some (.tmp 29)) none 30 25 27 x5 (x0.length : Int) (sl x0 x5 (x0.length : Int)) rfl rfl fx0 Goes.v (by kernel_rfl) (by kernel_rfl) (by kernel_rfl) (Bnd.at_ .i64 (by kernel_rfl)) Bnd.no g56 g57 (Int.le_refl _) fun A58 c59 f60 => ?_
  refine Gn 4 [(0, .slice A58 ((sl x0 x5 (x0.length : Int)).length) c59)] Jg1 ?_
  exact Gj 33 [(0, .slice A58 ((sl x0 x5 (x0.length : Int)).length) c59), (2, (pt gx2 0)), (3, .slice (Gp Gx3) x3.length cx3)] (uc0 _ _ h _ _ hx _ _ _ _ _ _ _ _ _ _ _ _ p1 f60 rfl u8s rfl fx3 rfl)

theorem W.z2j : ∀ a r, M.a6 a = some r → LF.z2j a r := (W.z2o).1

theorem W.z2n : ∀ a r, M.a1c a = some r → LL.z2n a r := (W.z2o).2.1

theorem W.z2k : ∀ a r, M.a3f a = some r → LF.z2k a r := (W.z2o).2.2.1

theorem W.z2l : ∀ a r, M.an a = some r → LL.z2l a r := (W.z2o).2.2.2.1

theorem W.z2m : ∀ a r, M.a1w a = some r → LL.z2m a r := (W.z2o).2.2.2.2

def Jhn := Ys 111 B13 []
def Jho := Ys 1101 B13 Jhn
def Jhq := Ys 1111 B13 []
def Jhs := Ys 110101 B13 Jhn

def Post.z2p (r : T29 × Int) (v : Value) (w' : World) : Prop :=
 ∃ S' ucd uce ucf, v = .tuple #[(ag (wT29 r.1.Op r.1.Text ucd uce ucf)), .i r.2] ∧ Ext S0 w0 S' w' ∧ Hp nz wz S' w' (Lr) ∧ Rd kT29 S' w' ucd ucf r.1.L ∧ r.1.L.length = uce

theorem W.z2p (x0 : T26) (r : T29 × Int) (h : M.a1x x0 = some r) {nz wz S0 w0 Lr} (u5 u6 u7) (p0 : Hp nz wz S0 w0 (Lr)) (um : x0.Set.length = 4) (un : Rd kT26 S0 w0 u5 u7 x0.L) (uo : x0.L.length = u6) :
  Calls Tryz.prog 13 #[(ag (vT26 x0 u5 u6 u7))] w0 (Rets (Post.z2p nz wz S0 w0 Lr r)) := by
 subst uo
 refine Zf Tryz.f13 B13 9 ?_
 refine Gj 10 [(0, (ag (vT26 x0 u5 x0.L.length u7)))] fun junk => ?_
 delta M.a1x at h
 refine Gn 2 [] (Yt 10 B13 [0, 1, 2] (Ys 11 B13 [])) ?_
 refine Ob 27 (.tmp 0) 1 0 (ag (vT26 x0 u5 x0.L.length u7)) (vT26 x0 u5 x0.L.length u7) p0 Goes.v fun b1 w2 z2 p2 => ?_
 refine Oa 30 2 0 (.agg #[.i 0, .string (⟨#[]⟩ : ByteArray), .slice none 0 0]) [.i 0, .string (⟨#[]⟩ : ByteArray), .slice none 0 0] p2 Goes.v fun b3 w3 z3 p3 => ?_
 refine Gn 5 [(3, .i 0)] (Yt 1100 B13 [0, 1, 2] Jho) ?_
 refine Goes.ldN 27 (.tmp 1) 4 27 ⟨b1, 0, none⟩ (vT26 x0 u5 x0.L.length u7) (p3.pa 1 0) ?_
 refine Gb h fun y5 e6 h => ?_
 refine Gc (kc 53 [4] #[27]) 5 4 53 _ (W.zm x0 y5 e6 _ _ _ p3 um (un.ext (z2.t z3)) rfl) ?_
 rintro _ w4 ⟨S4, rfl, z4, p4⟩
 refine Gn 2 [(6, .bool (!y5))] Jho ?_
 refine Gi h (fun h7 h => ?_) fun h7 h => ?_
 ·
  rw [h7]
  refine Gn 4 [] (Yt 1110 B13 [0, 1, 2, 3] Jhq) ?_
  refine Goes.ldN 27 (.tmp 1) 8 27 ⟨b1, 0, none⟩ (vT26 x0 u5 x0.L.length u7) (p4.pa 1 0) ?_
  refine Gb h fun y8 e9 h => ?_
  refine Gc (kc 54 [8] #[27]) 9 30 54 _ (W.z2j x0 y8 e9 _ _ _ p4 um (un.ext ((z2.t z3).t z4)) rfl) ?_
  rintro _ w5 ⟨S5, ucg, uch, uci, rfl, z5, p5, ucj, rfl⟩
  have p5 := p5.dp 1
  refine So 30 (.tmp 2) (.tmp 9) 0 0 b3 0 ((ag (wT29 y8.Op y8.Text ucg y8.L.length uci))) (wT29 y8.Op y8.Text ucg y8.L.length uci) p5 rfl Goes.s fun w6 z6 p6 => ?_
  refine Gn 2 [(3, .i 0)] Jhq ?_
  obtain rfl := sj h
  exact R2 Tryz.f13 (.cell 2 30) (.tmp 3) (.tuple #[(ag (wT29 y8.Op y8.Text ucg y8.L.length uci)), .i 0]) (Rn b3 (p6.pa 0 0)) Rt ⟨_, _, _, _, rfl, ((((z2.t z3).t z4).t z5).t z6), p6.drop, (ucj.ext z6), rfl⟩
 ·
  rw [bf h7]
  refine Gn 4 [(7, .agg #[.i 0, .string (⟨#[]⟩ : ByteArray), .slice none 0 0])] (Yt 110100 B13 [1, 2] Jhs) ?_
  refine So 30 (.tmp 2) (.tmp 7) 0 0 b3 0 (.agg #[.i 0, .string (⟨#[]⟩ : ByteArray), .slice none 0 0]) [.i 0, .string (⟨#[]⟩ : ByteArray), .slice none 0 0] p4 rfl Goes.s fun w7 z7 p7 => ?_
  refine Gn 2 [(3, .i 2)] Jhs ?_
  obtain rfl := sj h
  have p7 := p7.dp 1
  exact R2 Tryz.f13 (.cell 2 30) (.tmp 3) (.tuple #[.agg #[.i 0, .string (⟨#[]⟩ : ByteArray), .slice none 0 0], .i 2]) (Rn b3 (p7.pa 0 0)) Rt ⟨_, _, _, _, rfl, (((z2.t z3).t z4).t z7), p7.drop, Rd.none_, rfl⟩

def Jhv := Zb 0 (Ys 1111 B119 [])
def Qe7 := Yq 1110100 B119
def Jhw := Zl Qe7 Jhv
def Jhx := Zc Qe7 Jhw
def Jhz := Ys 111010001 B119 (Ys 11101001 B119 Jhw)
def Ji1 := Zb 1 (Ys 111010011 B119 Jhw)
def Ji2 := Ys 11101001001111 B119 Ji1
def Qef := Yq 111010000 B119
def Ji8 := Ys 11101001001 B119 Ji1
def Jib := Ys 111010010011 B119 Ji1
def Qek := Yq 111010010010 B119

def Post.z2q (r : Int × Int) (v : Value) (w' : World) : Prop :=
 ∃ S', v = .tuple #[.i r.1, .i r.2] ∧ Ext S0 w0 S' w' ∧ Hp nz wz S' w' (Lr)

def LF.z2q : T26 × Int → (Int × Int) → Prop := fun ⟨x0, x1⟩ r => ∀ {nz wz S0 w0 Lr} u5 u6 u7 (_ : Hp nz wz S0 w0 (Lr)) (_ : x0.Set.length = 4) (_ : Rd kT26 S0 w0 u5 u7 x0.L) (_ : x0.L.length = u6),
 Calls Tryz.prog 119 #[(ag (vT26 x0 u5 u6 u7)), .i x1] w0 (Rets (Post.z2q nz wz S0 w0 Lr r))

def L.z2r : Int × T26 × Int × Int × Int → (Int × Int) → Prop := fun ⟨x1, x2v, x6, x7, x8⟩ r => ∀ S1 w1, Ext S0 w0 S1 w1 → ∀ gx2 u8p u8q u8r (_ : Hp nz wz S1 w1 ((some gx2, .row 27 (vT26 x2v u8p u8q u8r) 8 0) :: Lr)) (_ : x2v.Set.length = 4) (_ : Rd kT26 S1 w1 u8p u8r x2v.L) (_ : x2v.L.length = u8q) (junk : Nat → Value),
 Goes Tryz.prog (base 119) Jhx ⟨lfr 50 [(1, .i x1), (2, (pt gx2 0)), (6, .i x6), (7, .i x7), (8, .i x8)] junk, []⟩ w1 (Done Tryz.prog 119 (Rets (Post.z2q nz wz S0 w0 Lr r)))

def LL.z2r : Int × T26 × Int × Int × Int → (Int × Int) → Prop := fun a r => ∀ {nz wz S0 w0 Lr}, L.z2r nz wz S0 w0 Lr a r

def L.z2s : Int × T26 × Int × Int × Int × Bool → (Int × Int) → Prop := fun ⟨x1, x2v, x6, x7, x8, x19⟩ r => ∀ S1 w1, Ext S0 w0 S1 w1 → ∀ gx2 u8p u8q u8r (_ : Hp nz wz S1 w1 ((some gx2, .row 27 (vT26 x2v u8p u8q u8r) 8 0) :: Lr)) (_ : x2v.Set.length = 4) (_ : Rd kT26 S1 w1 u8p u8r x2v.L) (_ : x2v.L.length = u8q) (junk : Nat → Value),
 Goes Tryz.prog (base 119) Jhz ⟨lfr 50 [(1, .i x1), (2, (pt gx2 0)), (6, .i x6), (7, .i x7), (8, .i x8), (19, .bool x19)] junk, []⟩ w1 (Done Tryz.prog 119 (Rets (Post.z2q nz wz S0 w0 Lr r)))

def LL.z2s : Int × T26 × Int × Int × Int × Bool → (Int × Int) → Prop := fun a r => ∀ {nz wz S0 w0 Lr}, L.z2s nz wz S0 w0 Lr a r

def L.z2t : Int × T26 × Int × Int × Int × Bool → (Int × Int) → Prop := fun ⟨x1, x2v, x6, x7, x8, x46⟩ r => ∀ S1 w1, Ext S0 w0 S1 w1 → ∀ gx2 u8p u8q u8r (_ : Hp nz wz S1 w1 ((some gx2, .row 27 (vT26 x2v u8p u8q u8r) 8 0) :: Lr)) (_ : x2v.Set.length = 4) (_ : Rd kT26 S1 w1 u8p u8r x2v.L) (_ : x2v.L.length = u8q) (junk : Nat → Value),
 Goes Tryz.prog (base 119) Ji2 ⟨lfr 50 [(1, .i x1), (2, (pt gx2 0)), (6, .i x6), (7, .i x7), (8, .i x8), (46, .bool x46)] junk, []⟩ w1 (Done Tryz.prog 119 (Rets (Post.z2q nz wz S0 w0 Lr r)))

def LL.z2t : Int × T26 × Int × Int × Int × Bool → (Int × Int) → Prop := fun a r => ∀ {nz wz S0 w0 Lr}, L.z2t nz wz S0 w0 Lr a r

theorem W.z2u : (∀ a r, M.a27 a = some r → LF.z2q a r) ∧ (∀ a r, M.a2n a = some r → LL.z2r a r) ∧ (∀ a r, M.a2o a = some r → LL.z2s a r) ∧ (∀ a r, M.a50 a = some r → LL.z2t a r) := by
 refine M.a27.mutual_partial_correctness LF.z2q LL.z2r LL.z2s LL.z2t ?_ ?_ ?_ ?_
 ·
  intro uck ucl ⟨x0, x1⟩ r h nz wz S0 w0 Lr u5 u6 u7 p0 um un uo
  try dsimp only at h
  subst uo
  refine Zf Tryz.f119 B119 48 ?_
  refine Gj 50 [(0, (ag (vT26 x0 u5 x0.L.length u7))), (1, .i x1)] fun junk => ?_
  refine Gn 2 [] (Yt 10 B119 [0, 1, 2] (Ys 11 B119 [])) ?_
  refine Ob 27 (.tmp 0) 2 0 (ag (vT26 x0 u5 x0.L.length u7)) (vT26 x0 u5 x0.L.length u7) p0 Goes.v fun b1 w2 z2 p2 => ?_
  refine Gm 14 [([4, 5, 6, 8], .i 0), ([7], .i 1)] (Ys 111010 B119 Jhv) ?_
  refine Gn 1 [] Jhx ?_
  exact Gj 50 [(1, .i x1), (2, (pt b1 0)), (6, .i 0), (7, .i 1), (8, .i 0)] (ucl _ _ h _ _ z2 _ _ _ _ p2 um (un.ext z2) rfl)
 ·
  intro ucm ucn ⟨x1, x2v, x6, x7, x8⟩ r h nz wz S0 w0 Lr S1 w1 hx gx2 u8p u8q u8r p1 uco u8s u8t junk
  try dsimp only at h
  subst u8t
  refine Gn 5 [(11, .i x8), (12, (pt gx2 5))] (Zr Qef [2, 3, 4, 5, 6, 7, 8] Jhz) ?_
  refine Goes.ld 25 (.tmp 12) 13 25 ⟨gx2, 5, none⟩ (.slice u8p x2v.L.length u8r) (p1.c 0 5) ?_
  refine Gm 3 [([14], .i (x2v.L.length : Int)), ([15, 16], .bool (decide (x8 < (x2v.L.length : Int))))] (Zr Qef [6, 7, 8] Jhz) ?_
  refine Gi h (fun h4 h => ?_) fun h4 h => ?_
  ·
   rw [dt h4]
   refine Gm 4 [([17], .i x8), ([18, 19], .bool (decide (x8 < 5000)))] Jhz ?_
   exact Gj 50 [(1, .i x1), (2, (pt gx2 0)), (6, .i x6), (7, .i x7), (8, .i x8), (19, .bool (decide (x8 < 5000)))] (ucn _ _ h _ _ hx _ _ _ _ p1 uco u8s rfl)
  ·
   rw [df h4]
   refine Gm 4 [([17, 18], undef), ([19], .bool false)] Jhz ?_
   exact Gj 50 [(1, .i x1), (2, (pt gx2 0)), (6, .i x6), (7, .i x7), (8, .i x8), (19, .bool false)] (ucn _ _ h _ _ hx _ _ _ _ p1 uco u8s rfl)
 ·
  intro ucp ucq ucr ucs ⟨x1, x2v, x6, x7, x8, x19⟩ r h nz wz S0 w0 Lr S1 w1 hx gx2 u8p u8q u8r p1 uco u8s u8t junk
  try dsimp only at h
  subst u8t
  refine Gi h (fun h6 h => ?_) fun h6 h => ?_
  ·
   rw [h6]
   refine Gn 10 [(22, .i x1), (23, .bool (decide (x1 = 0)))] (Ys 111010010001 B119 Ji8) ?_
   refine Gi h (fun h7 h => ?_) fun h7 h => ?_
   ·
    rw [dt h7]
    refine Gn 6 [(4, .i 999), (5, .i 9999)] (Ys 11101001000101 B119 Ji8) ?_
    obtain rfl := sj h
    have p1 := p1.dp 0
    exact Goes.rt Tryz.f119 (.tuple #[.i 999, .i 9999]) ⟨_, rfl, hx, p1⟩
   ·
    rw [df h7]
    refine Gn 5 [(25, (pt gx2 5))] (Zr Qek [1, 2, 3, 4, 5, 6, 7, 8, 9, 10, 11, 12] Jib) ?_
    refine Goes.ld 25 (.tmp 25) 26 25 ⟨gx2, 5, none⟩ (.slice u8p x2v.L.length u8r) (p1.c 0 5) ?_
    refine Gn 1 [(27, .i x8)] (Zr Qek [3, 4, 5, 6, 7, 8, 9, 10, 11, 12] Jib) ?_
    refine Gg h fun g8 h => ?_
    refine Gg h fun g9 h => ?_
    refine Oi 25 (.tmp 26) (.tmp 27) 28 0 27 .i64 x8 (gi x2v.L x8) rfl rfl u8s Goes.v g8 g9 fun a10 _ f11 q12 => ?_
    have q13 := q12
    obtain ⟨_, _, rfl, rfl, ⟨_, _, rfl, ⟨l14, f15⟩, ⟨_, _, rfl, ⟨A16, c17, rfl, f18⟩, ⟨_, _, rfl, rfl, rfl⟩⟩⟩⟩ := kT26_open q13
    obtain rfl := els_lit4' f15 l14
    refine Goes.ldN 27 (.tmp 28) 29 27 a10 ([.i ((gi x2v.L x8).Kind)] ++ ((U4 ((gi x2v.L x8).Set) []) ++ ([.slice A16 (((gi x2v.L x8).L).length) c17] ++ ([.i ((gi x2v.L x8).Min)] ++ [.i ((gi x2v.L x8).Max)])))) (f11.cell) ?_
    refine Gn 2 [(30, .i x1), (31, .i (wr .i64 (x1 - 1)))] (Zr Qek [7, 8, 9, 10, 11, 12] Jib) ?_
    refine Gb h fun y19 e20 h => ?_
    refine Gc (kc 119 [29, 31] #[27, 3]) 32 128 119 _ (ucr ((⟨(gi x2v.L x8).Kind, ((gi x2v.L x8).Set), (gi x2v.L x8).L, (gi x2v.L x8).Min, (gi x2v.L x8).Max⟩ : T26), wr .i64 (x1 - 1)) y19 e20 _ _ _ p1 l14 f18 rfl) ?_
    rintro _ w3 ⟨S3, rfl, z3, p3⟩
    refine Gm 14 [([24], .tuple #[.i y19.1, .i y19.2]), ([33, 9, 36], .i y19.1), ([34, 10, 39], .i y19.2), ([35], .i x6), ([37], .i (imx x6 y19.1)), ([38], .i x7), ([40], .i (wr .i64 (x7 + y19.2)))] (Yt 1110100100110 B119 [6, 7] (Ys 1110100100111 B119 Ji1)) ?_
    refine Gm 8 [([6], .i (imx x6 y19.1)), ([7, 41], .i (wr .i64 (x7 + y19.2))), ([42, 43], .bool (decide (wr .i64 (x7 + y19.2) > 4096)))] (Yt 11101001001110 B119 [3, 4, 5] Ji2) ?_
    refine Gi h (fun h21 h => ?_) fun h21 h => ?_
    ·
     rw [dt h21]
     refine Gm 4 [([44, 45], undef), ([46], .bool true)] Ji2 ?_
     exact Gj 50 [(1, .i x1), (2, (pt gx2 0)), (6, .i (imx x6 y19.1)), (7, .i (wr .i64 (x7 + y19.2))), (8, .i x8), (46, .bool true)] (ucs _ _ h _ _ (hx.t z3) _ _ _ _ p3 uco (u8s.ext z3) rfl)
    ·
     rw [df h21]
     refine Gm 4 [([44], .i (imx x6 y19.1)), ([45, 46], .bool (decide (imx x6 y19.1 ≥ 999)))] Ji2 ?_
     exact Gj 50 [(1, .i x1), (2, (pt gx2 0)), (6, .i (imx x6 y19.1)), (7, .i (wr .i64 (x7 + y19.2))), (8, .i x8), (46, .bool (decide (imx x6 y19.1 ≥ 999)))] (ucs _ _ h _ _ (hx.t z3) _ _ _ _ p3 uco (u8s.ext z3) rfl)
  ·
   rw [bf h6]
   refine Gm 10 [([47], .i x6), ([48, 4], .i (wr .i64 (x6 + 1))), ([49, 5], .i x7)] (Ys 11111 B119 []) ?_
   obtain rfl := sj h
   have p1 := p1.dp 0
   exact Goes.rt Tryz.f119 (.tuple #[.i (wr .i64 (x6 + 1)), .i x7]) ⟨_, rfl, hx, p1⟩
 ·
  intro uck ucl ⟨x1, x2v, x6, x7, x8, x46⟩ r h nz wz S0 w0 Lr S1 w1 hx gx2 u8p u8q u8r p1 uco u8s u8t junk
  try dsimp only at h
  subst u8t
  refine Gi h (fun h23 h => ?_) fun h23 h => ?_
  ·
   rw [h23]
   refine Gn 6 [(4, .i 999), (5, .i 9999)] (Ys 1110100100111101 B119 Ji1) ?_
   obtain rfl := sj h
   have p1 := p1.dp 0
   exact Goes.rt Tryz.f119 (.tuple #[.i 999, .i 9999]) ⟨_, rfl, hx, p1⟩
  ·
   rw [bf h23]
   refine Gm 9 [([20], .i x8), ([21, 8], .i (wr .i64 (x8 + 1)))] Jhx ?_
   exact Gj 50 [(1, .i x1), (2, (pt gx2 0)), (6, .i x6), (7, .i x7), (8, .i (wr .i64 (x8 + 1)))] (ucl _ _ h _ _ hx _ _ _ _ p1 uco u8s rfl)

theorem W.z2q : ∀ a r, M.a27 a = some r → LF.z2q a r := (W.z2u).1

theorem W.z2r : ∀ a r, M.a2n a = some r → LL.z2r a r := (W.z2u).2.1

theorem W.z2s : ∀ a r, M.a2o a = some r → LL.z2s a r := (W.z2u).2.2.1

theorem W.z2t : ∀ a r, M.a50 a = some r → LL.z2t a r := (W.z2u).2.2.2

def Jik := Ys 1111 B120 []
def Jil := Ys 111111 B120 []
def Jim := Zb 0 Jil
def Qet := Yq 1111110100 B120
def Jip := Zl Qet (Zb 1 (Ys 1111111 B120 []))
def Jiq := Zc Qet Jip
def Jis := Ys 111111010001 B120 (Ys 11111101001 B120 Jip)
def Jit := Ys 11111010111 B120 Jim
def Jiw := Ys 111 B120 []
def Qf0 := Yq 110 B120
def Qf1 := Yq 1110 B120
def Qf5 := Yq 1111101010 B120
def Qf9 := Yq 11111010111110 B120
def Jjh := Zr Qf9 [19, 20, 21, 22, 23, 24, 25, 26, 27, 28, 29, 30, 31, 32, 33, 34] Jim
def Jjk := Zr Qf9 [27, 28, 29, 30, 31, 32, 33, 34] Jim
def Qfb := Yq 111111010000 B120
def Jju := Zb 2 (Ys 111111010011 B120 Jip)
def Qfd := Yq 1111110100100 B120

def Post.z2v (r : Bool) (v : Value) (w' : World) : Prop :=
 ∃ S', v = .bool r ∧ Ext S0 w0 S' w' ∧ Hp nz wz S' w' (Lr)

def LF.z2v : T26 → Bool → Prop := fun x0 r => ∀ {nz wz S0 w0 Lr} u5 u6 u7 (_ : Hp nz wz S0 w0 (Lr)) (_ : x0.Set.length = 4) (_ : Rd kT26 S0 w0 u5 u7 x0.L) (_ : x0.L.length = u6),
 Calls Tryz.prog 120 #[(ag (vT26 x0 u5 u6 u7))] w0 (Rets (Post.z2v nz wz S0 w0 Lr r))

def L.z2w : T26 × Bool × Bool → Bool → Prop := fun ⟨x1v, x3, x4⟩ r => ∀ S1 w1, Ext S0 w0 S1 w1 → ∀ gx1 u1z u20 u21 (_ : Hp nz wz S1 w1 ((some gx1, .row 27 (vT26 x1v u1z u20 u21) 8 0) :: Lr)) (_ : x1v.Set.length = 4) (_ : Rd kT26 S1 w1 u1z u21 x1v.L) (_ : x1v.L.length = u20) (junk : Nat → Value),
 Goes Tryz.prog (base 120) Jik ⟨lfr 90 [(1, (pt gx1 0)), (3, .bool x3), (4, .bool x4)] junk, []⟩ w1 (Done Tryz.prog 120 (Rets (Post.z2v nz wz S0 w0 Lr r)))

def LL.z2w : T26 × Bool × Bool → Bool → Prop := fun a r => ∀ {nz wz S0 w0 Lr}, L.z2w nz wz S0 w0 Lr a r

def L.z2x : T26 × Bool → Bool → Prop := fun ⟨x1v, x5⟩ r => ∀ S1 w1, Ext S0 w0 S1 w1 → ∀ gx1 u1z u20 u21 (_ : Hp nz wz S1 w1 ((some gx1, .row 27 (vT26 x1v u1z u20 u21) 8 0) :: Lr)) (_ : x1v.Set.length = 4) (_ : Rd kT26 S1 w1 u1z u21 x1v.L) (_ : x1v.L.length = u20) (junk : Nat → Value),
 Goes Tryz.prog (base 120) Jim ⟨lfr 90 [(1, (pt gx1 0)), (5, .bool x5)] junk, []⟩ w1 (Done Tryz.prog 120 (Rets (Post.z2v nz wz S0 w0 Lr r)))

def LL.z2x : T26 × Bool → Bool → Prop := fun a r => ∀ {nz wz S0 w0 Lr}, L.z2x nz wz S0 w0 Lr a r

def L.z2y : T26 × Bool × Int → Bool → Prop := fun ⟨x1v, x5, x6⟩ r => ∀ S1 w1, Ext S0 w0 S1 w1 → ∀ gx1 u1z u20 u21 (_ : Hp nz wz S1 w1 ((some gx1, .row 27 (vT26 x1v u1z u20 u21) 8 0) :: Lr)) (_ : x1v.Set.length = 4) (_ : Rd kT26 S1 w1 u1z u21 x1v.L) (_ : x1v.L.length = u20) (junk : Nat → Value),
 Goes Tryz.prog (base 120) Jiq ⟨lfr 90 [(1, (pt gx1 0)), (5, .bool x5), (6, .i x6)] junk, []⟩ w1 (Done Tryz.prog 120 (Rets (Post.z2v nz wz S0 w0 Lr r)))

def LL.z2y : T26 × Bool × Int → Bool → Prop := fun a r => ∀ {nz wz S0 w0 Lr}, L.z2y nz wz S0 w0 Lr a r

def L.z2z : T26 × Bool × Int × Bool → Bool → Prop := fun ⟨x1v, x5, x6, x80⟩ r => ∀ S1 w1, Ext S0 w0 S1 w1 → ∀ gx1 u1z u20 u21 (_ : Hp nz wz S1 w1 ((some gx1, .row 27 (vT26 x1v u1z u20 u21) 8 0) :: Lr)) (_ : x1v.Set.length = 4) (_ : Rd kT26 S1 w1 u1z u21 x1v.L) (_ : x1v.L.length = u20) (junk : Nat → Value),
 Goes Tryz.prog (base 120) Jis ⟨lfr 90 [(1, (pt gx1 0)), (5, .bool x5), (6, .i x6), (80, .bool x80)] junk, []⟩ w1 (Done Tryz.prog 120 (Rets (Post.z2v nz wz S0 w0 Lr r)))

def LL.z2z : T26 × Bool × Int × Bool → Bool → Prop := fun a r => ∀ {nz wz S0 w0 Lr}, L.z2z nz wz S0 w0 Lr a r

def L.z30 : T26 × Bool × Bool × Int × Bool → Bool → Prop := fun ⟨x1v, x3, x4, x20, x30⟩ r => ∀ S1 w1, Ext S0 w0 S1 w1 → ∀ gx1 u1z u20 u21 (_ : Hp nz wz S1 w1 ((some gx1, .row 27 (vT26 x1v u1z u20 u21) 8 0) :: Lr)) (_ : x1v.Set.length = 4) (_ : Rd kT26 S1 w1 u1z u21 x1v.L) (_ : x1v.L.length = u20) (junk : Nat → Value),
 Goes Tryz.prog (base 120) Jit ⟨lfr 90 [(1, (pt gx1 0)), (3, .bool x3), (4, .bool x4), (20, .i x20), (30, .bool x30)] junk, []⟩ w1 (Done Tryz.prog 120 (Rets (Post.z2v nz wz S0 w0 Lr r)))

def LL.z30 : T26 × Bool × Bool × Int × Bool → Bool → Prop := fun a r => ∀ {nz wz S0 w0 Lr}, L.z30 nz wz S0 w0 Lr a r

theorem W.z31 : (∀ a r, M.a1j a = some r → LF.z2v a r) ∧ (∀ a r, M.a51 a = some r → LL.z2w a r) ∧ (∀ a r, M.a28 a = some r → LL.z30 a r) ∧ (∀ a r, M.a4 a = some r → LL.z2x a r) ∧ (∀ a r, M.a3v a = some r → LL.z2y a r) ∧ (∀ a r, M.a52 a = some r → LL.z2z a r) := by
 refine M.a1j.mutual_partial_correctness LF.z2v LL.z2w LL.z30 LL.z2x LL.z2y LL.z2z ?_ ?_ ?_ ?_ ?_ ?_
 ·
  intro uct ucu x0 r h nz wz S0 w0 Lr u5 u6 u7 p0 um un uo
  try dsimp only at h
  subst uo
  refine Zf Tryz.f120 B120 89 ?_
  refine Gj 90 [(0, (ag (vT26 x0 u5 x0.L.length u7)))] fun junk => ?_
  refine Gn 2 [] (Yt 10 B120 [0, 1] (Ys 11 B120 [])) ?_
  refine Ob 27 (.tmp 0) 1 0 (ag (vT26 x0 u5 x0.L.length u7)) (vT26 x0 u5 x0.L.length u7) p0 Goes.v fun b1 w2 z2 p2 => ?_
  refine Gn 5 [(2, .bool false), (7, (pt b1 1))] (Zr Qf0 [1, 2, 3, 4] Jiw) ?_
  refine Goes.ldN 24 (.tmp 7) 8 24 ⟨b1, 1, none⟩ (U4 x0.Set []) (p2.pa 0 1) ?_
  refine Gn 1 [(9, .agg #[.u 0, .u 0, .u 0, .u 0])] (Zr Qf0 [3, 4] Jiw) ?_
  refine Op_.eqA 24 (.tmp 8) (.tmp 9) 24 10 4 22 4 .u64 (us := ((U4 x0.Set []) : List Value)) (vs := ([.u 0, .u 0, .u 0, .u 0] : List Value)) Goes.v (by kernel_rfl) (by kernel_rfl) (by kernel_rfl) (by kernel_rfl) (by kernel_rfl) (by kernel_rfl) (by kernel_rfl) (els_mk4 (S := S0) (w := w2) (k := .u64) um) (show Els (kInt .u64) S0 w2 ([.u 0, .u 0, .u 0, .u 0] : List Value) _ from (Els.cons (K := (kInt .u64)) (vs := [.u 0]) (x := 0) rfl (Els.cons (K := (kInt .u64)) (vs := [.u 0]) (x := 0) rfl (Els.cons (K := (kInt .u64)) (vs := [.u 0]) (x := 0) rfl (Els.cons (K := (kInt .u64)) (vs := [.u 0]) (x := 0) rfl Els.nil))))) (Els.len1 (els_mk4 (S := S0) (w := w2) (k := .u64) um) rfl rfl) (Els.len1 (show Els (kInt .u64) S0 w2 ([.u 0, .u 0, .u 0, .u 0] : List Value) _ from (Els.cons (K := (kInt .u64)) (vs := [.u 0]) (x := 0) rfl (Els.cons (K := (kInt .u64)) (vs := [.u 0]) (x := 0) rfl (Els.cons (K := (kInt .u64)) (vs := [.u 0]) (x := 0) rfl (Els.cons (K := (kInt .u64)) (vs := [.u 0]) (x := 0) rfl Els.nil))))) rfl rfl) ?_
  refine Gn 5 [(3, .bool (decide (x0.Set = [0, 0, 0, 0]))), (11, (pt b1 6))] (Zr Qf1 [1, 2, 3, 4, 5, 6, 7, 8] Jik) ?_
  refine Goes.ld 3 (.tmp 11) 12 3 ⟨b1, 6, none⟩ (.i x0.Min) (p2.c 0 6) ?_
  refine Gm 2 [([13, 14], .bool (decide (x0.Min = 0)))] (Zr Qf1 [4, 5, 6, 7, 8] Jik) ?_
  refine Gi h (fun h3 h => ?_) fun h3 h => ?_
  ·
   rw [dt h3]
   refine Gn 1 [(15, (pt b1 7))] (Zr Qf1 [5, 6, 7, 8] Jik) ?_
   refine Goes.ld 3 (.tmp 15) 16 3 ⟨b1, 7, none⟩ (.i x0.Max) (p2.c 0 7) ?_
   refine Gm 4 [([17, 18, 4], .bool (decide (x0.Max = 0)))] Jik ?_
   exact Gj 90 [(1, (pt b1 0)), (3, .bool (decide (x0.Set = [0, 0, 0, 0]))), (4, .bool (decide (x0.Max = 0)))] (ucu _ _ h _ _ z2 _ _ _ _ p2 um (un.ext z2) rfl)
  ·
   rw [df h3]
   refine Gm 6 [([15, 16, 17], undef), ([18, 4], .bool false)] Jik ?_
   exact Gj 90 [(1, (pt b1 0)), (3, .bool (decide (x0.Set = [0, 0, 0, 0]))), (4, .bool false)] (ucu _ _ h _ _ z2 _ _ _ _ p2 um (un.ext z2) rfl)
 ·
  intro ucv ucw ucx ucy ⟨x1v, x3, x4⟩ r h nz wz S0 w0 Lr S1 w1 hx gx1 u1z u20 u21 p1 u22 u23 u24 junk
  try dsimp only at h
  subst u24
  refine Gn 8 [(5, .bool false), (19, (pt gx1 0))] (Yt 1111100 B120 [1] (Ys 1111101 B120 Jil)) ?_
  refine Goes.ld 3 (.tmp 19) 20 3 ⟨gx1, 0, none⟩ (.i x1v.Kind) (p1.c 0 0) ?_
  refine Gm 7 [([22, 21], .bool (decide (x1v.Kind = 1)))] (Ys 111110101 B120 Jim) ?_
  refine Gi h (fun h5 h => ?_) fun h5 h => ?_
  ·
   rw [dt h5]
   refine Gn 3 [(23, (pt gx1 5))] (Zr Qf5 [1, 2, 3, 4, 5, 6, 7] Jim) ?_
   refine Goes.ld 25 (.tmp 23) 24 25 ⟨gx1, 5, none⟩ (.slice u1z x1v.L.length u21) (p1.c 0 5) ?_
   refine Gm 3 [([25], .i (x1v.L.length : Int)), ([26, 27], .bool (decide ((x1v.L.length : Int) = 0)))] (Zr Qf5 [5, 6, 7] Jim) ?_
   refine Gi h (fun h6 h => ?_) fun h6 h => ?_
   ·
    rw [dt h6]
    refine Gm 4 [([28, 29, 5], .bool x4)] Jim ?_
    exact Gj 90 [(1, (pt gx1 0)), (5, .bool x4)] (ucy _ _ h _ _ hx _ _ _ _ p1 u22 u23 rfl)
   ·
    rw [df h6]
    refine Gm 4 [([28], undef), ([29, 5], .bool false)] Jim ?_
    exact Gj 90 [(1, (pt gx1 0)), (5, .bool false)] (ucy _ _ h _ _ hx _ _ _ _ p1 u22 u23 rfl)
  ·
   rw [df h5]
   refine Gm 7 [([31, 30], .bool (decide (x1v.Kind = 2)))] (Ys 111110101101 B120 Jit) ?_
   refine Gi h (fun h8 h => ?_) fun h8 h => ?_
   ·
    rw [dt h8]
    refine Gn 2 [] Jit ?_
    exact Gj 90 [(1, (pt gx1 0)), (3, .bool x3), (4, .bool x4), (20, .i x1v.Kind), (30, .bool true)] (ucx _ _ h _ _ hx _ _ _ _ p1 u22 u23 rfl)
   ·
    rw [df h8]
    refine Gm 5 [([32, 30], .bool (decide (x1v.Kind = 3)))] Jit ?_
    exact Gj 90 [(1, (pt gx1 0)), (3, .bool x3), (4, .bool x4), (20, .i x1v.Kind), (30, .bool (decide (x1v.Kind = 3)))] (ucx _ _ h _ _ hx _ _ _ _ p1 u22 u23 rfl)
 ·
  intro ucw ucy ⟨x1v, x3, x4, x20, x30⟩ r h nz wz S0 w0 Lr S1 w1 hx gx1 u1z u20 u21 p1 u22 u23 u24 junk
  try dsimp only at h
  subst u24
  refine Gi h (fun h11 h => ?_) fun h11 h => ?_
  ·
   rw [h11]
   refine Gm 4 [([33, 34], .bool x3)] (Yt 111110101110 B120 [2, 3, 4] Jim) ?_
   refine Gi h (fun h12 h => ?_) fun h12 h => ?_
   ·
    rw [h12]
    refine Gm 4 [([35, 36, 5], .bool x4)] Jim ?_
    exact Gj 90 [(1, (pt gx1 0)), (5, .bool x4)] (ucy _ _ h _ _ hx _ _ _ _ p1 u22 u23 rfl)
   ·
    rw [bf h12]
    refine Gm 4 [([35], undef), ([36, 5], .bool false)] Jim ?_
    exact Gj 90 [(1, (pt gx1 0)), (5, .bool false)] (ucy _ _ h _ _ hx _ _ _ _ p1 u22 u23 rfl)
  ·
   rw [bf h11]
   refine Gm 6 [([38, 37], .bool (decide (x20 = 4)))] (Ys 1111101011111 B120 Jim) ?_
   refine Gi h (fun h13 h => ?_) fun h13 h => ?_
   ·
    rw [dt h13]
    refine Gn 3 [(39, (pt gx1 5))] (Zr Qf9 [1, 2, 3, 4, 5, 6, 7, 8, 9, 10, 11, 12, 13, 14, 15, 16, 17, 18, 19, 20, 21, 22, 23, 24, 25, 26, 27, 28, 29, 30, 31, 32, 33, 34] Jim) ?_
    refine Goes.ld 25 (.tmp 39) 40 25 ⟨gx1, 5, none⟩ (.slice u1z x1v.L.length u21) (p1.c 0 5) ?_
    refine Gm 3 [([41], .i (x1v.L.length : Int)), ([42, 43], .bool (decide ((x1v.L.length : Int) = 1)))] (Zr Qf9 [5, 6, 7, 8, 9, 10, 11, 12, 13, 14, 15, 16, 17, 18, 19, 20, 21, 22, 23, 24, 25, 26, 27, 28, 29, 30, 31, 32, 33, 34] Jim) ?_
    refine Gi h (fun h14 h => ?_) fun h14 h => ?_
    ·
     rw [dt h14]
     refine Gm 3 [([44, 45, 46], .bool x3)] (Zr Qf9 [8, 9, 10, 11, 12, 13, 14, 15, 16, 17, 18, 19, 20, 21, 22, 23, 24, 25, 26, 27, 28, 29, 30, 31, 32, 33, 34] Jim) ?_
     refine Gi h (fun h15 h => ?_) fun h15 h => ?_
     ·
      rw [h15]
      refine Gn 1 [(47, (pt gx1 6))] (Zr Qf9 [9, 10, 11, 12, 13, 14, 15, 16, 17, 18, 19, 20, 21, 22, 23, 24, 25, 26, 27, 28, 29, 30, 31, 32, 33, 34] Jim) ?_
      refine Goes.ld 3 (.tmp 47) 48 3 ⟨gx1, 6, none⟩ (.i x1v.Min) (p1.c 0 6) ?_
      refine Gm 3 [([49, 50, 51], .bool (decide (x1v.Min ≥ 0)))] (Zr Qf9 [13, 14, 15, 16, 17, 18, 19, 20, 21, 22, 23, 24, 25, 26, 27, 28, 29, 30, 31, 32, 33, 34] Jim) ?_
      refine Gi h (fun h16 h => ?_) fun h16 h => ?_
      ·
       rw [dt h16]
       refine Gn 1 [(52, (pt gx1 6))] (Zr Qf9 [14, 15, 16, 17, 18, 19, 20, 21, 22, 23, 24, 25, 26, 27, 28, 29, 30, 31, 32, 33, 34] Jim) ?_
       refine Goes.ld 3 (.tmp 52) 53 3 ⟨gx1, 6, none⟩ (.i x1v.Min) (p1.c 0 6) ?_
       refine Gm 3 [([54, 55, 56], .bool (decide (x1v.Min ≤ 64)))] (Zr Qf9 [18, 19, 20, 21, 22, 23, 24, 25, 26, 27, 28, 29, 30, 31, 32, 33, 34] Jim) ?_
       refine Gi h (fun h17 h => ?_) fun h17 h => ?_
       ·
        rw [dt h17]
        refine Gn 1 [(57, (pt gx1 7))] Jjh ?_
        refine Goes.ld 3 (.tmp 57) 58 3 ⟨gx1, 7, none⟩ (.i x1v.Max) (p1.c 0 7) ?_
        refine Gm 3 [([59, 60, 61], .bool (decide (x1v.Max ≤ 64)))] (Zr Qf9 [23, 24, 25, 26, 27, 28, 29, 30, 31, 32, 33, 34] Jim) ?_
        refine Gi h (fun h18 h => ?_) fun h18 h => ?_
        ·
         rw [dt h18]
         refine Gn 1 [(62, (pt gx1 7))] (Zr Qf9 [24, 25, 26, 27, 28, 29, 30, 31, 32, 33, 34] Jim) ?_
         refine Goes.ld 3 (.tmp 62) 63 3 ⟨gx1, 7, none⟩ (.i x1v.Max) (p1.c 0 7) ?_
         refine Gm 2 [([64, 65], .bool (decide (x1v.Max = (-1))))] Jjk ?_
         refine Gi h (fun h19 h => ?_) fun h19 h => ?_
         ·
          rw [dt h19]
          refine Gm 9 [([66, 67, 68, 69, 70], undef), ([71, 72, 5], .bool true)] Jim ?_
          exact Gj 90 [(1, (pt gx1 0)), (5, .bool true)] (ucy _ _ h _ _ hx _ _ _ _ p1 u22 u23 rfl)
         ·
          rw [df h19]
          refine Gn 1 [(66, (pt gx1 7))] (Zr Qf9 [28, 29, 30, 31, 32, 33, 34] Jim) ?_
          refine Goes.ld 3 (.tmp 66) 67 3 ⟨gx1, 7, none⟩ (.i x1v.Max) (p1.c 0 7) ?_
          refine Gn 1 [(68, (pt gx1 6))] (Zr Qf9 [30, 31, 32, 33, 34] Jim) ?_
          refine Goes.ld 3 (.tmp 68) 69 3 ⟨gx1, 6, none⟩ (.i x1v.Min) (p1.c 0 6) ?_
          refine Gm 5 [([70, 71, 72, 5], .bool (decide (x1v.Max ≥ x1v.Min)))] Jim ?_
          exact Gj 90 [(1, (pt gx1 0)), (5, .bool (decide (x1v.Max ≥ x1v.Min)))] (ucy _ _ h _ _ hx _ _ _ _ p1 u22 u23 rfl)
        ·
         rw [df h18]
         refine Gm 13 [([62, 63, 64, 65, 66, 67, 68, 69, 70, 71], undef), ([72, 5], .bool false)] Jim ?_
         exact Gj 90 [(1, (pt gx1 0)), (5, .bool false)] (ucy _ _ h _ _ hx _ _ _ _ p1 u22 u23 rfl)
       ·
        rw [df h17]
        refine Gm 14 [([57, 58, 59, 62, 63, 64, 65, 66, 67, 68, 69, 70], undef), ([60, 61], .bool false)] (Zr Qf9 [32, 33, 34] Jim) ?_
        refine Gm 4 [([71], undef), ([72, 5], .bool false)] Jim ?_
        exact Gj 90 [(1, (pt gx1 0)), (5, .bool false)] (ucy _ _ h _ _ hx _ _ _ _ p1 u22 u23 rfl)
      ·
       rw [df h16]
       refine Gm 14 [([52, 53, 54, 57, 58, 59, 62, 63, 64, 65], undef), ([55, 56, 60, 61], .bool false)] Jjk ?_
       refine Gm 9 [([66, 67, 68, 69, 70, 71], undef), ([72, 5], .bool false)] Jim ?_
       exact Gj 90 [(1, (pt gx1 0)), (5, .bool false)] (ucy _ _ h _ _ hx _ _ _ _ p1 u22 u23 rfl)
     ·
      rw [bf h15]
      refine Gm 14 [([47, 48, 49, 52, 53, 54, 57, 58, 59], undef), ([50, 51, 55, 56, 60], .bool false)] (Zr Qf9 [22, 23, 24, 25, 26, 27, 28, 29, 30, 31, 32, 33, 34] Jim) ?_
      refine Gm 14 [([61, 72, 5], .bool false), ([62, 63, 64, 65, 66, 67, 68, 69, 70, 71], undef)] Jim ?_
      exact Gj 90 [(1, (pt gx1 0)), (5, .bool false)] (ucy _ _ h _ _ hx _ _ _ _ p1 u22 u23 rfl)
    ·
     rw [df h14]
     refine Gm 14 [([44, 47, 48, 49, 52, 53, 54, 57], undef), ([45, 46, 50, 51, 55, 56], .bool false)] Jjh ?_
     refine Gm 14 [([58, 59, 62, 63, 64, 65, 66, 67, 68, 69, 70, 71], undef), ([60, 61], .bool false)] (Zr Qf9 [33, 34] Jim) ?_
     refine Gm 3 [([72, 5], .bool false)] Jim ?_
     exact Gj 90 [(1, (pt gx1 0)), (5, .bool false)] (ucy _ _ h _ _ hx _ _ _ _ p1 u22 u23 rfl)
   ·
    rw [df h13]
    refine Gn 5 [(2, .bool false)] (Ys 111110101111111 B120 Jim) ?_
    obtain rfl := sj h
    have p1 := p1.dp 0
    exact Goes.rt Tryz.f120 (.bool false) ⟨_, rfl, hx, p1⟩
 ·
  intro ud1 ud2 ⟨x1v, x5⟩ r h nz wz S0 w0 Lr S1 w1 hx gx1 u1z u20 u21 p1 u22 u23 u24 junk
  try dsimp only at h
  subst u24
  refine Gn 8 [(6, .i 0)] Jiq ?_
  exact Gj 90 [(1, (pt gx1 0)), (5, .bool x5), (6, .i 0)] (ud2 _ _ h _ _ hx _ _ _ _ p1 u22 u23 rfl)
 ·
  intro ud3 ud4 ⟨x1v, x5, x6⟩ r h nz wz S0 w0 Lr S1 w1 hx gx1 u1z u20 u21 p1 u22 u23 u24 junk
  try dsimp only at h
  subst u24
  refine Gn 5 [(73, .i x6), (74, (pt gx1 5))] (Zr Qfb [2, 3, 4, 5, 6, 7] Jis) ?_
  refine Goes.ld 25 (.tmp 74) 75 25 ⟨gx1, 5, none⟩ (.slice u1z x1v.L.length u21) (p1.c 0 5) ?_
  refine Gm 3 [([76], .i (x1v.L.length : Int)), ([77, 78], .bool (decide (x6 < (x1v.L.length : Int))))] (Zr Qfb [6, 7] Jis) ?_
  refine Gi h (fun h20 h => ?_) fun h20 h => ?_
  ·
   rw [dt h20]
   refine Gm 3 [([79, 80], .bool x5)] Jis ?_
   exact Gj 90 [(1, (pt gx1 0)), (5, .bool x5), (6, .i x6), (80, .bool x5)] (ud4 _ _ h _ _ hx _ _ _ _ p1 u22 u23 rfl)
  ·
   rw [df h20]
   refine Gn 3 [(79, undef), (80, .bool false)] Jis ?_
   exact Gj 90 [(1, (pt gx1 0)), (5, .bool x5), (6, .i x6), (80, .bool false)] (ud4 _ _ h _ _ hx _ _ _ _ p1 u22 u23 rfl)
 ·
  intro ud5 ud1 ud6 ud2 ⟨x1v, x5, x6, x80⟩ r h nz wz S0 w0 Lr S1 w1 hx gx1 u1z u20 u21 p1 u22 u23 u24 junk
  try dsimp only at h
  subst u24
  refine Gi h (fun h22 h => ?_) fun h22 h => ?_
  ·
   rw [h22]
   refine Gn 6 [(83, (pt gx1 5))] (Zr Qfd [1, 2, 3, 4, 5, 6] Jju) ?_
   refine Goes.ld 25 (.tmp 83) 84 25 ⟨gx1, 5, none⟩ (.slice u1z x1v.L.length u21) (p1.c 0 5) ?_
   refine Gn 1 [(85, .i x6)] (Zr Qfd [3, 4, 5, 6] Jju) ?_
   refine Gg h fun g23 h => ?_
   refine Gg h fun g24 h => ?_
   refine Oi 25 (.tmp 84) (.tmp 85) 86 0 27 .i64 x6 (gi x1v.L x6) rfl rfl u23 Goes.v g23 g24 fun a25 _ f26 q27 => ?_
   have q28 := q27
   obtain ⟨_, _, rfl, rfl, ⟨_, _, rfl, ⟨l29, f30⟩, ⟨_, _, rfl, ⟨A31, c32, rfl, f33⟩, ⟨_, _, rfl, rfl, rfl⟩⟩⟩⟩ := kT26_open q28
   obtain rfl := els_lit4' f30 l29
   refine Goes.ldN 27 (.tmp 86) 87 27 a25 ([.i ((gi x1v.L x6).Kind)] ++ ((U4 ((gi x1v.L x6).Set) []) ++ ([.slice A31 (((gi x1v.L x6).L).length) c32] ++ ([.i ((gi x1v.L x6).Min)] ++ [.i ((gi x1v.L x6).Max)])))) (f26.cell) ?_
   refine Gb h fun y34 e35 h => ?_
   refine Gc (kc 120 [87] #[27]) 88 4 120 _ (ud6 (⟨(gi x1v.L x6).Kind, ((gi x1v.L x6).Set), (gi x1v.L x6).L, (gi x1v.L x6).Min, (gi x1v.L x6).Max⟩ : T26) y34 e35 _ _ _ p1 l29 f33 rfl) ?_
   rintro _ w3 ⟨S3, rfl, z3, p3⟩
   refine Gm 9 [([5], .bool y34), ([81], .i x6), ([82, 6], .i (wr .i64 (x6 + 1)))] Jiq ?_
   exact Gj 90 [(1, (pt gx1 0)), (5, .bool y34), (6, .i (wr .i64 (x6 + 1)))] (ud2 _ _ h _ _ (hx.t z3) _ _ _ _ p3 u22 (u23.ext z3) rfl)
  ·
   rw [bf h22]
   refine Gm 7 [([89, 2], .bool x5)] (Ys 11111111 B120 []) ?_
   obtain rfl := sj h
   have p1 := p1.dp 0
   exact Goes.rt Tryz.f120 (.bool x5) ⟨_, rfl, hx, p1⟩

theorem W.z2v : ∀ a r, M.a1j a = some r → LF.z2v a r := (W.z31).1

theorem W.z2w : ∀ a r, M.a51 a = some r → LL.z2w a r := (W.z31).2.1

theorem W.z30 : ∀ a r, M.a28 a = some r → LL.z30 a r := (W.z31).2.2.1

theorem W.z2x : ∀ a r, M.a4 a = some r → LL.z2x a r := (W.z31).2.2.2.1

theorem W.z2y : ∀ a r, M.a3v a = some r → LL.z2y a r := (W.z31).2.2.2.2.1

theorem W.z2z : ∀ a r, M.a52 a = some r → LL.z2z a r := (W.z31).2.2.2.2.2

def Jk2 := Ys 1111 B55 []
def Qfk := Yq 1110 B55

def Post.z32 (r : Bool) (v : Value) (w' : World) : Prop :=
 ∃ S', v = .bool r ∧ Ext S0 w0 S' w' ∧ Hp nz wz S' w' (Lr)

theorem W.z32 (x0 : T26) (r : Bool) (h : M.a5s x0 = some r) {nz wz S0 w0 Lr} (u5 u6 u7) (p0 : Hp nz wz S0 w0 (Lr)) (um : x0.Set.length = 4) (un : Rd kT26 S0 w0 u5 u7 x0.L) (uo : x0.L.length = u6) :
  Calls Tryz.prog 55 #[(ag (vT26 x0 u5 u6 u7))] w0 (Rets (Post.z32 nz wz S0 w0 Lr r)) := by
 subst uo
 refine Zf Tryz.f55 B55 19 ?_
 refine Gj 20 [(0, (ag (vT26 x0 u5 x0.L.length u7)))] fun junk => ?_
 delta M.a5s at h
 refine Gn 2 [] (Yt 10 B55 [0, 1] (Ys 11 B55 [])) ?_
 refine Ob 27 (.tmp 0) 1 0 (ag (vT26 x0 u5 x0.L.length u7)) (vT26 x0 u5 x0.L.length u7) p0 Goes.v fun b1 w2 z2 p2 => ?_
 refine Gn 4 [(2, .bool false)] (Yt 110 B55 [0, 1, 2, 3, 4, 5, 6] (Ys 111 B55 [])) ?_
 refine Goes.ldN 27 (.tmp 1) 6 27 ⟨b1, 0, none⟩ (vT26 x0 u5 x0.L.length u7) (p2.pa 0 0) ?_
 refine Gb h fun y3 e4 h => ?_
 refine Gc (.call { callee := .value (.func 119), args := #[(.tmp 6), (.const (.int .i64 128))], argTypes := #[27, 3] }) 7 128 119 _ (W.z2q (x0, 128) y3 e4 _ _ _ p2 um (un.ext z2) rfl) ?_
 rintro _ w3 ⟨S3, rfl, z3, p3⟩
 refine Gm 11 [([5], .tuple #[.i y3.1, .i y3.2]), ([8, 3, 10], .i y3.1), ([9, 4], .i y3.2), ([11, 12], .bool (decide (y3.1 ≤ 128)))] (Zr Qfk [3, 4, 5, 6, 7, 8, 9, 10] Jk2) ?_
 refine Gi h (fun h5 h => ?_) fun h5 h => ?_
 ·
  rw [dt h5]
  refine Gm 4 [([13], .i y3.2), ([14, 15, 16], .bool (decide (y3.2 ≤ 4096)))] (Zr Qfk [7, 8, 9, 10] Jk2) ?_
  refine Gi h (fun h6 h => ?_) fun h6 h => ?_
  ·
   rw [dt h6]
   refine Goes.ldN 27 (.tmp 1) 17 27 ⟨b1, 0, none⟩ (vT26 x0 u5 x0.L.length u7) (p3.pa 0 0) ?_
   refine Gb h fun y7 e8 h => ?_
   refine Gc (kc 120 [17] #[27]) 18 4 120 _ (W.z2v x0 y7 e8 _ _ _ p3 um (un.ext (z2.t z3)) rfl) ?_
   rintro _ w4 ⟨S4, rfl, z4, p4⟩
   have p4 := p4.dp 0
   refine Gm 3 [([19, 2], .bool y7)] Jk2 ?_
   obtain rfl := sj h
   exact Goes.rt Tryz.f55 (.bool y7) ⟨_, rfl, ((z2.t z3).t z4), p4⟩
  ·
   rw [df h6]
   refine Gm 5 [([17, 18], undef), ([19, 2], .bool false)] Jk2 ?_
   obtain rfl := sj h
   have p3 := p3.dp 0
   exact Goes.rt Tryz.f55 (.bool false) ⟨_, rfl, (z2.t z3), p3⟩
 ·
  rw [df h5]
  refine Gm 9 [([13, 14, 17, 18], undef), ([15, 16, 19, 2], .bool false)] Jk2 ?_
  obtain rfl := sj h
  have p3 := p3.dp 0
  exact Goes.rt Tryz.f55 (.bool false) ⟨_, rfl, (z2.t z3), p3⟩

def Jk7 := Ys 111 B191 []
def Qfo := Yq 110 B191

def Post.z33 (r : Bool) (v : Value) (w' : World) : Prop :=
 ∃ S', v = .bool r ∧ Ext S0 w0 S' w' ∧ Hp nz wz S' w' (Lr)

theorem W.z33 (x0 : List Int) (x1 : Int) (r : Bool) (h : M.a5t x0 x1 = some r) {nz wz S0 w0 Lr} (u2c) (p0 : Hp nz wz S0 w0 (Lr)) (fx0 : Els (kInt .u64) S0 w0 u2c x0) (lx0 : u2c.length = 4) :
  Calls Tryz.prog 191 #[.agg u2c.toArray, .int .u8 x1] w0 (Rets (Post.z33 nz wz S0 w0 Lr r)) := by
 refine Zf Tryz.f191 B191 12 ?_
 refine Gj 14 [(0, .agg u2c.toArray), (1, .int .u8 x1)] fun junk => ?_
 delta M.a5t at h
 refine Gn 2 [] (Yt 10 B191 [0, 1] (Ys 11 B191 [])) ?_
 refine Op_.box 24 (.tmp 0) 2 0 (.agg u2c.toArray) u2c p0 Goes.v (by kernel_rfl) rfl fun b1 w2 z2 p2 => ?_
 replace p2 : Hp nz wz S0 w2 ((some b1, .row 24 u2c 4 0) :: Lr) := by rw [show (u2c).length = 4 from lx0] at p2; exact p2
 refine Gn 6 [(4, .bool false), (5, .int .u8 x1), (6, .int .u8 (iquo .u8 x1 64))] (Zr Qfo [2, 3, 4, 5, 6, 7, 8, 9] Jk7) ?_
 refine Gg h fun g3 h => ?_
 refine Gg h fun g4 h => ?_
 refine Op_.ixA_n (K := (kInt .u64)) 24 (.tmp 2) (.tmp 6) 7 0 22 4 .u8 (iquo .u8 x1 64) 0 (gi x0 (iquo .u8 x1 64)) rfl p2 rfl (fx0.ext z2) (Els.len1 (fx0.ext z2) lx0 rfl) Goes.v (by kernel_rfl) (by kernel_rfl) (by kernel_rfl) (by kernel_rfl) g3 g4 fun _ q6 f5 => ?_
 obtain rfl := q6
 refine Goes.ld 22 (.tmp 7) 8 22 ⟨b1, (iquo .u8 x1 64 : Int).toNat * (kInt .u64).size, none⟩ (.u (gi x0 (iquo .u8 x1 64))) (f5 0 _ rfl) ?_
 refine Gn 2 [(9, .int .u8 x1), (10, .int .u8 (irem .u8 x1 64))] (Zr Qfo [6, 7, 8, 9] Jk7) ?_
 refine Gg h fun g7 h => ?_
 refine Op_.binshr 22 (.tmp 8) (.tmp 10) 5 11 22 .u64 .u8 (gi x0 (iquo .u8 x1 64)) (irem .u8 x1 64) Goes.v (by kernel_rfl) (by kernel_rfl) g7 ?_
 refine Gm 4 [([12], .u (irem .u64 (ishr .u64 (gi x0 (iquo .u8 x1 64)) (irem .u8 x1 64)) 2)), ([13, 4], .bool (decide (irem .u64 (ishr .u64 (gi x0 (iquo .u8 x1 64)) (irem .u8 x1 64)) 2 = 1)))] Jk7 ?_
 obtain rfl := sj h
 have p2 := p2.dp 0
 exact Goes.rt Tryz.f191 (.bool (decide (irem .u64 (ishr .u64 (gi x0 (iquo .u8 x1 64)) (irem .u8 x1 64)) 2 = 1))) ⟨_, rfl, z2, p2⟩

def Jka := Ys 1111 B121 []
def Jkb := Zb 0 Jka
def Qfr := Yq 111010100100 B121
def Jke := Zl Qfr (Zb 1 (Ys 111010101 B121 Jkb))
def Jkf := Zc Qfr Jke
def Jkh := Zb 2 (Ys 11101010010011 B121 Jke)
def Jkk := Ys 1110101001001001 B121 Jkh
def Qfw := Yq 1110101001001000 B121

def Post.z34 (r : (List ByteArray) × Bool) (v : Value) (w' : World) : Prop :=
 ∃ S' ud7 u2e u2f ud8, v = .tuple #[.slice (Gp ud7) u2e u2f, .bool r.2] ∧ Ext S0 w0 S' w' ∧ Hp nz wz S' w' ((ud7, .row 9 ud8 (u2f * kStr.size) 0) :: Lr) ∧ Els kStr S' w' ud8 r.1 ∧ r.1.length = u2e

def L.z35 : T26 × (List ByteArray) × Int → ((List ByteArray) × Bool) → Prop := fun ⟨x1v, x4, x6⟩ r => ∀ S1 w1, Ext S0 w0 S1 w1 → ∀ gx1 u1z u20 u21 Gx4 nx4 cx4 ube (_ : Hp nz wz S1 w1 ((some gx1, .row 27 (vT26 x1v u1z u20 u21) 8 0) :: (Gx4, .row 9 ube (cx4 * kStr.size) 0) :: Lr)) (_ : x1v.Set.length = 4) (_ : Rd kT26 S1 w1 u1z u21 x1v.L) (_ : x1v.L.length = u20) (_ : Els kStr S1 w1 ube x4) (_ : x4.length = nx4) (junk : Nat → Value),
 Goes Tryz.prog (base 121) Jkf ⟨lfr 136 [(1, (pt gx1 0)), (4, .slice (Gp Gx4) nx4 cx4), (6, .i x6)] junk, []⟩ w1 (Done Tryz.prog 121 (Rets (Post.z34 nz wz S0 w0 Lr r)))

def L.z36 : T26 × (List ByteArray) × Int → ((List ByteArray) × Bool) → Prop := fun ⟨x1v, x4, x6⟩ r => ∀ S1 w1, Ext S0 w0 S1 w1 → ∀ gx1 u1z u20 u21 Gx4 nx4 cx4 ube (_ : Hp nz wz S1 w1 ((some gx1, .row 27 (vT26 x1v u1z u20 u21) 8 0) :: (Gx4, .row 9 ube (cx4 * kStr.size) 0) :: Lr)) (_ : x1v.Set.length = 4) (_ : Rd kT26 S1 w1 u1z u21 x1v.L) (_ : x1v.L.length = u20) (_ : Els kStr S1 w1 ube x4) (_ : x4.length = nx4) (junk : Nat → Value),
 Goes Tryz.prog (base 121) Jkh ⟨lfr 136 [(1, (pt gx1 0)), (4, .slice (Gp Gx4) nx4 cx4), (6, .i x6)] junk, []⟩ w1 (Done Tryz.prog 121 (Rets (Post.z34 nz wz S0 w0 Lr r)))

theorem W.z37 {nz wz S0 w0 Lr} : (∀ a r, M.a1k a = some r → (L.z35 nz wz S0 w0 Lr) a r) ∧ (∀ a r, M.a53 a = some r → (L.z36 nz wz S0 w0 Lr) a r) := by
 refine M.a1k.mutual_partial_correctness (L.z35 nz wz S0 w0 Lr) (L.z36 nz wz S0 w0 Lr) ?_ ?_
 ·
  intro ud9 uda ⟨x1v, x4, x6⟩ r h S1 w1 hx gx1 u1z u20 u21 Gx4 nx4 cx4 ube p1 u22 u23 u24 fx4 lx4 junk
  try dsimp only at h
  subst u24
  subst lx4
  refine Gn 6 [(21, .i x6), (22, .bool (decide (x6 < 256)))] (Ys 11101010010001 B121 (Ys 1110101001001 B121 Jke)) ?_
  refine Gi h (fun h25 h => ?_) fun h25 h => ?_
  ·
   rw [dt h25]
   refine Gn 7 [(25, (pt gx1 1))] (Zr Qfw [1, 2, 3, 4] Jkk) ?_
   refine Goes.ldN 24 (.tmp 25) 26 24 ⟨gx1, 1, none⟩ (U4 x1v.Set []) (p1.pa 0 1) ?_
   refine Gn 2 [(27, .i x6), (28, .int .u8 (wr .u8 x6))] (Zr Qfw [4] Jkk) ?_
   refine Gb h fun y26 e27 h => ?_
   refine Gc (kc 191 [26, 28] #[24, 5]) 29 4 191 _ (W.z33 x1v.Set (wr .u8 x6) y26 e27 _ p1 (els_mk4 (S := S1) (w := w1) (k := .u64) u22) rfl) ?_
   rintro _ w6 ⟨S6, rfl, z6, p6⟩
   refine Gn 1 [] Jkk ?_
   refine Gi h (fun h28 h => ?_) fun h28 h => ?_
   ·
    rw [h28]
    refine Gn 5 [(30, .slice (Gp Gx4) x4.length cx4), (31, .i x6), (32, .int .u8 (wr .u8 x6))] (Yt 11101010010010010 B121 [3, 4, 5, 6, 7] Jkh) ?_
    have f30 : Els (kInt .u8) S6 w6 ([.int .u8 (wr .u8 x6)] : List Value) [wr .u8 x6] := by exact (Els.cons (K := (kInt .u8)) (vs := [.int .u8 (wr .u8 x6)]) (x := wr .u8 x6) rfl Els.nil)
    refine Om (.buildSlice 141 1 #[(0, (.tmp 32))]) 33 141 (fun b => .slice (Gp (some b)) 1 1) 5 ([.int .u8 (wr .u8 x6)] : List Value) (1 * (kInt .u8).size) p6 Goes.v fun b29 w7 z7 p7 => ?_
    obtain ⟨S8, z8, p8, f32⟩ := p7.freezeRd 0 rfl (f30.ext z7) (by decide)
    refine Op_.b2s_n 141 9 (.tmp 33) 34 9 5 (b2s [wr .u8 x6]) rfl rfl f32 Goes.v (by kernel_rfl) (by kernel_rfl) (by kernel_rfl) (by kernel_rfl) ?_
    have f34 : Els kStr S8 w7 ([.string (b2s [wr .u8 x6])] : List Value) [b2s [wr .u8 x6]] := by exact (Els.cons (K := kStr) (vs := [.string (b2s [wr .u8 x6])]) (x := b2s [wr .u8 x6]) rfl Els.nil)
    refine Om (.buildSlice 43 1 #[(0, (.tmp 34))]) 35 43 (fun b => .slice (Gp (some b)) 1 1) 9 ([.string (b2s [wr .u8 x6])] : List Value) (1 * kStr.size) p8 Goes.v fun b33 w9 z9 p9 => ?_
    refine Gg h fun g39 h => ?_
    refine On (K := kStr) 43 (.tmp 30) (.tmp 35) 36 43 9 3 (.string ⟨#[]⟩) 16 x4.length cx4 1 x4 [b2s [wr .u8 x6]] (x4 ++ [b2s [wr .u8 x6]]) (Gp (some b33)) 1 rfl rfl rfl p9 rfl (fx4.ext (((z6.t z7).t z8).t z9)) Goes.v (f34.ext z9) (src_own p9 (q := 0) rfl) g39 fun w10 G40 c41 udb z10 p10 f43 => ?_
    refine Gn 2 [(4, .slice (Gp G40) ((x4 ++ [b2s [wr .u8 x6]]).length) c41)] Jkh ?_
    have p10 := (p10.dp 0).dp 0
    exact Gj 136 [(1, (pt gx1 0)), (4, .slice (Gp G40) ((x4 ++ [b2s [wr .u8 x6]]).length) c41), (6, .i x6)] (uda _ _ h _ _ (((((hx.t z6).t z7).t z8).t z9).t z10) _ _ _ _ _ _ _ _ p10 u22 (u23.ext ((((z6.t z7).t z8).t z9).t z10)) rfl f43 rfl)
   ·
    rw [bf h28]
    refine Gn 2 [] Jkh ?_
    exact Gj 136 [(1, (pt gx1 0)), (4, .slice (Gp Gx4) x4.length cx4), (6, .i x6)] (uda _ _ h _ _ (hx.t z6) _ _ _ _ _ _ _ _ p6 u22 (u23.ext z6) rfl (fx4.ext z6) rfl)
  ·
   rw [df h25]
   refine Gm 11 [([37, 38, 2], .slice (Gp Gx4) x4.length cx4), ([39], .i (x4.length : Int)), ([40, 3], .bool (decide ((x4.length : Int) ≤ 8)))] (Ys 1110101011 B121 Jkb) ?_
   obtain rfl := sj h
   have p1 := p1.dp 0
   exact Goes.rt Tryz.f121 (.tuple #[.slice (Gp Gx4) x4.length cx4, .bool (decide ((x4.length : Int) ≤ 8))]) ⟨_, _, _, _, _, rfl, hx, p1, fx4, rfl⟩
 ·
  intro udd ude ⟨x1v, x4, x6⟩ r h S1 w1 hx gx1 u1z u20 u21 Gx4 nx4 cx4 ube p1 u22 u23 u24 fx4 lx4 junk
  try dsimp only at h
  subst u24
  subst lx4
  refine Gm 7 [([23], .i x6), ([24, 6], .i (wr .i64 (x6 + 1)))] Jkf ?_
  exact Gj 136 [(1, (pt gx1 0)), (4, .slice (Gp Gx4) x4.length cx4), (6, .i (wr .i64 (x6 + 1)))] (ude _ _ h _ _ hx _ _ _ _ _ _ _ _ p1 u22 u23 rfl fx4 rfl)

theorem W.z35 {nz wz S0 w0 Lr} : ∀ a r, M.a1k a = some r → (L.z35 nz wz S0 w0 Lr) a r := (W.z37).1

theorem W.z36 {nz wz S0 w0 Lr} : ∀ a r, M.a53 a = some r → (L.z36 nz wz S0 w0 Lr) a r := (W.z37).2

def Qg0 := Yq 1110100 B60
def Jkr := Zl Qg0 (Zb 0 (Ys 1111 B60 []))
def Jks := Zc Qg0 Jkr
def Jku := Zb 1 (Ys 111010011 B60 Jkr)
def Qg3 := Yq 11101001001000 B60
def Jkx := Zl Qg3 (Zb 2 (Ys 111010010011 B60 Jku))
def Jky := Zc Qg3 Jkx
def Jl0 := Ys 1110100100100001 B60 (Ys 111010010010001 B60 Jkx)
def Jl1 := Ys 1110100100111 B60 Jku
def Jl2 := Ys 11101001001101 B60 Jl1

def Post.z38 (r : List ByteArray) (v : Value) (w' : World) : Prop :=
 ∃ S' Gq nq cq csq, v = .slice (Gp Gq) nq cq ∧ Ext S0 w0 S' w' ∧ Hp nz wz S' w' ((Gq, .row 9 csq (cq * kStr.size) 0) :: Lr) ∧ Els kStr S' w' csq r ∧ r.length = nq

def L.z39 : (List ByteArray) × (List ByteArray) × Int → (List ByteArray) → Prop := fun ⟨x0, x3, x4⟩ r => ∀ S1 w1, Ext S0 w0 S1 w1 → ∀ Ax0 nx0 cx0 Gx3 nx3 cx3 u2l (_ : Hp nz wz S1 w1 ((Gx3, .row 9 u2l (cx3 * kStr.size) 0) :: Lr)) (_ : Rd kStr S1 w1 Ax0 cx0 x0) (_ : x0.length = nx0) (_ : Els kStr S1 w1 u2l x3) (_ : x3.length = nx3) (junk : Nat → Value),
 Goes Tryz.prog (base 60) Jks ⟨lfr 59 [(0, .slice Ax0 nx0 cx0), (3, .slice (Gp Gx3) nx3 cx3), (4, .i x4)] junk, []⟩ w1 (Done Tryz.prog 60 (Rets (Post.z38 nz wz S0 w0 Lr r)))

def L.z3a : (List ByteArray) × (List ByteArray) × Int × Int → (List ByteArray) → Prop := fun ⟨x0, x3, x4, x5⟩ r => ∀ S1 w1, Ext S0 w0 S1 w1 → ∀ Ax0 nx0 cx0 Gx3 nx3 cx3 u2l (_ : Hp nz wz S1 w1 ((Gx3, .row 9 u2l (cx3 * kStr.size) 0) :: Lr)) (_ : Rd kStr S1 w1 Ax0 cx0 x0) (_ : x0.length = nx0) (_ : Els kStr S1 w1 u2l x3) (_ : x3.length = nx3) (junk : Nat → Value),
 Goes Tryz.prog (base 60) Jky ⟨lfr 59 [(0, .slice Ax0 nx0 cx0), (3, .slice (Gp Gx3) nx3 cx3), (4, .i x4), (5, .i x5)] junk, []⟩ w1 (Done Tryz.prog 60 (Rets (Post.z38 nz wz S0 w0 Lr r)))

def L.z3b : (List ByteArray) × (List ByteArray) × Int × Int × Bool → (List ByteArray) → Prop := fun ⟨x0, x3, x4, x5, x27⟩ r => ∀ S1 w1, Ext S0 w0 S1 w1 → ∀ Ax0 nx0 cx0 Gx3 nx3 cx3 u2l (_ : Hp nz wz S1 w1 ((Gx3, .row 9 u2l (cx3 * kStr.size) 0) :: Lr)) (_ : Rd kStr S1 w1 Ax0 cx0 x0) (_ : x0.length = nx0) (_ : Els kStr S1 w1 u2l x3) (_ : x3.length = nx3) (junk : Nat → Value),
 Goes Tryz.prog (base 60) Jl0 ⟨lfr 59 [(0, .slice Ax0 nx0 cx0), (3, .slice (Gp Gx3) nx3 cx3), (4, .i x4), (5, .i x5), (27, .bool x27)] junk, []⟩ w1 (Done Tryz.prog 60 (Rets (Post.z38 nz wz S0 w0 Lr r)))

def L.z3c : (List ByteArray) × (List ByteArray) × Int × Int × Bool → (List ByteArray) → Prop := fun ⟨x0, x3, x4, x5, x44⟩ r => ∀ S1 w1, Ext S0 w0 S1 w1 → ∀ Ax0 nx0 cx0 Gx3 nx3 cx3 u2l (_ : Hp nz wz S1 w1 ((Gx3, .row 9 u2l (cx3 * kStr.size) 0) :: Lr)) (_ : Rd kStr S1 w1 Ax0 cx0 x0) (_ : x0.length = nx0) (_ : Els kStr S1 w1 u2l x3) (_ : x3.length = nx3) (junk : Nat → Value),
 Goes Tryz.prog (base 60) Jl2 ⟨lfr 59 [(0, .slice Ax0 nx0 cx0), (3, .slice (Gp Gx3) nx3 cx3), (4, .i x4), (5, .i x5), (44, .bool x44)] junk, []⟩ w1 (Done Tryz.prog 60 (Rets (Post.z38 nz wz S0 w0 Lr r)))

theorem W.z3d {nz wz S0 w0 Lr} : (∀ a r, M.au a = some r → (L.z39 nz wz S0 w0 Lr) a r) ∧ (∀ a r, M.a3w a = some r → (L.z3a nz wz S0 w0 Lr) a r) ∧ (∀ a r, M.a54 a = some r → (L.z3b nz wz S0 w0 Lr) a r) ∧ (∀ a r, M.a3x a = some r → (L.z3c nz wz S0 w0 Lr) a r) := by
 refine M.au.mutual_partial_correctness (L.z39 nz wz S0 w0 Lr) (L.z3a nz wz S0 w0 Lr) (L.z3b nz wz S0 w0 Lr) (L.z3c nz wz S0 w0 Lr) ?_ ?_ ?_ ?_
 ·
  intro udf udg ⟨x0, x3, x4⟩ r h S1 w1 hx Ax0 nx0 cx0 Gx3 nx3 cx3 u2l p1 fx0 lx0 fx3 lx3 junk
  try dsimp only at h
  subst lx0
  subst lx3
  refine Gn 8 [(7, .i x4), (8, .slice Ax0 x0.length cx0), (9, .i (x0.length : Int)), (10, .bool (decide (x4 < (x0.length : Int))))] (Ys 111010001 B60 (Ys 11101001 B60 Jkr)) ?_
  refine Gi h (fun h5 h => ?_) fun h5 h => ?_
  ·
   rw [dt h5]
   refine Gn 11 [(5, .i 0)] Jky ?_
   exact Gj 59 [(0, .slice Ax0 x0.length cx0), (3, .slice (Gp Gx3) x3.length cx3), (4, .i x4), (5, .i 0)] (udg _ _ h _ _ hx _ _ _ _ _ _ _ p1 fx0 rfl fx3 rfl)
  ·
   rw [df h5]
   refine Gm 7 [([58, 2], .slice (Gp Gx3) x3.length cx3)] (Ys 11111 B60 []) ?_
   obtain rfl := sj h
   exact Goes.rt Tryz.f60 (.slice (Gp Gx3) x3.length cx3) ⟨_, _, _, _, _, rfl, hx, p1, fx3, rfl⟩
 ·
  intro udh udi ⟨x0, x3, x4, x5⟩ r h S1 w1 hx Ax0 nx0 cx0 Gx3 nx3 cx3 u2l p1 fx0 lx0 fx3 lx3 junk
  try dsimp only at h
  subst lx0
  subst lx3
  refine Gn 2 [] (Ys 1110100100100000 B60 Jl0) ?_
  have z3 : Ext S1 w1 S1 (w1).drew := Ext.draw
  have p3 := p1.draw
  refine Gd [] (Fc S1 (w1).drew ([] ++ (rowCellsO Gx3 u2l ++ []))) 6 15 ?_
  generalize (w1).drew = w3 at z3 p3 ⊢
  refine AnyG.pu 0 (.move (.tmp 5)) 13 3 (.i x5) (Fc.here (Cells.app trivial (Cells.app (Cells.rowO (p3.mem 0 rfl)) trivial))) ?_
  refine AnyG.pu 1 (.move (.tmp 3)) 14 43 (.slice (Gp Gx3) x3.length cx3) (Fc.here (Cells.app trivial (Cells.app (Cells.rowO (p3.mem 0 rfl)) trivial))) ?_
  refine AnyG.pu 2 (.call { callee := .builtin .len, args := #[(.tmp 14)], argTypes := #[43] }) 15 3 (.i (x3.length : Int)) (Fc.here (Cells.app trivial (Cells.app (Cells.rowO (p3.mem 0 rfl)) trivial))) ?_
  refine AnyG.pu 3 (.binOp .lss 3 (.tmp 13) (.tmp 15) 3) 16 4 (.bool (decide (x5 < (x3.length : Int)))) (Fc.here (Cells.app trivial (Cells.app (Cells.rowO (p3.mem 0 rfl)) trivial))) ?_
  refine AnyG.pu 4 (.move (.tmp 16)) 17 4 (.bool (decide (x5 < (x3.length : Int)))) (Fc.here (Cells.app trivial (Cells.app (Cells.rowO (p3.mem 0 rfl)) trivial))) ?_
  refine Gi h (fun h7 h => ?_) fun h7 h => ?_
  ·
   rw [dt h7]
   refine AnyG.pu 5 (.move (.tmp 3)) 18 43 (.slice (Gp Gx3) x3.length cx3) (Fc.here (Cells.app trivial (Cells.app (Cells.rowO (p3.mem 0 rfl)) trivial))) ?_
   refine AnyG.pu 6 (.move (.tmp 5)) 19 3 (.i x5) (Fc.here (Cells.app trivial (Cells.app (Cells.rowO (p3.mem 0 rfl)) trivial))) ?_
   refine Gg h fun g8 h => ?_
   refine AnyG.ixO_n (i := 7) 43 (.tmp 18) (.tmp 19) 20 0 9 .i64 x5 0 x3.length cx3 (gi x3 x5) rfl rfl p3 rfl (fx3.ext z3) (by kernel_rfl) (by kernel_rfl) (Fc.here (Cells.app trivial (Cells.app (Cells.rowO (p3.mem 0 rfl)) trivial))) (by kernel_rfl) (by kernel_rfl) (by kernel_rfl) (by kernel_rfl) (by decide) g8 h7 ?_
   rintro b9 _ rfl q11 f13 f10
   obtain rfl := q11
   refine Al 8 9 (.tmp 20) 21 9 ⟨b9, (x5 : Int).toNat * kStr.size, none⟩ (.string (gi x3 x5)) (Fc.here (Cells.app trivial (Cells.app (Cells.rowO (p3.mem 0 rfl)) trivial))) (fun _ h => h.2.right.left.rowAt (f13 0 _ rfl)) ?_
   refine AnyG.pu 9 (.move (.tmp 0)) 22 43 (.slice Ax0 x0.length cx0) (Fc.here (Cells.app trivial (Cells.app (Cells.rowO (p3.mem 0 rfl)) trivial))) ?_
   refine AnyG.pu 10 (.move (.tmp 4)) 23 3 (.i x4) (Fc.here (Cells.app trivial (Cells.app (Cells.rowO (p3.mem 0 rfl)) trivial))) ?_
   refine Gg h fun g14 h => ?_
   refine Gg h fun g15 h => ?_
   refine AnyG.ixR_n (i := 11) 43 (.tmp 22) (.tmp 23) 24 0 9 .i64 x4 (gi x0 x4) rfl rfl (fx0.ext z3) (by kernel_rfl) (by kernel_rfl) (Fc.here (Cells.app trivial (Cells.app (Cells.rowO (p3.mem 0 rfl)) trivial))) (by kernel_rfl) (by kernel_rfl) (by kernel_rfl) (by kernel_rfl) g14 g15 fun a16 _ f17 q18 => ?_
   obtain rfl := q18
   refine Al 12 9 (.tmp 24) 25 9 a16 (.string (gi x0 x4)) (Fc.here (Cells.app trivial (Cells.app (Cells.rowO (p3.mem 0 rfl)) trivial))) (fun _ h => f17.fc h 0 _ rfl) ?_
   refine AnyG.pu 13 (.binOp .lss 9 (.tmp 21) (.tmp 25) 9) 26 4 (.bool (Op.bytesLess (gi x3 x5).toList (gi x0 x4).toList)) (Fc.here (Cells.app trivial (Cells.app (Cells.rowO (p3.mem 0 rfl)) trivial))) ?_
   refine AnyG.pu 14 (.pick (.tmp 17) (.tmp 26) (.const (.bool false))) 27 4 (.bool (Op.bytesLess (gi x3 x5).toList (gi x0 x4).toList)) (Fc.here (Cells.app trivial (Cells.app (Cells.rowO (p3.mem 0 rfl)) trivial))) ?_
   refine Ad ?_
   exact Gj 59 [(0, .slice Ax0 x0.length cx0), (3, .slice (Gp (some b9)) x3.length cx3), (4, .i x4), (5, .i x5), (27, .bool (Op.bytesLess (gi x3 x5).toList (gi x0 x4).toList))] (udi _ _ h _ _ (hx.t z3) _ _ _ (some b9) _ _ _ p3 (fx0.ext z3) rfl (fx3.ext z3) rfl)
  ·
   rw [df h7]
   refine AnyG.s1 5 18 (Fc.here (Cells.app trivial (Cells.app (Cells.rowO (p3.mem 0 rfl)) trivial))) ?_
   refine AnyG.s1 6 19 (Fc.here (Cells.app trivial (Cells.app (Cells.rowO (p3.mem 0 rfl)) trivial))) ?_
   refine AnyG.s1 7 20 (Fc.here (Cells.app trivial (Cells.app (Cells.rowO (p3.mem 0 rfl)) trivial))) ?_
   refine AnyG.s1 8 21 (Fc.here (Cells.app trivial (Cells.app (Cells.rowO (p3.mem 0 rfl)) trivial))) ?_
   refine AnyG.s1 9 22 (Fc.here (Cells.app trivial (Cells.app (Cells.rowO (p3.mem 0 rfl)) trivial))) ?_
   refine AnyG.s1 10 23 (Fc.here (Cells.app trivial (Cells.app (Cells.rowO (p3.mem 0 rfl)) trivial))) ?_
   refine AnyG.s1 11 24 (Fc.here (Cells.app trivial (Cells.app (Cells.rowO (p3.mem 0 rfl)) trivial))) ?_
   refine AnyG.s1 12 25 (Fc.here (Cells.app trivial (Cells.app (Cells.rowO (p3.mem 0 rfl)) trivial))) ?_
   refine AnyG.s1 13 26 (Fc.here (Cells.app trivial (Cells.app (Cells.rowO (p3.mem 0 rfl)) trivial))) ?_
   refine AnyG.pu 14 (.pick (.tmp 17) (.tmp 26) (.const (.bool false))) 27 4 (.bool false) (Fc.here (Cells.app trivial (Cells.app (Cells.rowO (p3.mem 0 rfl)) trivial))) ?_
   refine Ad ?_
   exact Gj 59 [(0, .slice Ax0 x0.length cx0), (3, .slice (Gp Gx3) x3.length cx3), (4, .i x4), (5, .i x5), (27, .bool false)] (udi _ _ h _ _ (hx.t z3) _ _ _ _ _ _ _ p3 (fx0.ext z3) rfl (fx3.ext z3) rfl)
 ·
  intro udf udj udg udk ⟨x0, x3, x4, x5, x27⟩ r h S1 w1 hx Ax0 nx0 cx0 Gx3 nx3 cx3 u2l p1 fx0 lx0 fx3 lx3 junk
  try dsimp only at h
  subst lx0
  subst lx3
  refine Gi h (fun h20 h => ?_) fun h20 h => ?_
  ·
   rw [h20]
   refine Gm 10 [([28], .i x5), ([29, 5], .i (wr .i64 (x5 + 1)))] Jky ?_
   exact Gj 59 [(0, .slice Ax0 x0.length cx0), (3, .slice (Gp Gx3) x3.length cx3), (4, .i x4), (5, .i (wr .i64 (x5 + 1)))] (udg _ _ h _ _ hx _ _ _ _ _ _ _ p1 fx0 rfl fx3 rfl)
  ·
   rw [bf h20]
   refine Gn 4 [] (Ys 11101001001100 B60 Jl2) ?_
   have z4 : Ext S1 w1 S1 (w1).drew := Ext.draw
   have p4 := p1.draw
   refine Gd [] (Fc S1 (w1).drew ([] ++ (rowCellsO Gx3 u2l ++ []))) 8 15 ?_
   generalize (w1).drew = w4 at z4 p4 ⊢
   refine AnyG.pu 0 (.move (.tmp 5)) 30 3 (.i x5) (Fc.here (Cells.app trivial (Cells.app (Cells.rowO (p4.mem 0 rfl)) trivial))) ?_
   refine AnyG.pu 1 (.move (.tmp 3)) 31 43 (.slice (Gp Gx3) x3.length cx3) (Fc.here (Cells.app trivial (Cells.app (Cells.rowO (p4.mem 0 rfl)) trivial))) ?_
   refine AnyG.pu 2 (.call { callee := .builtin .len, args := #[(.tmp 31)], argTypes := #[43] }) 32 3 (.i (x3.length : Int)) (Fc.here (Cells.app trivial (Cells.app (Cells.rowO (p4.mem 0 rfl)) trivial))) ?_
   refine AnyG.pu 3 (.binOp .lss 3 (.tmp 30) (.tmp 32) 3) 33 4 (.bool (decide (x5 < (x3.length : Int)))) (Fc.here (Cells.app trivial (Cells.app (Cells.rowO (p4.mem 0 rfl)) trivial))) ?_
   refine AnyG.pu 4 (.move (.tmp 33)) 34 4 (.bool (decide (x5 < (x3.length : Int)))) (Fc.here (Cells.app trivial (Cells.app (Cells.rowO (p4.mem 0 rfl)) trivial))) ?_
   refine Gi h (fun h21 h => ?_) fun h21 h => ?_
   ·
    rw [dt h21]
    refine AnyG.pu 5 (.move (.tmp 3)) 35 43 (.slice (Gp Gx3) x3.length cx3) (Fc.here (Cells.app trivial (Cells.app (Cells.rowO (p4.mem 0 rfl)) trivial))) ?_
    refine AnyG.pu 6 (.move (.tmp 5)) 36 3 (.i x5) (Fc.here (Cells.app trivial (Cells.app (Cells.rowO (p4.mem 0 rfl)) trivial))) ?_
    refine Gg h fun g22 h => ?_
    refine AnyG.ixO_n (i := 7) 43 (.tmp 35) (.tmp 36) 37 0 9 .i64 x5 0 x3.length cx3 (gi x3 x5) rfl rfl p4 rfl (fx3.ext z4) (by kernel_rfl) (by kernel_rfl) (Fc.here (Cells.app trivial (Cells.app (Cells.rowO (p4.mem 0 rfl)) trivial))) (by kernel_rfl) (by kernel_rfl) (by kernel_rfl) (by kernel_rfl) (by decide) g22 h21 ?_
    rintro b23 _ rfl q25 f27 f24
    obtain rfl := q25
    refine Al 8 9 (.tmp 37) 38 9 ⟨b23, (x5 : Int).toNat * kStr.size, none⟩ (.string (gi x3 x5)) (Fc.here (Cells.app trivial (Cells.app (Cells.rowO (p4.mem 0 rfl)) trivial))) (fun _ h => h.2.right.left.rowAt (f27 0 _ rfl)) ?_
    refine AnyG.pu 9 (.move (.tmp 0)) 39 43 (.slice Ax0 x0.length cx0) (Fc.here (Cells.app trivial (Cells.app (Cells.rowO (p4.mem 0 rfl)) trivial))) ?_
    refine AnyG.pu 10 (.move (.tmp 4)) 40 3 (.i x4) (Fc.here (Cells.app trivial (Cells.app (Cells.rowO (p4.mem 0 rfl)) trivial))) ?_
    refine Gg h fun g28 h => ?_
    refine Gg h fun g29 h => ?_
    refine AnyG.ixR_n (i := 11) 43 (.tmp 39) (.tmp 40) 41 0 9 .i64 x4 (gi x0 x4) rfl rfl (fx0.ext z4) (by kernel_rfl) (by kernel_rfl) (Fc.here (Cells.app trivial (Cells.app (Cells.rowO (p4.mem 0 rfl)) trivial))) (by kernel_rfl) (by kernel_rfl) (by kernel_rfl) (by kernel_rfl) g28 g29 fun a30 _ f31 q32 => ?_
    obtain rfl := q32
    refine Al 12 9 (.tmp 41) 42 9 a30 (.string (gi x0 x4)) (Fc.here (Cells.app trivial (Cells.app (Cells.rowO (p4.mem 0 rfl)) trivial))) (fun _ h => f31.fc h 0 _ rfl) ?_
    refine AnyG.pu 13 (.binOp .eql 9 (.tmp 38) (.tmp 42) 9) 43 4 (.bool ((gi x3 x5).toList == (gi x0 x4).toList)) (Fc.here (Cells.app trivial (Cells.app (Cells.rowO (p4.mem 0 rfl)) trivial))) ?_
    refine AnyG.pu 14 (.pick (.tmp 34) (.tmp 43) (.const (.bool false))) 44 4 (.bool ((gi x3 x5).toList == (gi x0 x4).toList)) (Fc.here (Cells.app trivial (Cells.app (Cells.rowO (p4.mem 0 rfl)) trivial))) ?_
    refine Ad ?_
    exact Gj 59 [(0, .slice Ax0 x0.length cx0), (3, .slice (Gp (some b23)) x3.length cx3), (4, .i x4), (5, .i x5), (44, .bool ((gi x3 x5).toList == (gi x0 x4).toList))] (udk _ _ h _ _ (hx.t z4) _ _ _ (some b23) _ _ _ p4 (fx0.ext z4) rfl (fx3.ext z4) rfl)
   ·
    rw [df h21]
    refine AnyG.s1 5 35 (Fc.here (Cells.app trivial (Cells.app (Cells.rowO (p4.mem 0 rfl)) trivial))) ?_
    refine AnyG.s1 6 36 (Fc.here (Cells.app trivial (Cells.app (Cells.rowO (p4.mem 0 rfl)) trivial))) ?_
    refine AnyG.s1 7 37 (Fc.here (Cells.app trivial (Cells.app (Cells.rowO (p4.mem 0 rfl)) trivial))) ?_
    refine AnyG.s1 8 38 (Fc.here (Cells.app trivial (Cells.app (Cells.rowO (p4.mem 0 rfl)) trivial))) ?_
    refine AnyG.s1 9 39 (Fc.here (Cells.app trivial (Cells.app (Cells.rowO (p4.mem 0 rfl)) trivial))) ?_
    refine AnyG.s1 10 40 (Fc.here (Cells.app trivial (Cells.app (Cells.rowO (p4.mem 0 rfl)) trivial))) ?_
    refine AnyG.s1 11 41 (Fc.here (Cells.app trivial (Cells.app (Cells.rowO (p4.mem 0 rfl)) trivial))) ?_
    refine AnyG.s1 12 42 (Fc.here (Cells.app trivial (Cells.app (Cells.rowO (p4.mem 0 rfl)) trivial))) ?_
    refine AnyG.s1 13 43 (Fc.here (Cells.app trivial (Cells.app (Cells.rowO (p4.mem 0 rfl)) trivial))) ?_
    refine AnyG.pu 14 (.pick (.tmp 34) (.tmp 43) (.const (.bool false))) 44 4 (.bool false) (Fc.here (Cells.app trivial (Cells.app (Cells.rowO (p4.mem 0 rfl)) trivial))) ?_
    refine Ad ?_
    exact Gj 59 [(0, .slice Ax0 x0.length cx0), (3, .slice (Gp Gx3) x3.length cx3), (4, .i x4), (5, .i x5), (44, .bool false)] (udk _ _ h _ _ (hx.t z4) _ _ _ _ _ _ _ p4 (fx0.ext z4) rfl (fx3.ext z4) rfl)
 ·
  intro udl udm ⟨x0, x3, x4, x5, x44⟩ r h S1 w1 hx Ax0 nx0 cx0 Gx3 nx3 cx3 u2l p1 fx0 lx0 fx3 lx3 junk
  try dsimp only at h
  subst lx0
  subst lx3
  refine Gi h (fun h34 h => ?_) fun h34 h => ?_
  ·
   rw [h34]
   refine Gm 8 [([11], .i x4), ([12, 4], .i (wr .i64 (x4 + 1)))] Jks ?_
   exact Gj 59 [(0, .slice Ax0 x0.length cx0), (3, .slice (Gp Gx3) x3.length cx3), (4, .i (wr .i64 (x4 + 1)))] (udm _ _ h _ _ hx _ _ _ _ _ _ _ p1 fx0 rfl fx3 rfl)
  ·
   rw [bf h34]
   refine Gn 2 [] Jl1 ?_
   have z5 : Ext S1 w1 S1 (w1).drew := Ext.draw
   have p5 := p1.draw
   refine Gd [12] (Fc S1 (w1).drew []) 9 14 ?_
   generalize (w1).drew = w5 at z5 p5 ⊢
   refine AnyG.pu 0 (.move (.tmp 3)) 45 43 (.slice (Gp Gx3) x3.length cx3) (Fc.here trivial) ?_
   refine AnyG.pu 1 (.move (.tmp 5)) 46 3 (.i x5) (Fc.here trivial) ?_
   refine Gg h fun g35 h => ?_
   refine Gg h fun g36 h => ?_
   refine AnyG.slP (K := kStr) (i := 2) 43 (.tmp 45) (some (.tmp 46)) 47 43 9 x5 0 rfl p5 rfl (by decide) (fx3.ext z5) (by kernel_rfl) (by kernel_rfl) (Fc.here trivial) (by kernel_rfl) (by kernel_rfl) (by kernel_rfl) (Bnd.at_ .i64 (by kernel_rfl)) g35 g36 ?_
   refine AnyG.pu 3 (.move (.tmp 0)) 48 43 (.slice Ax0 x0.length cx0) (Fc.here trivial) ?_
   refine AnyG.pu 4 (.move (.tmp 4)) 49 3 (.i x4) (Fc.here trivial) ?_
   refine Gg h fun g37 h => ?_
   refine Gg h fun g38 h => ?_
   refine AnyG.ixR_n (i := 5) 43 (.tmp 48) (.tmp 49) 50 0 9 .i64 x4 (gi x0 x4) rfl rfl (fx0.ext z5) (by kernel_rfl) (by kernel_rfl) (Fc.here trivial) (by kernel_rfl) (by kernel_rfl) (by kernel_rfl) (by kernel_rfl) g37 g38 fun a39 _ f40 q41 => ?_
   obtain rfl := q41
   refine Al 6 9 (.tmp 50) 51 9 a39 (.string (gi x0 x4)) (Fc.here trivial) (fun _ h => f40.fc h 0 _ rfl) ?_
   refine AnyG.pu 8 (.move (.tmp 3)) 53 43 (.slice (Gp Gx3) x3.length cx3) (Fc.here trivial) ?_
   refine AnyG.pu 9 (.move (.tmp 5)) 54 3 (.i x5) (Fc.here trivial) ?_
   refine AnyG.slV (K := kStr) (i := 10) 43 (.tmp 53) (some (.tmp 54)) none 55 43 9 x5 (x3.length : Int) 0 rfl p5 rfl (by decide) (fx3.ext z5) (by kernel_rfl) (by kernel_rfl) (Fc.here trivial) (by kernel_rfl) (by kernel_rfl) (by kernel_rfl) (Bnd.at_ .i64 (by kernel_rfl)) Bnd.no g35 g36 (Int.le_refl _) ?_
   have f43 : Els kStr S1 w5 ([.string (gi x0 x4)] : List Value) [gi x0 x4] := by exact (Els.cons (K := kStr) (vs := [.string (gi x0 x4)]) (x := gi x0 x4) rfl Els.nil)
   refine Om (.buildSlice 43 1 #[(0, (.tmp 51))]) 52 43 (fun b => .slice (Gp (some b)) 1 1) 9 ([.string (gi x0 x4)] : List Value) (1 * kStr.size) p5 (Av 7) fun b42 w6 z6 p6 => ?_
   refine AnyG.next z6 trivial ?_
   obtain ⟨udo, f49, f50, f51⟩ := src_winI (K := kStr) p6 (q := 1) rfl rfl (by decide) (fx3.ext (z5.t z6)) g35 g36 (Int.le_refl _)
   refine Gg h fun g52 h => ?_
   refine On (K := kStr) 43 (.tmp 52) (.tmp 55) 56 43 9 0 (.string ⟨#[]⟩) 16 1 1 (((x3.length : Int) : Int).toNat - (x5 : Int).toNat) [gi x0 x4] (sl x3 x5 (x3.length : Int)) ([gi x0 x4] ++ (sl x3 x5 (x3.length : Int))) (winA Gx3 (x5 : Int).toNat cx3 kStr.size) (cx3 - (x5 : Int).toNat) rfl f51 rfl p6 rfl (f43.ext z6) (Av 11) f49 f50 g52 fun w7 G53 c54 udp z7 p7 f56 => ?_
   refine AnyG.next z7 trivial ?_
   obtain ⟨p7, f57⟩ := p7.trunc (K := kStr) 1 rfl (fx3.ext ((z5.t z6).t z7)) ((x5 : Int).toNat)
   refine Gl h fun v61 e62 h => ?_
   refine Gg h fun g63 h => ?_
   refine On (K := kStr) 43 (.tmp 47) (.tmp 56) 57 43 9 1 (.string ⟨#[]⟩) 16 ((x5 : Int).toNat) cx3 (([gi x0 x4] ++ (sl x3 x5 (x3.length : Int))).length) (x3.take ((x5 : Int).toNat)) ([gi x0 x4] ++ (sl x3 x5 (x3.length : Int))) v61 (Gp G53) c54 (by have h0 : 0 ≤ (x5 : Int) := g35; have h1 : (x5 : Int) ≤ (x3.length : Int) := g36; have h2 : x3.length = x3.length := rfl; rw [List.length_take, h2]; omega) rfl e62 p7 rfl f57 (Av 12) f56 (src_own p7 (q := 0) rfl) g63 fun w8 G64 c65 udq z8 p8 f67 => ?_
   refine AnyG.last [] (Fc S1 w8 []) (by decide) ?_
   refine AnyG.pu 13 (.assign (.tmp 57)) 3 43 (.slice (Gp G64) v61.length c65) (Fc.here trivial) ?_
   refine Ad ?_
   have p8 := p8.dp 0
   refine Gm 7 [([11], .i x4), ([12, 4], .i (wr .i64 (x4 + 1)))] Jks ?_
   exact Gj 59 [(0, .slice Ax0 x0.length cx0), (3, .slice (Gp G64) v61.length c65), (4, .i (wr .i64 (x4 + 1)))] (udm _ _ h _ _ ((((hx.t z5).t z6).t z7).t z8) _ _ _ _ _ _ _ p8 (fx0.ext (((z5.t z6).t z7).t z8)) rfl f67 rfl)

theorem W.z39 {nz wz S0 w0 Lr} : ∀ a r, M.au a = some r → (L.z39 nz wz S0 w0 Lr) a r := (W.z3d).1

theorem W.z3a {nz wz S0 w0 Lr} : ∀ a r, M.a3w a = some r → (L.z3a nz wz S0 w0 Lr) a r := (W.z3d).2.1

theorem W.z3b {nz wz S0 w0 Lr} : ∀ a r, M.a54 a = some r → (L.z3b nz wz S0 w0 Lr) a r := (W.z3d).2.2.1

theorem W.z3c {nz wz S0 w0 Lr} : ∀ a r, M.a3x a = some r → (L.z3c nz wz S0 w0 Lr) a r := (W.z3d).2.2.2


theorem W.z38 (x0 : List ByteArray) (r : List ByteArray) (h : M.a2p x0 = some r) {nz wz S0 w0 Lr} (Ax0 nx0 cx0) (p0 : Hp nz wz S0 w0 (Lr)) (fx0 : Rd kStr S0 w0 Ax0 cx0 x0) (lx0 : x0.length = nx0) :
  Calls Tryz.prog 60 #[.slice Ax0 nx0 cx0] w0 (Rets (Post.z38 nz wz S0 w0 Lr r)) := by
 subst lx0
 refine Zf Tryz.f60 B60 58 ?_
 refine Gj 59 [(0, .slice Ax0 x0.length cx0)] fun junk => ?_
 delta M.a2p at h
 refine Gn 6 [(2, .slice none 0 0)] (Yt 110 B60 [0, 1] (Ys 111 B60 [])) ?_
 have f2 : Els kStr S0 w0 ([] : List Value) ([] : List ByteArray) := by exact Els.nil
 refine Om (.buildSlice 43 0 #[]) 6 43 (fun b => .slice (Gp (some b)) 0 0) 9 ([] : List Value) (0 * kStr.size) p0 Goes.v fun b1 w2 z2 p2 => ?_
 refine Gn 9 [(3, .slice (Gp (some b1)) 0 0), (4, .i 0)] Jks ?_
 exact Gj 59 [(0, .slice Ax0 x0.length cx0), (3, .slice (Gp (some b1)) 0 0), (4, .i 0)] (W.z39 _ _ h _ _ z2 _ _ _ (some b1) 0 0 _ p2 (fx0.ext z2) rfl (f2.ext z2) rfl)

def Qgg := Yq 1110100 B123
def Jlc := Zl Qgg (Zb 0 (Ys 1111 B123 []))
def Jld := Zc Qgg Jlc
def Qgi := Yq 1110100100100 B123
def Jlh := Zl Qgi (Zb 2 (Zb 1 (Ys 111010011 B123 Jlc)))
def Jli := Zc Qgi Jlh
def Jls := Ys 11101001001001001 B123 (Zb 3 (Ys 111010010010011 B123 Jlh))

def Post.z3e (r : (List ByteArray) × Bool) (v : Value) (w' : World) : Prop :=
 ∃ S' ud7 u2e u2f ud8, v = .tuple #[.slice (Gp ud7) u2e u2f, .bool r.2] ∧ Ext S0 w0 S' w' ∧ Hp nz wz S' w' ((ud7, .row 9 ud8 (u2f * kStr.size) 0) :: Lr) ∧ Els kStr S' w' ud8 r.1 ∧ r.1.length = u2e

def L.z3f : (List ByteArray) × (List ByteArray) × (List ByteArray) × Int → ((List ByteArray) × Bool) → Prop := fun ⟨x0, x1, x6, x7⟩ r => ∀ S1 w1, Ext S0 w0 S1 w1 → ∀ Ax0 nx0 cx0 Ax1 nx1 cx1 Gx6 nx6 cx6 u4a (_ : Hp nz wz S1 w1 ((Gx6, .row 9 u4a (cx6 * kStr.size) 0) :: Lr)) (_ : Rd kStr S1 w1 Ax0 cx0 x0) (_ : x0.length = nx0) (_ : Rd kStr S1 w1 Ax1 cx1 x1) (_ : x1.length = nx1) (_ : Els kStr S1 w1 u4a x6) (_ : x6.length = nx6) (junk : Nat → Value),
 Goes Tryz.prog (base 123) Jld ⟨lfr 52 [(0, .slice Ax0 nx0 cx0), (1, .slice Ax1 nx1 cx1), (6, .slice (Gp Gx6) nx6 cx6), (7, .i x7)] junk, []⟩ w1 (Done Tryz.prog 123 (Rets (Post.z3e nz wz S0 w0 Lr r)))

def L.z3g : (List ByteArray) × (List ByteArray) × (List ByteArray) × Int × Int → ((List ByteArray) × Bool) → Prop := fun ⟨x0, x1, x6, x7, x8⟩ r => ∀ S1 w1, Ext S0 w0 S1 w1 → ∀ Ax0 nx0 cx0 Ax1 nx1 cx1 Gx6 nx6 cx6 u4a (_ : Hp nz wz S1 w1 ((Gx6, .row 9 u4a (cx6 * kStr.size) 0) :: Lr)) (_ : Rd kStr S1 w1 Ax0 cx0 x0) (_ : x0.length = nx0) (_ : Rd kStr S1 w1 Ax1 cx1 x1) (_ : x1.length = nx1) (_ : Els kStr S1 w1 u4a x6) (_ : x6.length = nx6) (junk : Nat → Value),
 Goes Tryz.prog (base 123) Jli ⟨lfr 52 [(0, .slice Ax0 nx0 cx0), (1, .slice Ax1 nx1 cx1), (6, .slice (Gp Gx6) nx6 cx6), (7, .i x7), (8, .i x8)] junk, []⟩ w1 (Done Tryz.prog 123 (Rets (Post.z3e nz wz S0 w0 Lr r)))

theorem W.z3h {nz wz S0 w0 Lr} : (∀ a r, M.a29 a = some r → (L.z3f nz wz S0 w0 Lr) a r) ∧ (∀ a r, M.a3y a = some r → (L.z3g nz wz S0 w0 Lr) a r) := by
 refine M.a29.mutual_partial_correctness (L.z3f nz wz S0 w0 Lr) (L.z3g nz wz S0 w0 Lr) ?_ ?_
 ·
  intro udr uds ⟨x0, x1, x6, x7⟩ r h S1 w1 hx Ax0 nx0 cx0 Ax1 nx1 cx1 Gx6 nx6 cx6 u4a p1 fx0 lx0 fx1 lx1 fx6 lx6 junk
  try dsimp only at h
  subst lx0
  subst lx1
  subst lx6
  refine Gn 8 [(10, .i x7), (11, .slice Ax0 x0.length cx0), (12, .i (x0.length : Int)), (13, .bool (decide (x7 < (x0.length : Int))))] (Ys 111010001 B123 (Ys 11101001 B123 Jlc)) ?_
  refine Gi h (fun h5 h => ?_) fun h5 h => ?_
  ·
   rw [dt h5]
   refine Gn 10 [(8, .i 0)] Jli ?_
   exact Gj 52 [(0, .slice Ax0 x0.length cx0), (1, .slice Ax1 x1.length cx1), (6, .slice (Gp Gx6) x6.length cx6), (7, .i x7), (8, .i 0)] (uds _ _ h _ _ hx _ _ _ _ _ _ _ _ _ _ p1 fx0 rfl fx1 rfl fx6 rfl)
  ·
   rw [df h5]
   refine Gn 5 [(46, .slice (Gp Gx6) x6.length cx6)] (Yt 11110 B123 [1, 2] (Ys 11111 B123 [])) ?_
   obtain ⟨S3, z3, p3, f7⟩ := p1.freezeRd 0 rfl fx6 (by decide)
   refine Gb h fun y8 e9 h => ?_
   refine Gc (kc 60 [46] #[43]) 47 43 60 _ (W.z38 x6 y8 e9 _ _ _ p3 f7 rfl) ?_
   rintro _ w4 ⟨S4, ua3, ua4, ua5, ua6, rfl, z4, p4, ua7, rfl⟩
   have p4 := p4.dp 1
   refine Gm 11 [([6, 48, 49, 4], .slice (Gp ua3) y8.length ua5), ([50], .i (y8.length : Int)), ([51, 5], .bool (decide ((y8.length : Int) ≤ 32)))] (Ys 111111 B123 []) ?_
   obtain rfl := sj h
   exact Goes.rt Tryz.f123 (.tuple #[.slice (Gp ua3) y8.length ua5, .bool (decide ((y8.length : Int) ≤ 32))]) ⟨_, _, _, _, _, rfl, ((hx.t z3).t z4), p4, ua7, rfl⟩
 ·
  intro udt udr udu uds ⟨x0, x1, x6, x7, x8⟩ r h S1 w1 hx Ax0 nx0 cx0 Ax1 nx1 cx1 Gx6 nx6 cx6 u4a p1 fx0 lx0 fx1 lx1 fx6 lx6 junk
  try dsimp only at h
  subst lx0
  subst lx1
  subst lx6
  refine Gn 8 [(16, .i x8), (17, .slice Ax1 x1.length cx1), (18, .i (x1.length : Int)), (19, .bool (decide (x8 < (x1.length : Int))))] (Ys 111010010010001 B123 (Ys 11101001001001 B123 Jlh)) ?_
  refine Gi h (fun h11 h => ?_) fun h11 h => ?_
  ·
   rw [dt h11]
   refine Gn 6 [] (Ys 111010010010010000 B123 (Ys 111010010010010001 B123 Jls)) ?_
   have z5 : Ext S1 w1 S1 (w1).drew := Ext.draw
   have p5 := p1.draw
   refine Gd [] (Fc S1 (w1).drew []) 8 12 ?_
   generalize (w1).drew = w5 at z5 p5 ⊢
   refine AnyG.pu 0 (.move (.tmp 0)) 22 43 (.slice Ax0 x0.length cx0) (Fc.here trivial) ?_
   refine AnyG.pu 1 (.move (.tmp 7)) 23 3 (.i x7) (Fc.here trivial) ?_
   refine Gg h fun g12 h => ?_
   refine Gg h fun g13 h => ?_
   refine AnyG.ixR_n (i := 2) 43 (.tmp 22) (.tmp 23) 24 0 9 .i64 x7 (gi x0 x7) rfl rfl (fx0.ext z5) (by kernel_rfl) (by kernel_rfl) (Fc.here trivial) (by kernel_rfl) (by kernel_rfl) (by kernel_rfl) (by kernel_rfl) g12 g13 fun a14 _ f15 q16 => ?_
   obtain rfl := q16
   refine Al 3 9 (.tmp 24) 25 9 a14 (.string (gi x0 x7)) (Fc.here trivial) (fun _ h => f15.fc h 0 _ rfl) ?_
   refine AnyG.pu 4 (.call { callee := .builtin .len, args := #[(.tmp 25)], argTypes := #[9] }) 26 3 (.i ((gi x0 x7).size : Int)) (Fc.here trivial) ?_
   refine AnyG.pu 5 (.move (.tmp 1)) 27 43 (.slice Ax1 x1.length cx1) (Fc.here trivial) ?_
   refine AnyG.pu 6 (.move (.tmp 8)) 28 3 (.i x8) (Fc.here trivial) ?_
   refine Gg h fun g17 h => ?_
   refine AnyG.ixR_n (i := 7) 43 (.tmp 27) (.tmp 28) 29 0 9 .i64 x8 (gi x1 x8) rfl rfl (fx1.ext z5) (by kernel_rfl) (by kernel_rfl) (Fc.here trivial) (by kernel_rfl) (by kernel_rfl) (by kernel_rfl) (by kernel_rfl) g17 h11 fun a18 _ f19 q20 => ?_
   obtain rfl := q20
   refine Al 8 9 (.tmp 29) 30 9 a18 (.string (gi x1 x8)) (Fc.here trivial) (fun _ h => f19.fc h 0 _ rfl) ?_
   refine AnyG.pu 9 (.call { callee := .builtin .len, args := #[(.tmp 30)], argTypes := #[9] }) 31 3 (.i ((gi x1 x8).size : Int)) (Fc.here trivial) ?_
   refine AnyG.pu 10 (.binOp .add 3 (.tmp 26) (.tmp 31) 3) 32 3 (.i (wr .i64 (((gi x0 x7).size : Int) + ((gi x1 x8).size : Int)))) (Fc.here trivial) ?_
   refine AnyG.pu 11 (.binOp .gtr 3 (.tmp 32) (.const (.int .i64 32)) 3) 33 4 (.bool (decide (wr .i64 (((gi x0 x7).size : Int) + ((gi x1 x8).size : Int)) > 32))) (Fc.here trivial) ?_
   refine Ad ?_
   refine Gi h (fun h21 h => ?_) fun h21 h => ?_
   ·
    rw [dt h21]
    refine Gn 6 [(4, .slice none 0 0), (5, .bool false)] (Ys 11101001001001000101 B123 Jls) ?_
    have p5 : Hp nz wz S1 w5 ((none, .row 9 [] (0 * kStr.size) 0) :: (Gx6, .row 9 u4a (cx6 * kStr.size) 0) :: Lr) := p5.nilRow' 9
    obtain rfl := sj h
    have p5 := p5.dp 1
    exact Goes.rt Tryz.f123 (.tuple #[.slice (Gp none) 0 0, .bool false]) ⟨_, _, _, _, _, rfl, (hx.t z5), p5, (Els.nil (K := kStr)), rfl⟩
   ·
    rw [df h21]
    refine Gn 2 [] Jls ?_
    have z6 : Ext S1 w5 S1 (w5).drew := Ext.draw
    have p6 := p5.draw
    refine Gd [11] (Fc S1 (w5).drew []) 10 13 ?_
    generalize (w5).drew = w6 at z6 p6 ⊢
    refine AnyG.pu 0 (.move (.tmp 6)) 34 43 (.slice (Gp Gx6) x6.length cx6) (Fc.here trivial) ?_
    refine AnyG.pu 1 (.move (.tmp 0)) 35 43 (.slice Ax0 x0.length cx0) (Fc.here trivial) ?_
    refine AnyG.pu 2 (.move (.tmp 7)) 36 3 (.i x7) (Fc.here trivial) ?_
    refine AnyG.ixR_n (i := 3) 43 (.tmp 35) (.tmp 36) 37 0 9 .i64 x7 (gi x0 x7) rfl rfl (fx0.ext (z5.t z6)) (by kernel_rfl) (by kernel_rfl) (Fc.here trivial) (by kernel_rfl) (by kernel_rfl) (by kernel_rfl) (by kernel_rfl) g12 g13 fun a23 _ f24 q25 => ?_
    obtain rfl := q25
    refine Al 4 9 (.tmp 37) 38 9 a23 (.string (gi x0 x7)) (Fc.here trivial) (fun _ h => f24.fc h 0 _ rfl) ?_
    refine AnyG.pu 5 (.move (.tmp 1)) 39 43 (.slice Ax1 x1.length cx1) (Fc.here trivial) ?_
    refine AnyG.pu 6 (.move (.tmp 8)) 40 3 (.i x8) (Fc.here trivial) ?_
    refine AnyG.ixR_n (i := 7) 43 (.tmp 39) (.tmp 40) 41 0 9 .i64 x8 (gi x1 x8) rfl rfl (fx1.ext (z5.t z6)) (by kernel_rfl) (by kernel_rfl) (Fc.here trivial) (by kernel_rfl) (by kernel_rfl) (by kernel_rfl) (by kernel_rfl) g17 h11 fun a26 _ f27 q28 => ?_
    obtain rfl := q28
    refine Al 8 9 (.tmp 41) 42 9 a26 (.string (gi x1 x8)) (Fc.here trivial) (fun _ h => f27.fc h 0 _ rfl) ?_
    refine Gg h fun g29 h => ?_
    refine AnyG.cat_n (i := 9) 9 (.tmp 38) (.tmp 42) 9 43 9 (gi x0 x7) (gi x1 x8) ((gi x0 x7) ++ (gi x1 x8)) rfl (by kernel_rfl) (by kernel_rfl) (Fc.here trivial) (by kernel_rfl) (by kernel_rfl) g29 ?_
    have f31 : Els kStr S1 w6 ([.string ((gi x0 x7) ++ (gi x1 x8))] : List Value) [(gi x0 x7) ++ (gi x1 x8)] := by exact (Els.cons (K := kStr) (vs := [.string ((gi x0 x7) ++ (gi x1 x8))]) (x := (gi x0 x7) ++ (gi x1 x8)) rfl Els.nil)
    refine Om (.buildSlice 43 1 #[(0, (.tmp 43))]) 44 43 (fun b => .slice (Gp (some b)) 1 1) 9 ([.string ((gi x0 x7) ++ (gi x1 x8))] : List Value) (1 * kStr.size) p6 (Av 10) fun b30 w7 z7 p7 => ?_
    refine AnyG.next z7 trivial ?_
    refine Gg h fun g36 h => ?_
    refine On (K := kStr) 43 (.tmp 34) (.tmp 44) 45 43 9 1 (.string ⟨#[]⟩) 16 x6.length cx6 1 x6 [(gi x0 x7) ++ (gi x1 x8)] (x6 ++ [(gi x0 x7) ++ (gi x1 x8)]) (Gp (some b30)) 1 rfl rfl rfl p7 rfl (fx6.ext ((z5.t z6).t z7)) (Av 11) (f31.ext z7) (src_own p7 (q := 0) rfl) g36 fun w8 G37 c38 udv z8 p8 f40 => ?_
    refine AnyG.last [] (Fc S1 w8 []) (by decide) ?_
    refine AnyG.pu 12 (.assign (.tmp 45)) 6 43 (.slice (Gp G37) ((x6 ++ [(gi x0 x7) ++ (gi x1 x8)]).length) c38) (Fc.here trivial) ?_
    refine Ad ?_
    have p8 := p8.dp 0
    refine Gm 7 [([20], .i x8), ([21, 8], .i (wr .i64 (x8 + 1)))] Jli ?_
    exact Gj 52 [(0, .slice Ax0 x0.length cx0), (1, .slice Ax1 x1.length cx1), (6, .slice (Gp G37) ((x6 ++ [(gi x0 x7) ++ (gi x1 x8)]).length) c38), (7, .i x7), (8, .i (wr .i64 (x8 + 1)))] (uds _ _ h _ _ ((((hx.t z5).t z6).t z7).t z8) _ _ _ _ _ _ _ _ _ _ p8 (fx0.ext (((z5.t z6).t z7).t z8)) rfl (fx1.ext (((z5.t z6).t z7).t z8)) rfl f40 rfl)
  ·
   rw [df h11]
   refine Gm 9 [([14], .i x7), ([15, 7], .i (wr .i64 (x7 + 1)))] Jld ?_
   exact Gj 52 [(0, .slice Ax0 x0.length cx0), (1, .slice Ax1 x1.length cx1), (6, .slice (Gp Gx6) x6.length cx6), (7, .i (wr .i64 (x7 + 1)))] (udu _ _ h _ _ hx _ _ _ _ _ _ _ _ _ _ p1 fx0 rfl fx1 rfl fx6 rfl)

theorem W.z3f {nz wz S0 w0 Lr} : ∀ a r, M.a29 a = some r → (L.z3f nz wz S0 w0 Lr) a r := (W.z3h).1

theorem W.z3g {nz wz S0 w0 Lr} : ∀ a r, M.a3y a = some r → (L.z3g nz wz S0 w0 Lr) a r := (W.z3h).2


theorem W.z3e (x0 : List ByteArray) (x1 : List ByteArray) (r : (List ByteArray) × Bool) (h : M.a1l x0 x1 = some r) {nz wz S0 w0 Lr} (Ax0 nx0 cx0 Ax1 nx1 cx1) (p0 : Hp nz wz S0 w0 (Lr)) (fx0 : Rd kStr S0 w0 Ax0 cx0 x0) (lx0 : x0.length = nx0) (fx1 : Rd kStr S0 w0 Ax1 cx1 x1) (lx1 : x1.length = nx1) :
  Calls Tryz.prog 123 #[.slice Ax0 nx0 cx0, .slice Ax1 nx1 cx1] w0 (Rets (Post.z3e nz wz S0 w0 Lr r)) := by
 subst lx0
 subst lx1
 refine Zf Tryz.f123 B123 50 ?_
 refine Gj 52 [(0, .slice Ax0 x0.length cx0), (1, .slice Ax1 x1.length cx1)] fun junk => ?_
 delta M.a1l at h
 refine Gn 7 [(4, .slice none 0 0), (5, .bool false)] (Yt 110 B123 [0, 1] (Ys 111 B123 [])) ?_
 have f2 : Els kStr S0 w0 ([] : List Value) ([] : List ByteArray) := by exact Els.nil
 refine Om (.buildSlice 43 0 #[]) 9 43 (fun b => .slice (Gp (some b)) 0 0) 9 ([] : List Value) (0 * kStr.size) p0 Goes.v fun b1 w2 z2 p2 => ?_
 refine Gn 9 [(6, .slice (Gp (some b1)) 0 0), (7, .i 0)] Jld ?_
 exact Gj 52 [(0, .slice Ax0 x0.length cx0), (1, .slice Ax1 x1.length cx1), (6, .slice (Gp (some b1)) 0 0), (7, .i 0)] (W.z3f _ _ h _ _ z2 _ _ _ _ _ _ (some b1) 0 0 _ p2 (fx0.ext z2) rfl (fx1.ext z2) rfl (f2.ext z2) rfl)

def Qgy := Yq 111010111010100 B121
def Jm0 := Zl Qgy (Zb 3 (Ys 111010111011 B121 Jkb))
def Jm1 := Zc Qgy Jm0
def Jm3 := Ys 11101011101010001 B121 (Ys 1110101110101001 B121 Jm0)
def Jm5 := Zb 4 (Ys 11101011101010011 B121 Jm0)
def Qh3 := Yq 1110101111100100 B121
def Jm8 := Zl Qh3 (Zb 5 (Ys 1110101111101 B121 Jkb))
def Jm9 := Zc Qh3 Jm8
def Jmb := Zb 6 (Ys 111010111110010011 B121 Jm8)
def Jmc := Ys 1110101111100100100111 B121 Jmb
def Qh7 := Yq 1111110100 B121
def Jmf := Zl Qh7 (Zb 7 (Ys 1111111 B121 []))
def Jmg := Zc Qh7 Jmf
def Jmi := Ys 111111010001 B121 (Ys 11111101001 B121 Jmf)
def Jmk := Zb 8 (Ys 111111010011 B121 Jmf)
def Jmw := Ys 11111 B121 []
def Jmx := Ys 111101 B121 Jmw
def Qho := Yq 111100 B121
def Qhs := Yq 111111010000 B121
def Jn7 := Ys 1111110100100111 B121 Jmk
def Jnc := Ys 111010111110010001 B121 (Ys 11101011111001001 B121 Jm8)
def Jne := Ys 11101011111001001001 B121 Jmb
def Qi3 := Yq 11101011111001001000 B121
def Qi9 := Yq 11101011101010000 B121
def Jno := Ys 1110101110101001001 B121 Jm5
def Qib := Yq 1110101110101001000 B121
def Jnr := Ys 111010111010100100111 B121 Jm5

def LF.z34 : T26 → ((List ByteArray) × Bool) → Prop := fun x0 r => ∀ {nz wz S0 w0 Lr} u5 u6 u7 (_ : Hp nz wz S0 w0 (Lr)) (_ : x0.Set.length = 4) (_ : Rd kT26 S0 w0 u5 u7 x0.L) (_ : x0.L.length = u6),
 Calls Tryz.prog 121 #[(ag (vT26 x0 u5 u6 u7))] w0 (Rets (Post.z34 nz wz S0 w0 Lr r))

def L.z3i : T26 × (List ByteArray) × Bool × Int → ((List ByteArray) × Bool) → Prop := fun ⟨x1v, x4, x5, x7⟩ r => ∀ S1 w1, Ext S0 w0 S1 w1 → ∀ gx1 u1z u20 u21 Gx4 nx4 cx4 ube (_ : Hp nz wz S1 w1 ((some gx1, .row 27 (vT26 x1v u1z u20 u21) 8 0) :: (Gx4, .row 9 ube (cx4 * kStr.size) 0) :: Lr)) (_ : x1v.Set.length = 4) (_ : Rd kT26 S1 w1 u1z u21 x1v.L) (_ : x1v.L.length = u20) (_ : Els kStr S1 w1 ube x4) (_ : x4.length = nx4) (junk : Nat → Value),
 Goes Tryz.prog (base 121) Jm1 ⟨lfr 136 [(1, (pt gx1 0)), (4, .slice (Gp Gx4) nx4 cx4), (5, .bool x5), (7, .i x7)] junk, []⟩ w1 (Done Tryz.prog 121 (Rets (Post.z34 nz wz S0 w0 Lr r)))

def LL.z3i : T26 × (List ByteArray) × Bool × Int → ((List ByteArray) × Bool) → Prop := fun a r => ∀ {nz wz S0 w0 Lr}, L.z3i nz wz S0 w0 Lr a r

def L.z3j : T26 × (List ByteArray) × Bool × Int × Bool → ((List ByteArray) × Bool) → Prop := fun ⟨x1v, x4, x5, x7, x51⟩ r => ∀ S1 w1, Ext S0 w0 S1 w1 → ∀ gx1 u1z u20 u21 Gx4 nx4 cx4 ube (_ : Hp nz wz S1 w1 ((some gx1, .row 27 (vT26 x1v u1z u20 u21) 8 0) :: (Gx4, .row 9 ube (cx4 * kStr.size) 0) :: Lr)) (_ : x1v.Set.length = 4) (_ : Rd kT26 S1 w1 u1z u21 x1v.L) (_ : x1v.L.length = u20) (_ : Els kStr S1 w1 ube x4) (_ : x4.length = nx4) (junk : Nat → Value),
 Goes Tryz.prog (base 121) Jm3 ⟨lfr 136 [(1, (pt gx1 0)), (4, .slice (Gp Gx4) nx4 cx4), (5, .bool x5), (7, .i x7), (51, .bool x51)] junk, []⟩ w1 (Done Tryz.prog 121 (Rets (Post.z34 nz wz S0 w0 Lr r)))

def LL.z3j : T26 × (List ByteArray) × Bool × Int × Bool → ((List ByteArray) × Bool) → Prop := fun a r => ∀ {nz wz S0 w0 Lr}, L.z3j nz wz S0 w0 Lr a r

def L.z3k : T26 × (List ByteArray) × Bool × Int → ((List ByteArray) × Bool) → Prop := fun ⟨x1v, x4, x5, x7⟩ r => ∀ S1 w1, Ext S0 w0 S1 w1 → ∀ gx1 u1z u20 u21 Gx4 nx4 cx4 ube (_ : Hp nz wz S1 w1 ((some gx1, .row 27 (vT26 x1v u1z u20 u21) 8 0) :: (Gx4, .row 9 ube (cx4 * kStr.size) 0) :: Lr)) (_ : x1v.Set.length = 4) (_ : Rd kT26 S1 w1 u1z u21 x1v.L) (_ : x1v.L.length = u20) (_ : Els kStr S1 w1 ube x4) (_ : x4.length = nx4) (junk : Nat → Value),
 Goes Tryz.prog (base 121) Jm5 ⟨lfr 136 [(1, (pt gx1 0)), (4, .slice (Gp Gx4) nx4 cx4), (5, .bool x5), (7, .i x7)] junk, []⟩ w1 (Done Tryz.prog 121 (Rets (Post.z34 nz wz S0 w0 Lr r)))

def LL.z3k : T26 × (List ByteArray) × Bool × Int → ((List ByteArray) × Bool) → Prop := fun a r => ∀ {nz wz S0 w0 Lr}, L.z3k nz wz S0 w0 Lr a r

def L.z3l : T26 × (List ByteArray) × Int → ((List ByteArray) × Bool) → Prop := fun ⟨x1v, x4, x10⟩ r => ∀ S1 w1, Ext S0 w0 S1 w1 → ∀ gx1 u1z u20 u21 Gx4 nx4 cx4 ube (_ : Hp nz wz S1 w1 ((some gx1, .row 27 (vT26 x1v u1z u20 u21) 8 0) :: (Gx4, .row 9 ube (cx4 * kStr.size) 0) :: Lr)) (_ : x1v.Set.length = 4) (_ : Rd kT26 S1 w1 u1z u21 x1v.L) (_ : x1v.L.length = u20) (_ : Els kStr S1 w1 ube x4) (_ : x4.length = nx4) (junk : Nat → Value),
 Goes Tryz.prog (base 121) Jm9 ⟨lfr 136 [(1, (pt gx1 0)), (4, .slice (Gp Gx4) nx4 cx4), (10, .i x10)] junk, []⟩ w1 (Done Tryz.prog 121 (Rets (Post.z34 nz wz S0 w0 Lr r)))

def LL.z3l : T26 × (List ByteArray) × Int → ((List ByteArray) × Bool) → Prop := fun a r => ∀ {nz wz S0 w0 Lr}, L.z3l nz wz S0 w0 Lr a r

def L.z3m : T26 × (List ByteArray) × Int × Bool → ((List ByteArray) × Bool) → Prop := fun ⟨x1v, x4, x10, udw⟩ r => ∀ S1 w1, Ext S0 w0 S1 w1 → ∀ gx1 u1z u20 u21 Gx4 nx4 cx4 ube (_ : Hp nz wz S1 w1 ((some gx1, .row 27 (vT26 x1v u1z u20 u21) 8 0) :: (Gx4, .row 9 ube (cx4 * kStr.size) 0) :: Lr)) (_ : x1v.Set.length = 4) (_ : Rd kT26 S1 w1 u1z u21 x1v.L) (_ : x1v.L.length = u20) (_ : Els kStr S1 w1 ube x4) (_ : x4.length = nx4) (junk : Nat → Value),
 Goes Tryz.prog (base 121) Jmc ⟨lfr 136 [(1, (pt gx1 0)), (4, .slice (Gp Gx4) nx4 cx4), (10, .i x10), (101, .bool udw)] junk, []⟩ w1 (Done Tryz.prog 121 (Rets (Post.z34 nz wz S0 w0 Lr r)))

def LL.z3m : T26 × (List ByteArray) × Int × Bool → ((List ByteArray) × Bool) → Prop := fun a r => ∀ {nz wz S0 w0 Lr}, L.z3m nz wz S0 w0 Lr a r

def L.z3n : T26 × (List ByteArray) × Bool × Int → ((List ByteArray) × Bool) → Prop := fun ⟨x1v, x4, x5, x13⟩ r => ∀ S1 w1, Ext S0 w0 S1 w1 → ∀ gx1 u1z u20 u21 Gx4 nx4 cx4 ube (_ : Hp nz wz S1 w1 ((some gx1, .row 27 (vT26 x1v u1z u20 u21) 8 0) :: (Gx4, .row 9 ube (cx4 * kStr.size) 0) :: Lr)) (_ : x1v.Set.length = 4) (_ : Rd kT26 S1 w1 u1z u21 x1v.L) (_ : x1v.L.length = u20) (_ : Els kStr S1 w1 ube x4) (_ : x4.length = nx4) (junk : Nat → Value),
 Goes Tryz.prog (base 121) Jmg ⟨lfr 136 [(1, (pt gx1 0)), (4, .slice (Gp Gx4) nx4 cx4), (5, .bool x5), (13, .i x13)] junk, []⟩ w1 (Done Tryz.prog 121 (Rets (Post.z34 nz wz S0 w0 Lr r)))

def LL.z3n : T26 × (List ByteArray) × Bool × Int → ((List ByteArray) × Bool) → Prop := fun a r => ∀ {nz wz S0 w0 Lr}, L.z3n nz wz S0 w0 Lr a r

def L.z3o : T26 × (List ByteArray) × Bool × Int × Bool → ((List ByteArray) × Bool) → Prop := fun ⟨x1v, x4, x5, x13, udx⟩ r => ∀ S1 w1, Ext S0 w0 S1 w1 → ∀ gx1 u1z u20 u21 Gx4 nx4 cx4 ube (_ : Hp nz wz S1 w1 ((some gx1, .row 27 (vT26 x1v u1z u20 u21) 8 0) :: (Gx4, .row 9 ube (cx4 * kStr.size) 0) :: Lr)) (_ : x1v.Set.length = 4) (_ : Rd kT26 S1 w1 u1z u21 x1v.L) (_ : x1v.L.length = u20) (_ : Els kStr S1 w1 ube x4) (_ : x4.length = nx4) (junk : Nat → Value),
 Goes Tryz.prog (base 121) Jmi ⟨lfr 136 [(1, (pt gx1 0)), (4, .slice (Gp Gx4) nx4 cx4), (5, .bool x5), (13, .i x13), (115, .bool udx)] junk, []⟩ w1 (Done Tryz.prog 121 (Rets (Post.z34 nz wz S0 w0 Lr r)))

def LL.z3o : T26 × (List ByteArray) × Bool × Int × Bool → ((List ByteArray) × Bool) → Prop := fun a r => ∀ {nz wz S0 w0 Lr}, L.z3o nz wz S0 w0 Lr a r

def L.z3p : T26 × (List ByteArray) × Bool × Int → ((List ByteArray) × Bool) → Prop := fun ⟨x1v, x4, x5, x13⟩ r => ∀ S1 w1, Ext S0 w0 S1 w1 → ∀ gx1 u1z u20 u21 Gx4 nx4 cx4 ube (_ : Hp nz wz S1 w1 ((some gx1, .row 27 (vT26 x1v u1z u20 u21) 8 0) :: (Gx4, .row 9 ube (cx4 * kStr.size) 0) :: Lr)) (_ : x1v.Set.length = 4) (_ : Rd kT26 S1 w1 u1z u21 x1v.L) (_ : x1v.L.length = u20) (_ : Els kStr S1 w1 ube x4) (_ : x4.length = nx4) (junk : Nat → Value),
 Goes Tryz.prog (base 121) Jmk ⟨lfr 136 [(1, (pt gx1 0)), (4, .slice (Gp Gx4) nx4 cx4), (5, .bool x5), (13, .i x13)] junk, []⟩ w1 (Done Tryz.prog 121 (Rets (Post.z34 nz wz S0 w0 Lr r)))

def LL.z3p : T26 × (List ByteArray) × Bool × Int → ((List ByteArray) × Bool) → Prop := fun a r => ∀ {nz wz S0 w0 Lr}, L.z3p nz wz S0 w0 Lr a r

theorem W.z3q : (∀ a r, M.a7 a = some r → LF.z34 a r) ∧ (∀ a r, M.a1n a = some r → LL.z3n a r) ∧ (∀ a r, M.a2s a = some r → LL.z3o a r) ∧ (∀ a r, M.a56 a = some r → LL.z3p a r) ∧ (∀ a r, M.a3z a = some r → LL.z3l a r) ∧ (∀ a r, M.a2r a = some r → LL.z3m a r) ∧ (∀ a r, M.a1m a = some r → LL.z3i a r) ∧ (∀ a r, M.a2q a = some r → LL.z3j a r) ∧ (∀ a r, M.a55 a = some r → LL.z3k a r) := by
 refine M.a7.mutual_partial_correctness LF.z34 LL.z3n LL.z3o LL.z3p LL.z3l LL.z3m LL.z3i LL.z3j LL.z3k ?_ ?_ ?_ ?_ ?_ ?_ ?_ ?_ ?_
 ·
  intro udy udz ue0 ue1 ue2 ue3 x0 r h nz wz S0 w0 Lr u5 u6 u7 p0 um un uo
  try dsimp only at h
  subst uo
  refine Zf Tryz.f121 B121 135 ?_
  refine Gj 136 [(0, (ag (vT26 x0 u5 x0.L.length u7)))] fun junk => ?_
  refine Gn 2 [] (Yt 10 B121 [0, 1, 2] (Ys 11 B121 [])) ?_
  refine Ob 27 (.tmp 0) 1 0 (ag (vT26 x0 u5 x0.L.length u7)) (vT26 x0 u5 x0.L.length u7) p0 Goes.v fun b1 w2 z2 p2 => ?_
  refine Gn 5 [(2, .slice none 0 0), (3, .bool false)] (Yt 110 B121 [0, 1, 2] (Ys 111 B121 [])) ?_
  have f4 : Els kStr S0 w2 ([] : List Value) ([] : List ByteArray) := by exact Els.nil
  refine Om (.buildSlice 43 0 #[]) 16 43 (fun b => .slice (Gp (some b)) 0 0) 9 ([] : List Value) (0 * kStr.size) p2 Goes.v fun b3 w3 z3 p3 => ?_
  refine Gn 7 [(4, .slice (Gp (some b3)) 0 0), (5, .bool true), (17, (pt b1 0))] (Yt 11100 B121 [1] (Ys 11101 B121 Jka)) ?_
  refine Goes.ld 3 (.tmp 17) 18 3 ⟨b1, 0, none⟩ (.i x0.Kind) (p3.c 1 0) ?_
  refine Gm 7 [([20, 19], .bool (decide (x0.Kind = 1)))] (Ys 1110101 B121 Jkb) ?_
  refine Gi h (fun h6 h => ?_) fun h6 h => ?_
  ·
   rw [dt h6]
   refine Gn 8 [(6, .i 0)] Jkf ?_
   have p3 := (p3.fr 0).fr 1
   exact Gj 136 [(1, (pt b1 0)), (4, .slice (Gp (some b3)) 0 0), (6, .i 0)] (W.z35 _ _ h _ _ (z2.t z3) _ _ _ _ (some b3) 0 0 _ p3 um (un.ext (z2.t z3)) rfl (f4.ext z3) rfl)
  ·
   rw [df h6]
   refine Gm 6 [([42, 41], .bool (decide (x0.Kind = 2)))] (Ys 111010111 B121 Jkb) ?_
   refine Gi h (fun h9 h => ?_) fun h9 h => ?_
   ·
    rw [dt h9]
    refine Gn 3 [] (Yt 11101011100 B121 [0, 1] (Ys 11101011101 B121 Jkb)) ?_
    have f11 : Els kStr S0 w3 ([.string (⟨#[]⟩ : ByteArray)] : List Value) [(⟨#[]⟩ : ByteArray)] := by exact (Els.cons (K := kStr) (vs := [.string (⟨#[]⟩ : ByteArray)]) (x := (⟨#[]⟩ : ByteArray)) rfl Els.nil)
    refine Om (.buildSlice 43 1 #[(0, (.const (.string ⟨#[]⟩)))]) 43 43 (fun b => .slice (Gp (some b)) 1 1) 9 ([.string (⟨#[]⟩ : ByteArray)] : List Value) (1 * kStr.size) p3 Goes.v fun b10 w4 z4 p4 => ?_
    refine Gn 9 [(4, .slice (Gp (some b10)) 1 1), (7, .i 0)] Jm1 ?_
    have p4 := p4.dp 1
    have p4 := (p4.fr 0).fr 1
    exact Gj 136 [(1, (pt b1 0)), (4, .slice (Gp (some b10)) 1 1), (5, .bool true), (7, .i 0)] (ue3 _ _ h _ _ ((z2.t z3).t z4) _ _ _ _ (some b10) _ _ _ p4 um (un.ext ((z2.t z3).t z4)) rfl (f11.ext z4) rfl)
   ·
    rw [df h9]
    refine Gm 6 [([74, 73], .bool (decide (x0.Kind = 3)))] (Ys 11101011111 B121 Jkb) ?_
    refine Gi h (fun h15 h => ?_) fun h15 h => ?_
    ·
     rw [dt h15]
     refine Gn 8 [(10, .i 0)] Jm9 ?_
     have p3 := (p3.fr 0).fr 1
     exact Gj 136 [(1, (pt b1 0)), (4, .slice (Gp (some b3)) 0 0), (10, .i 0)] (ue2 _ _ h _ _ (z2.t z3) _ _ _ _ (some b3) 0 0 _ p3 um (un.ext (z2.t z3)) rfl (f4.ext z3) rfl)
    ·
     rw [df h15]
     refine Gn 7 [(103, (pt b1 6))] (Zr Qho [1, 2, 3, 4] Jmx) ?_
     refine Goes.ld 3 (.tmp 103) 104 3 ⟨b1, 6, none⟩ (.i x0.Min) (p3.c 1 6) ?_
     refine Gn 1 [(105, (pt b1 7))] (Zr Qho [3, 4] Jmx) ?_
     refine Goes.ld 3 (.tmp 105) 106 3 ⟨b1, 7, none⟩ (.i x0.Max) (p3.c 1 7) ?_
     refine Gn 2 [(107, .bool (!(decide (x0.Min = x0.Max))))] Jmx ?_
     refine Gi h (fun h18 h => ?_) fun h18 h => ?_
     ·
      rw [dt h18]
      refine Gn 4 [] (Yt 111110 B121 [0, 1] (Ys 111111 B121 [])) ?_
      have f20 : Els kStr S0 w3 ([.string (⟨#[]⟩ : ByteArray)] : List Value) [(⟨#[]⟩ : ByteArray)] := by exact (Els.cons (K := kStr) (vs := [.string (⟨#[]⟩ : ByteArray)]) (x := (⟨#[]⟩ : ByteArray)) rfl Els.nil)
      refine Om (.buildSlice 43 1 #[(0, (.const (.string ⟨#[]⟩)))]) 108 43 (fun b => .slice (Gp (some b)) 1 1) 9 ([.string (⟨#[]⟩ : ByteArray)] : List Value) (1 * kStr.size) p3 Goes.v fun b19 w5 z5 p5 => ?_
      refine Gn 9 [(4, .slice (Gp (some b19)) 1 1), (13, .i 0)] Jmg ?_
      have p5 := p5.dp 1
      have p5 := (p5.fr 0).fr 1
      exact Gj 136 [(1, (pt b1 0)), (4, .slice (Gp (some b19)) 1 1), (5, .bool true), (13, .i 0)] (ue1 _ _ h _ _ ((z2.t z3).t z5) _ _ _ _ (some b19) _ _ _ p5 um (un.ext ((z2.t z3).t z5)) rfl (f20.ext z5) rfl)
     ·
      rw [df h18]
      refine Gn 6 [(2, .slice none 0 0), (3, .bool false)] (Ys 11110101 B121 Jmw) ?_
      have p3 : Hp nz wz S0 w3 ((none, .row 9 [] (0 * kStr.size) 0) :: ((some b3), .row 9 ([] : List Value) (0 * kStr.size) 0) :: (some b1, .row 27 (vT26 x0 u5 x0.L.length u7) 8 0) :: Lr) := p3.nilRow' 9
      obtain rfl := sj h
      have p3 := (p3.dp 1).dp 1
      exact Goes.rt Tryz.f121 (.tuple #[.slice (Gp none) 0 0, .bool false]) ⟨_, _, _, _, _, rfl, (z2.t z3), p3, (Els.nil (K := kStr)), rfl⟩
 ·
  intro ue4 ue5 ⟨x1v, x4, x5, x13⟩ r h nz wz S0 w0 Lr S1 w1 hx gx1 u1z u20 u21 Gx4 nx4 cx4 ube p1 u22 u23 u24 fx4 lx4 junk
  try dsimp only at h
  subst u24
  subst lx4
  refine Gn 5 [(109, .i x13), (110, (pt gx1 6))] (Zr Qhs [2, 3, 4, 5, 6] Jmi) ?_
  refine Goes.ld 3 (.tmp 110) 111 3 ⟨gx1, 6, none⟩ (.i x1v.Min) (p1.c 0 6) ?_
  refine Gm 2 [([112, 113], .bool (decide (x13 < x1v.Min)))] (Zr Qhs [5, 6] Jmi) ?_
  refine Gi h (fun h78 h => ?_) fun h78 h => ?_
  ·
   rw [dt h78]
   refine Gm 3 [([114, 115], .bool x5)] Jmi ?_
   exact Gj 136 [(1, (pt gx1 0)), (4, .slice (Gp Gx4) x4.length cx4), (5, .bool x5), (13, .i x13), (115, .bool x5)] (ue5 _ _ h _ _ hx _ _ _ _ _ _ _ _ p1 u22 u23 rfl fx4 rfl)
  ·
   rw [df h78]
   refine Gn 3 [(114, undef), (115, .bool false)] Jmi ?_
   exact Gj 136 [(1, (pt gx1 0)), (4, .slice (Gp Gx4) x4.length cx4), (5, .bool x5), (13, .i x13), (115, .bool false)] (ue5 _ _ h _ _ hx _ _ _ _ _ _ _ _ p1 u22 u23 rfl fx4 rfl)
 ·
  intro ue6 ue7 ue8 ue9 ⟨x1v, x4, x5, x13, udx⟩ r h nz wz S0 w0 Lr S1 w1 hx gx1 u1z u20 u21 Gx4 nx4 cx4 ube p1 u22 u23 u24 fx4 lx4 junk
  try dsimp only at h
  subst u24
  subst lx4
  refine Gi h (fun uea h => ?_) fun uea h => ?_
  ·
   rw [uea]
   refine Gn 7 [(119, (pt gx1 5))] (Yt 11111101001000 B121 [1, 2, 3, 4, 5, 6, 7, 8, 9] (Ys 11111101001001 B121 Jmk)) ?_
   refine Goes.ld 25 (.tmp 119) 120 25 ⟨gx1, 5, none⟩ (.slice u1z x1v.L.length u21) (p1.c 0 5) ?_
   refine Gg h fun ueb h => ?_
   refine Oi 25 (.tmp 120) (.const (.int .i64 0)) 121 0 27 .i64 0 (gi x1v.L 0) rfl rfl u23 Goes.v (by decide : (0 : Int) ≤ 0) ueb fun uec _ ued uee => ?_
   have uef := uee
   obtain ⟨_, _, rfl, rfl, ⟨_, _, rfl, ⟨ueg, ueh⟩, ⟨_, _, rfl, ⟨uei, uej, rfl, uek⟩, ⟨_, _, rfl, rfl, rfl⟩⟩⟩⟩ := kT26_open uef
   obtain rfl := els_lit4' ueh ueg
   refine Goes.ldN 27 (.tmp 121) 122 27 uec ([.i ((gi x1v.L 0).Kind)] ++ ((U4 ((gi x1v.L 0).Set) []) ++ ([.slice uei (((gi x1v.L 0).L).length) uej] ++ ([.i ((gi x1v.L 0).Min)] ++ [.i ((gi x1v.L 0).Max)])))) (ued.cell) ?_
   refine Gb h fun uel uem h => ?_
   refine Gc (kc 121 [122] #[27]) 123 225 121 _ (ue8 (⟨(gi x1v.L 0).Kind, ((gi x1v.L 0).Set), (gi x1v.L 0).L, (gi x1v.L 0).Min, (gi x1v.L 0).Max⟩ : T26) uel uem _ _ _ p1 ueg uek rfl) ?_
   rintro _ w19 ⟨S19, uen, u5y, u5z, ueo, rfl, z19, p19, u60, rfl⟩
   refine Gm 14 [([118], .tuple #[.slice (Gp uen) uel.1.length u5z, .bool uel.2]), ([124, 14], .slice (Gp uen) uel.1.length u5z), ([125, 15, 126, 5, 127], .bool uel.2)] (Yt 1111110100100110 B121 [] Jn7) ?_
   refine Gn 1 [] Jn7 ?_
   refine Gi h (fun uep h => ?_) fun uep h => ?_
   ·
    rw [uep]
    refine Gn 4 [(129, .slice (Gp Gx4) x4.length cx4), (130, .slice (Gp uen) uel.1.length u5z)] (Yt 11111101001001110 B121 [2, 3, 4, 5, 6, 7] Jmk) ?_
    obtain ⟨S20, z20, p20, ueq⟩ := p19.freezeRd 2 rfl (fx4.ext z19) (by decide)
    obtain ⟨S21, z21, p21, uer⟩ := p20.freezeRd 0 rfl (u60.ext z20) (by decide)
    refine Gb h fun ues uet h => ?_
    refine Gc (kc 123 [129, 130] #[43, 43]) 131 225 123 _ (W.z3e x4 uel.1 ues uet _ _ _ _ _ _ p21 (ueq.ext z21) rfl uer rfl) ?_
    rintro _ w22 ⟨S22, ueu, uev, uew, uex, rfl, z22, p22, uey, rfl⟩
    have p22 := (p22.dp 1).dp 2
    refine Gm 6 [([128], .tuple #[.slice (Gp ueu) ues.1.length uew, .bool ues.2]), ([132, 4], .slice (Gp ueu) ues.1.length uew), ([133, 5], .bool ues.2)] Jmk ?_
    have p22 := (p22.fr 0).fr 1
    exact Gj 136 [(1, (pt gx1 0)), (4, .slice (Gp ueu) ues.1.length uew), (5, .bool ues.2), (13, .i x13)] (ue9 _ _ h _ _ ((((hx.t z19).t z20).t z21).t z22) _ _ _ _ _ _ _ _ p22 u22 (u23.ext (((z19.t z20).t z21).t z22)) rfl uey rfl)
   ·
    rw [bf uep]
    refine Gn 2 [] Jmk ?_
    have p19 := p19.dp 0
    exact Gj 136 [(1, (pt gx1 0)), (4, .slice (Gp Gx4) x4.length cx4), (5, .bool false), (13, .i x13)] (ue9 _ _ h _ _ (hx.t z19) _ _ _ _ _ _ _ _ p19 u22 (u23.ext z19) rfl (fx4.ext z19) rfl)
  ·
   rw [bf uea]
   refine Gm 9 [([134, 2], .slice (Gp Gx4) x4.length cx4), ([135, 3], .bool x5)] (Ys 11111111 B121 []) ?_
   obtain rfl := sj h
   have p1 := p1.dp 0
   exact Goes.rt Tryz.f121 (.tuple #[.slice (Gp Gx4) x4.length cx4, .bool x5]) ⟨_, _, _, _, _, rfl, hx, p1, fx4, rfl⟩
 ·
  intro udy ue1 ⟨x1v, x4, x5, x13⟩ r h nz wz S0 w0 Lr S1 w1 hx gx1 u1z u20 u21 Gx4 nx4 cx4 ube p1 u22 u23 u24 fx4 lx4 junk
  try dsimp only at h
  subst u24
  subst lx4
  refine Gm 7 [([116], .i x13), ([117, 13], .i (wr .i64 (x13 + 1)))] Jmg ?_
  exact Gj 136 [(1, (pt gx1 0)), (4, .slice (Gp Gx4) x4.length cx4), (5, .bool x5), (13, .i (wr .i64 (x13 + 1)))] (ue1 _ _ h _ _ hx _ _ _ _ _ _ _ _ p1 u22 u23 rfl fx4 rfl)
 ·
  intro ue6 uf1 ue8 uf2 ⟨x1v, x4, x10⟩ r h nz wz S0 w0 Lr S1 w1 hx gx1 u1z u20 u21 Gx4 nx4 cx4 ube p1 u22 u23 u24 fx4 lx4 junk
  try dsimp only at h
  subst u24
  subst lx4
  refine Gn 5 [(75, .i x10), (76, (pt gx1 5))] (Yt 111010111110010000 B121 [2, 3, 4] Jnc) ?_
  refine Goes.ld 25 (.tmp 76) 77 25 ⟨gx1, 5, none⟩ (.slice u1z x1v.L.length u21) (p1.c 0 5) ?_
  refine Gn 3 [(78, .i (x1v.L.length : Int)), (79, .bool (decide (x10 < (x1v.L.length : Int))))] Jnc ?_
  refine Gi h (fun h49 h => ?_) fun h49 h => ?_
  ·
   rw [dt h49]
   refine Gn 7 [(83, (pt gx1 5))] (Zr Qi3 [1, 2, 3, 4, 5, 6, 7, 8, 9, 10] Jne) ?_
   refine Goes.ld 25 (.tmp 83) 84 25 ⟨gx1, 5, none⟩ (.slice u1z x1v.L.length u21) (p1.c 0 5) ?_
   refine Gn 1 [(85, .i x10)] (Zr Qi3 [3, 4, 5, 6, 7, 8, 9, 10] Jne) ?_
   refine Gg h fun g50 h => ?_
   refine Oi 25 (.tmp 84) (.tmp 85) 86 0 27 .i64 x10 (gi x1v.L x10) rfl rfl u23 Goes.v g50 h49 fun a51 _ f52 q53 => ?_
   have q54 := q53
   obtain ⟨_, _, rfl, rfl, ⟨_, _, rfl, ⟨l55, f56⟩, ⟨_, _, rfl, ⟨A57, c58, rfl, f59⟩, ⟨_, _, rfl, rfl, rfl⟩⟩⟩⟩ := kT26_open q54
   obtain rfl := els_lit4' f56 l55
   refine Goes.ldN 27 (.tmp 86) 87 27 a51 ([.i ((gi x1v.L x10).Kind)] ++ ((U4 ((gi x1v.L x10).Set) []) ++ ([.slice A57 (((gi x1v.L x10).L).length) c58] ++ ([.i ((gi x1v.L x10).Min)] ++ [.i ((gi x1v.L x10).Max)])))) (f52.cell) ?_
   refine Gb h fun y60 e61 h => ?_
   refine Gc (kc 121 [87] #[27]) 88 225 121 _ (ue8 (⟨(gi x1v.L x10).Kind, ((gi x1v.L x10).Set), (gi x1v.L x10).L, (gi x1v.L x10).Min, (gi x1v.L x10).Max⟩ : T26) y60 e61 _ _ _ p1 l55 f59 rfl) ?_
   rintro _ w11 ⟨S11, uf3, u6p, u6q, uf4, rfl, z11, p11, u6r, rfl⟩
   refine Gm 10 [([82], .tuple #[.slice (Gp uf3) y60.1.length u6q, .bool y60.2]), ([89, 11, 92], .slice (Gp uf3) y60.1.length u6q), ([90, 12], .bool y60.2), ([91], .slice (Gp Gx4) x4.length cx4)] (Yt 111010111110010010010 B121 [2, 3, 4] (Ys 111010111110010010011 B121 Jmb)) ?_
   refine Gg h fun g66 h => ?_
   refine On (K := kStr) 43 (.tmp 91) (.tmp 92) 93 43 9 2 (.string ⟨#[]⟩) 16 x4.length cx4 y60.1.length x4 y60.1 (x4 ++ y60.1) (Gp uf3) u6q rfl rfl rfl p11 rfl (fx4.ext z11) Goes.v u6r (src_own p11 (q := 0) rfl) g66 fun w12 G67 c68 uf5 z12 p12 f70 => ?_
   obtain ⟨S13, z13, p13, f71⟩ := p12.freezeRd 2 rfl f70 (by decide)
   refine Gb h fun y72 e73 h => ?_
   refine Gc (kc 60 [93] #[43]) 94 43 60 _ (W.z38 (x4 ++ y60.1) y72 e73 _ _ _ p13 f71 rfl) ?_
   rintro _ w14 ⟨S14, uf6, uf7, uf8, uf9, rfl, z14, p14, ufa, rfl⟩
   have p14 := (p14.dp 1).dp 2
   refine Gm 7 [([4], .slice (Gp uf6) y72.length uf8), ([95], .bool y60.2), ([96, 97], .bool (!y60.2))] (Yt 1110101111100100100110 B121 [3, 4, 5, 6] Jmc) ?_
   refine Gi h (fun h75 h => ?_) fun h75 h => ?_
   ·
    rw [h75]
    refine Gm 5 [([98], .slice (Gp uf6) y72.length uf8), ([99], .i (y72.length : Int)), ([100, 101], .bool (decide ((y72.length : Int) > 32)))] Jmc ?_
    have p14 := (p14.fr 0).fr 1
    exact Gj 136 [(1, (pt gx1 0)), (4, .slice (Gp uf6) y72.length uf8), (10, .i x10), (101, .bool (decide ((y72.length : Int) > 32)))] (uf2 _ _ h _ _ ((((hx.t z11).t z12).t z13).t z14) _ _ _ _ _ _ _ _ p14 u22 (u23.ext (((z11.t z12).t z13).t z14)) rfl ufa rfl)
   ·
    rw [bf h75]
    refine Gm 5 [([98, 99, 100], undef), ([101], .bool true)] Jmc ?_
    have p14 := (p14.fr 0).fr 1
    exact Gj 136 [(1, (pt gx1 0)), (4, .slice (Gp uf6) y72.length uf8), (10, .i x10), (101, .bool true)] (uf2 _ _ h _ _ ((((hx.t z11).t z12).t z13).t z14) _ _ _ _ _ _ _ _ p14 u22 (u23.ext (((z11.t z12).t z13).t z14)) rfl ufa rfl)
  ·
   rw [df h49]
   refine Gm 8 [([102, 2], .slice (Gp Gx4) x4.length cx4), ([3], .bool true)] (Ys 11101011111011 B121 Jkb) ?_
   obtain rfl := sj h
   have p1 := p1.dp 0
   exact Goes.rt Tryz.f121 (.tuple #[.slice (Gp Gx4) x4.length cx4, .bool true]) ⟨_, _, _, _, _, rfl, hx, p1, fx4, rfl⟩
 ·
  intro udz ue2 ⟨x1v, x4, x10, udw⟩ r h nz wz S0 w0 Lr S1 w1 hx gx1 u1z u20 u21 Gx4 nx4 cx4 ube p1 u22 u23 u24 fx4 lx4 junk
  try dsimp only at h
  subst u24
  subst lx4
  refine Gi h (fun ufc h => ?_) fun ufc h => ?_
  ·
   rw [ufc]
   refine Gn 6 [(2, .slice none 0 0), (3, .bool false)] (Ys 111010111110010010011101 B121 Jmb) ?_
   have p1 : Hp nz wz S1 w1 ((none, .row 9 [] (0 * kStr.size) 0) :: (some gx1, .row 27 (vT26 x1v u1z x1v.L.length u21) 8 0) :: (Gx4, .row 9 ube (cx4 * kStr.size) 0) :: Lr) := p1.nilRow' 9
   obtain rfl := sj h
   have p1 := (p1.dp 1).dp 1
   exact Goes.rt Tryz.f121 (.tuple #[.slice (Gp none) 0 0, .bool false]) ⟨_, _, _, _, _, rfl, hx, p1, (Els.nil (K := kStr)), rfl⟩
  ·
   rw [bf ufc]
   refine Gm 9 [([80], .i x10), ([81, 10], .i (wr .i64 (x10 + 1)))] Jm9 ?_
   exact Gj 136 [(1, (pt gx1 0)), (4, .slice (Gp Gx4) x4.length cx4), (10, .i (wr .i64 (x10 + 1)))] (ue2 _ _ h _ _ hx _ _ _ _ _ _ _ _ p1 u22 u23 rfl fx4 rfl)
 ·
  intro ufe uff ⟨x1v, x4, x5, x7⟩ r h nz wz S0 w0 Lr S1 w1 hx gx1 u1z u20 u21 Gx4 nx4 cx4 ube p1 u22 u23 u24 fx4 lx4 junk
  try dsimp only at h
  subst u24
  subst lx4
  refine Gn 5 [(44, .i x7), (45, (pt gx1 5))] (Zr Qi9 [2, 3, 4, 5, 6, 7] Jm3) ?_
  refine Goes.ld 25 (.tmp 45) 46 25 ⟨gx1, 5, none⟩ (.slice u1z x1v.L.length u21) (p1.c 0 5) ?_
  refine Gm 3 [([47], .i (x1v.L.length : Int)), ([48, 49], .bool (decide (x7 < (x1v.L.length : Int))))] (Zr Qi9 [6, 7] Jm3) ?_
  refine Gi h (fun h46 h => ?_) fun h46 h => ?_
  ·
   rw [dt h46]
   refine Gm 3 [([50, 51], .bool x5)] Jm3 ?_
   exact Gj 136 [(1, (pt gx1 0)), (4, .slice (Gp Gx4) x4.length cx4), (5, .bool x5), (7, .i x7), (51, .bool x5)] (uff _ _ h _ _ hx _ _ _ _ _ _ _ _ p1 u22 u23 rfl fx4 rfl)
  ·
   rw [df h46]
   refine Gn 3 [(50, undef), (51, .bool false)] Jm3 ?_
   exact Gj 136 [(1, (pt gx1 0)), (4, .slice (Gp Gx4) x4.length cx4), (5, .bool x5), (7, .i x7), (51, .bool false)] (uff _ _ h _ _ hx _ _ _ _ _ _ _ _ p1 u22 u23 rfl fx4 rfl)
 ·
  intro ue6 ufg ue8 ufh ⟨x1v, x4, x5, x7, x51⟩ r h nz wz S0 w0 Lr S1 w1 hx gx1 u1z u20 u21 Gx4 nx4 cx4 ube p1 u22 u23 u24 fx4 lx4 junk
  try dsimp only at h
  subst u24
  subst lx4
  refine Gi h (fun h81 h => ?_) fun h81 h => ?_
  ·
   rw [h81]
   refine Gn 7 [(55, (pt gx1 5))] (Zr Qib [1, 2, 3, 4, 5, 6, 7, 8, 9, 10] Jno) ?_
   refine Goes.ld 25 (.tmp 55) 56 25 ⟨gx1, 5, none⟩ (.slice u1z x1v.L.length u21) (p1.c 0 5) ?_
   refine Gn 1 [(57, .i x7)] (Zr Qib [3, 4, 5, 6, 7, 8, 9, 10] Jno) ?_
   refine Gg h fun g82 h => ?_
   refine Gg h fun g83 h => ?_
   refine Oi 25 (.tmp 56) (.tmp 57) 58 0 27 .i64 x7 (gi x1v.L x7) rfl rfl u23 Goes.v g82 g83 fun a84 _ f85 q86 => ?_
   have q87 := q86
   obtain ⟨_, _, rfl, rfl, ⟨_, _, rfl, ⟨l88, f89⟩, ⟨_, _, rfl, ⟨A90, c91, rfl, f92⟩, ⟨_, _, rfl, rfl, rfl⟩⟩⟩⟩ := kT26_open q87
   obtain rfl := els_lit4' f89 l88
   refine Goes.ldN 27 (.tmp 58) 59 27 a84 ([.i ((gi x1v.L x7).Kind)] ++ ((U4 ((gi x1v.L x7).Set) []) ++ ([.slice A90 (((gi x1v.L x7).L).length) c91] ++ ([.i ((gi x1v.L x7).Min)] ++ [.i ((gi x1v.L x7).Max)])))) (f85.cell) ?_
   refine Gb h fun y93 e94 h => ?_
   refine Gc (kc 121 [59] #[27]) 60 225 121 _ (ue8 (⟨(gi x1v.L x7).Kind, ((gi x1v.L x7).Set), (gi x1v.L x7).L, (gi x1v.L x7).Min, (gi x1v.L x7).Max⟩ : T26) y93 e94 _ _ _ p1 l88 f92 rfl) ?_
   rintro _ w15 ⟨S15, ufi, u5s, u5t, ufj, rfl, z15, p15, u5u, rfl⟩
   refine Gm 14 [([54], .tuple #[.slice (Gp ufi) y93.1.length u5t, .bool y93.2]), ([61, 8], .slice (Gp ufi) y93.1.length u5t), ([62, 9, 63, 5, 64], .bool y93.2)] (Yt 111010111010100100110 B121 [] Jnr) ?_
   refine Gn 1 [] Jnr ?_
   refine Gi h (fun h96 h => ?_) fun h96 h => ?_
   ·
    rw [h96]
    refine Gn 4 [(66, .slice (Gp Gx4) x4.length cx4), (67, .slice (Gp ufi) y93.1.length u5t)] (Yt 1110101110101001001110 B121 [2, 3, 4, 5, 6, 7] Jm5) ?_
    obtain ⟨S16, z16, p16, f97⟩ := p15.freezeRd 2 rfl (fx4.ext z15) (by decide)
    obtain ⟨S17, z17, p17, f98⟩ := p16.freezeRd 0 rfl (u5u.ext z16) (by decide)
    refine Gb h fun y99 ufk h => ?_
    refine Gc (kc 123 [66, 67] #[43, 43]) 68 225 123 _ (W.z3e x4 y93.1 y99 ufk _ _ _ _ _ _ p17 (f97.ext z17) rfl f98 rfl) ?_
    rintro _ w18 ⟨S18, ufl, ufm, ufn, ufo, rfl, z18, p18, ufp, rfl⟩
    have p18 := (p18.dp 1).dp 2
    refine Gm 6 [([65], .tuple #[.slice (Gp ufl) y99.1.length ufn, .bool y99.2]), ([69, 4], .slice (Gp ufl) y99.1.length ufn), ([70, 5], .bool y99.2)] Jm5 ?_
    have p18 := (p18.fr 0).fr 1
    exact Gj 136 [(1, (pt gx1 0)), (4, .slice (Gp ufl) y99.1.length ufn), (5, .bool y99.2), (7, .i x7)] (ufh _ _ h _ _ ((((hx.t z15).t z16).t z17).t z18) _ _ _ _ _ _ _ _ p18 u22 (u23.ext (((z15.t z16).t z17).t z18)) rfl ufp rfl)
   ·
    rw [bf h96]
    refine Gn 2 [] Jm5 ?_
    have p15 := p15.dp 0
    exact Gj 136 [(1, (pt gx1 0)), (4, .slice (Gp Gx4) x4.length cx4), (5, .bool false), (7, .i x7)] (ufh _ _ h _ _ (hx.t z15) _ _ _ _ _ _ _ _ p15 u22 (u23.ext z15) rfl (fx4.ext z15) rfl)
  ·
   rw [bf h81]
   refine Gm 9 [([71, 2], .slice (Gp Gx4) x4.length cx4), ([72, 3], .bool x5)] (Ys 1110101110111 B121 Jkb) ?_
   obtain rfl := sj h
   have p1 := p1.dp 0
   exact Goes.rt Tryz.f121 (.tuple #[.slice (Gp Gx4) x4.length cx4, .bool x5]) ⟨_, _, _, _, _, rfl, hx, p1, fx4, rfl⟩
 ·
  intro ue0 ue3 ⟨x1v, x4, x5, x7⟩ r h nz wz S0 w0 Lr S1 w1 hx gx1 u1z u20 u21 Gx4 nx4 cx4 ube p1 u22 u23 u24 fx4 lx4 junk
  try dsimp only at h
  subst u24
  subst lx4
  refine Gm 7 [([52], .i x7), ([53, 7], .i (wr .i64 (x7 + 1)))] Jm1 ?_
  exact Gj 136 [(1, (pt gx1 0)), (4, .slice (Gp Gx4) x4.length cx4), (5, .bool x5), (7, .i (wr .i64 (x7 + 1)))] (ue3 _ _ h _ _ hx _ _ _ _ _ _ _ _ p1 u22 u23 rfl fx4 rfl)

theorem W.z34 : ∀ a r, M.a7 a = some r → LF.z34 a r := (W.z3q).1

theorem W.z3n : ∀ a r, M.a1n a = some r → LL.z3n a r := (W.z3q).2.1

theorem W.z3o : ∀ a r, M.a2s a = some r → LL.z3o a r := (W.z3q).2.2.1

theorem W.z3p : ∀ a r, M.a56 a = some r → LL.z3p a r := (W.z3q).2.2.2.1

theorem W.z3l : ∀ a r, M.a3z a = some r → LL.z3l a r := (W.z3q).2.2.2.2.1

theorem W.z3m : ∀ a r, M.a2r a = some r → LL.z3m a r := (W.z3q).2.2.2.2.2.1

theorem W.z3i : ∀ a r, M.a1m a = some r → LL.z3i a r := (W.z3q).2.2.2.2.2.2.1

theorem W.z3j : ∀ a r, M.a2q a = some r → LL.z3j a r := (W.z3q).2.2.2.2.2.2.2.1

theorem W.z3k : ∀ a r, M.a55 a = some r → LL.z3k a r := (W.z3q).2.2.2.2.2.2.2.2

def Qih := Yq 1110100 B17
def Jnx := Zl Qih (Zb 0 (Ys 1111 B17 []))
def Jny := Zc Qih Jnx
def Jo4 := Ys 11111 B17 []

def Post.z3r (r : List ByteArray) (v : Value) (w' : World) : Prop :=
 ∃ S' Gq nq cq csq, v = .slice (Gp Gq) nq cq ∧ Ext S0 w0 S' w' ∧ Hp nz wz S' w' ((Gq, .row 9 csq (cq * kStr.size) 0) :: Lr) ∧ Els kStr S' w' csq r ∧ r.length = nq

def L.z3s : ByteArray × (List ByteArray) × Int → (List ByteArray) → Prop := fun ⟨x0, x3, x4⟩ r => ∀ S1 w1, Ext S0 w0 S1 w1 → ∀ Gx3 nx3 cx3 u2l (_ : Hp nz wz S1 w1 ((Gx3, .row 9 u2l (cx3 * kStr.size) 0) :: Lr)) (_ : Els kStr S1 w1 u2l x3) (_ : x3.length = nx3) (junk : Nat → Value),
 Goes Tryz.prog (base 17) Jny ⟨lfr 23 [(0, .string x0), (3, .slice (Gp Gx3) nx3 cx3), (4, .i x4)] junk, []⟩ w1 (Done Tryz.prog 17 (Rets (Post.z3r nz wz S0 w0 Lr r)))

theorem W.z3s {nz wz S0 w0 Lr} : ∀ a r, M.a40 a = some r → (L.z3s nz wz S0 w0 Lr) a r := by
 refine M.a40.partial_correctness (motive := (L.z3s nz wz S0 w0 Lr)) ?_
 intro ufs uft ⟨x0, x3, x4⟩ r h S1 w1 hx Gx3 nx3 cx3 u2l p1 fx3 lx3 junk
 try dsimp only at h
 subst lx3
 refine Gn 9 [(6, .i x4), (7, .i (wr .i64 (x4 + 3))), (8, .string x0), (9, .i (x0.size : Int)), (10, .bool (decide (wr .i64 (x4 + 3) ≤ (x0.size : Int))))] (Ys 111010001 B17 (Ys 11101001 B17 Jnx)) ?_
 refine Gi h (fun h5 h => ?_) fun h5 h => ?_
 ·
  rw [dt h5]
  refine Gm 10 [([13], .slice (Gp Gx3) x3.length cx3), ([14], .string x0), ([15, 16], .i x4), ([17], .i (wr .i64 (x4 + 3)))] (Yt 1110100100 B17 [5, 6, 7, 8] (Zb 1 (Ys 111010011 B17 Jnx))) ?_
  refine Gg h fun g6 h => ?_
  refine Gg h fun g7 h => ?_
  refine Op_.slS_n 9 (.tmp 14) (some (.tmp 15)) (some (.tmp 17)) 18 9 x0 x4 (wr .i64 (x4 + 3)) (ss x0 x4 (wr .i64 (x4 + 3))) rfl Goes.v (by kernel_rfl) (by kernel_rfl) (Bnd.at_ .i64 (by kernel_rfl)) (Bnd.at_ .i64 (by kernel_rfl)) g6 g7 h5 ?_
  have f9 : Els kStr S1 w1 ([.string (ss x0 x4 (wr .i64 (x4 + 3)))] : List Value) [ss x0 x4 (wr .i64 (x4 + 3))] := by exact (Els.cons (K := kStr) (vs := [.string (ss x0 x4 (wr .i64 (x4 + 3)))]) (x := ss x0 x4 (wr .i64 (x4 + 3))) rfl Els.nil)
  refine Om (.buildSlice 43 1 #[(0, (.tmp 18))]) 19 43 (fun b => .slice (Gp (some b)) 1 1) 9 ([.string (ss x0 x4 (wr .i64 (x4 + 3)))] : List Value) (1 * kStr.size) p1 Goes.v fun b8 w3 z3 p3 => ?_
  refine Gg h fun g14 h => ?_
  refine On (K := kStr) 43 (.tmp 13) (.tmp 19) 20 43 9 1 (.string ⟨#[]⟩) 16 x3.length cx3 1 x3 [ss x0 x4 (wr .i64 (x4 + 3))] (x3 ++ [ss x0 x4 (wr .i64 (x4 + 3))]) (Gp (some b8)) 1 rfl rfl rfl p3 rfl (fx3.ext z3) Goes.v (f9.ext z3) (src_own p3 (q := 0) rfl) g14 fun w4 G15 c16 u50 z4 p4 f18 => ?_
  refine Gm 9 [([3], .slice (Gp G15) ((x3 ++ [ss x0 x4 (wr .i64 (x4 + 3))]).length) c16), ([11], .i x4), ([12, 4], .i (wr .i64 (x4 + 1)))] Jny ?_
  have p4 := p4.dp 0
  exact Gj 23 [(0, .string x0), (3, .slice (Gp G15) ((x3 ++ [ss x0 x4 (wr .i64 (x4 + 3))]).length) c16), (4, .i (wr .i64 (x4 + 1)))] (uft _ _ h _ _ ((hx.t z3).t z4) _ _ _ _ p4 f18 rfl)
 ·
  rw [df h5]
  refine Gn 5 [(21, .slice (Gp Gx3) x3.length cx3)] (Yt 11110 B17 [1, 2] Jo4) ?_
  obtain ⟨S5, z5, p5, f19⟩ := p1.freezeRd 0 rfl fx3 (by decide)
  refine Gb h fun y20 e21 h => ?_
  refine Gc (kc 60 [21] #[43]) 22 43 60 _ (W.z38 x3 y20 e21 _ _ _ p5 f19 rfl) ?_
  rintro _ w6 ⟨S6, ufu, ufv, ufw, ufx, rfl, z6, p6, ufy, rfl⟩
  have p6 := p6.dp 1
  refine Gn 2 [(2, .slice (Gp ufu) y20.length ufw)] Jo4 ?_
  obtain rfl := sj h
  exact Goes.rt Tryz.f17 (.slice (Gp ufu) y20.length ufw) ⟨_, _, _, _, _, rfl, ((hx.t z5).t z6), p6, ufy, rfl⟩


theorem W.z3r (x0 : ByteArray) (r : List ByteArray) (h : M.a57 x0 = some r) {nz wz S0 w0 Lr} (p0 : Hp nz wz S0 w0 (Lr)) :
  Calls Tryz.prog 17 #[.string x0] w0 (Rets (Post.z3r nz wz S0 w0 Lr r)) := by
 refine Zf Tryz.f17 B17 22 ?_
 refine Gj 23 [(0, .string x0)] fun junk => ?_
 delta M.a57 at h
 refine Gn 6 [(2, .slice none 0 0)] (Yt 110 B17 [0, 1] (Ys 111 B17 [])) ?_
 have f2 : Els kStr S0 w0 ([] : List Value) ([] : List ByteArray) := by exact Els.nil
 refine Om (.buildSlice 43 0 #[]) 5 43 (fun b => .slice (Gp (some b)) 0 0) 9 ([] : List Value) (0 * kStr.size) p0 Goes.v fun b1 w2 z2 p2 => ?_
 refine Gn 9 [(3, .slice (Gp (some b1)) 0 0), (4, .i 0)] Jny ?_
 exact Gj 23 [(0, .string x0), (3, .slice (Gp (some b1)) 0 0), (4, .i 0)] (W.z3s _ _ h _ _ z2 (some b1) 0 0 _ p2 (f2.ext z2) rfl)

end

end Go.Gx
