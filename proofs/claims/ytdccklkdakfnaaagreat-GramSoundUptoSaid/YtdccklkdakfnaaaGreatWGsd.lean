import Derived.Test.YtdccklkdakfnaaaGreatWGsc
set_option linter.unusedVariables false
set_option linter.unusedSimpArgs false
set_option maxRecDepth 100000
set_option maxHeartbeats 4000000
namespace Go.Gx
open Go.RowKit Go.Proofs
variable (nz : Nat) (wz : World) (S0 : Fz) (w0 : World) (Lr : List Ent)
noncomputable section
def Jzf := Ys 111 B148 []
def Qsz := Yq 110 B148
def Post.z4v (gx0 : Nat) (ukk : Option Nat) (ukl : Nat) (ukm : Nat) (ukn : List Value) (ukj : List T174) (r : T248) (v : Value) (w' : World) : Prop :=
 ∃ S' ukr, v = .agg #[.i r.n, ukr] ∧ Ext S0 w0 S' w' ∧ Hp nz wz S' w' ((some gx0, .row 171 [.slice (Gp ukk) ukl ukm] 1 0) :: (ukk, .row 175 ukn (ukm * kT174.size) 0) :: Lr) ∧ Rp1 (kC247 gx0) S' w' ukr r.code
theorem W.z4v (ukj : List T174) (x1 : T26) (r : T248) (h : M.a2f ukj x1 = some r) {nz wz S0 w0 Lr} (gx0 ukk ukl ukm ukn ufg ufh ufi) (p0 : Hp nz wz S0 w0 ((some gx0, .row 171 [.slice (Gp ukk) ukl ukm] 1 0) :: (ukk, .row 175 ukn (ukm * kT174.size) 0) :: Lr)) (uko : Els kT174 S0 w0 ukn ukj) (ukp : ukj.length = ukl) (ukq : x1.Set.length = 4) (ufo : Rd kT26 S0 w0 ufg ufi x1.L) (ufp : x1.L.length = ufh) :
  Calls Tg 148 #[(pt gx0 0), (ag (vT26 x1 ufg ufh ufi))] w0 (Rets (Post.z4v nz wz S0 w0 Lr gx0 ukk ukl ukm ukn ukj r)) := by
 subst ukp
 subst ufp
 refine Zf Tryz.f148 B148 7 ?_
 refine Gj 9 [(0, (pt gx0 0)), (1, (ag (vT26 x1 ufg x1.L.length ufi)))] fun junk => ?_
 delta M.a2f at h
 refine Gn 2 [] (Yt 10 B148 [0, 1, 2] (Ys 11 B148 [])) ?_
 refine Ob 169 0 2 0 ((pt gx0 0)) [(pt gx0 0)] p0 Xa fun b3 w2 z2 p2 => ?_
 refine Ob 27 1 3 0 (ag (vT26 x1 ufg x1.L.length ufi)) (vT26 x1 ufg x1.L.length ufi) p2 Xa fun b5 w3 z3 p3 => ?_
 refine Oa 249 4 0 (.agg #[.i 0, .nilFunc]) [.i 0, .nilFunc] p3 Xa fun b7 w4 z4 p4 => ?_
 refine Gn 3 [] (Zr Qsz [0, 1, 2, 3, 4] Jzf) ?_
 refine Xf 27 3 5 27 ⟨b5, 0, none⟩ (vT26 x1 ufg x1.L.length ufi) (p4.pa 1 0) ?_
 refine Gb h fun y9 e10 h => ?_
 refine Gc (kc 146 [5] #[27]) 6 3 146 _ (W.z4q x1 y9 e10 _ _ _ p4 ukq (ufo.ext ((z2.t z3).t z4)) rfl) ?_
 rintro _ w5 ⟨S5, rfl, z5, p5⟩
 refine Gn 2 [(7, .func (.func 206) #[] #[(pt b3 0), (pt b5 0)]), (8, .agg #[.i y9, .func (.func 206) #[] #[(pt b3 0), (pt b5 0)]])] (Zr Qsz [4] Jzf) ?_
 refine So 249 4 8 0 0 b7 0 (.agg #[.i y9, .func (.func 206) #[] #[(pt b3 0), (pt b5 0)]]) [.i y9, .func (.func 206) #[] #[(pt b3 0), (pt b5 0)]] p5 rfl Xd fun w6 z6 p6 => ?_
 refine Gn 1 [] Jzf ?_
 obtain ⟨S7, z7, p7, f11⟩ := p6.freezeBlk 2 rfl
 obtain ⟨S8, z8, p8, f12⟩ := p7.freezeBlk 1 rfl
 obtain rfl := sj h
 exact R1 Tryz.f148 (.cell 4 249) (.agg #[.i y9, .func (.func 206) #[] #[(pt b3 0), (pt b5 0)]]) (Rn b7 (p8.pa 0 0)) ⟨_, _, rfl, ((((((z2.t z3).t z4).t z5).t z6).t z7).t z8), p8.drop, (show Rp1 (kC247 gx0) S8 w6 (.func (.func 206) #[] #[(pt b3 0), (pt b5 0)]) ((Sum.inl x1) : T26 ⊕ T26 ⊕ (Int × T26)) from ⟨[(pt b3 0), (pt b5 0)], rfl, ⟨[(pt b3 0)], [(pt b5 0)], rfl, ⟨_, rfl, (f11.ext z8)⟩, ⟨_, _, rfl, List.cons_ne_nil _ _, f12, (kT26_close ⟨[.i x1.Kind], (U4 x1.Set [.slice ufg x1.L.length ufi, .i x1.Min, .i x1.Max]), rfl, rfl, ⟨(U4 x1.Set []), [.slice ufg x1.L.length ufi, .i x1.Min, .i x1.Max], rfl, ⟨ukq, els_mk4 ukq⟩, ⟨[.slice ufg x1.L.length ufi], [.i x1.Min, .i x1.Max], rfl, ⟨_, _, rfl, (ufo.ext ((((((z2.t z3).t z4).t z5).t z6).t z7).t z8))⟩, ⟨[.i x1.Min], [.i x1.Max], rfl, rfl, rfl⟩⟩⟩⟩)⟩⟩⟩)⟩
def Jzk := Ys 111 B207 []
def Qt3 := Yq 110 B207
def Post.z4w (gx0 : Nat) (ukk : Option Nat) (ukl : Nat) (ukm : Nat) (ukn : List Value) (ukj : List T174) (r : T248) (v : Value) (w' : World) : Prop :=
 ∃ S' ukr, v = .agg #[.i r.n, ukr] ∧ Ext S0 w0 S' w' ∧ Hp nz wz S' w' ((some gx0, .row 171 [.slice (Gp ukk) ukl ukm] 1 0) :: (ukk, .row 175 ukn (ukm * kT174.size) 0) :: Lr) ∧ Rp1 (kC247 gx0) S' w' ukr r.code
theorem W.z4w (ukj : List T174) (x1 : T26) (r : T248) (h : M.a4a ukj x1 = some r) {nz wz S0 w0 Lr} (gx0 ukk ukl ukm ukn ufg ufh ufi) (p0 : Hp nz wz S0 w0 ((some gx0, .row 171 [.slice (Gp ukk) ukl ukm] 1 0) :: (ukk, .row 175 ukn (ukm * kT174.size) 0) :: Lr)) (uko : Els kT174 S0 w0 ukn ukj) (ukp : ukj.length = ukl) (ukq : x1.Set.length = 4) (ufo : Rd kT26 S0 w0 ufg ufi x1.L) (ufp : x1.L.length = ufh) :
  Calls Tg 207 #[(pt gx0 0), (ag (vT26 x1 ufg ufh ufi))] w0 (Rets (Post.z4w nz wz S0 w0 Lr gx0 ukk ukl ukm ukn ukj r)) := by
 subst ukp
 subst ufp
 refine Zf Tryz.f207 B207 8 ?_
 refine Gj 10 [(0, (pt gx0 0)), (1, (ag (vT26 x1 ufg x1.L.length ufi)))] fun junk => ?_
 delta M.a4a at h
 refine Gn 2 [] (Yt 10 B207 [0, 1, 2] (Ys 11 B207 [])) ?_
 refine Ob 169 0 2 0 ((pt gx0 0)) [(pt gx0 0)] p0 Xa fun b3 w2 z2 p2 => ?_
 refine Ob 27 1 3 0 (ag (vT26 x1 ufg x1.L.length ufi)) (vT26 x1 ufg x1.L.length ufi) p2 Xa fun b5 w3 z3 p3 => ?_
 refine Oa 249 4 0 (.agg #[.i 0, .nilFunc]) [.i 0, .nilFunc] p3 Xa fun b7 w4 z4 p4 => ?_
 refine Gn 3 [] (Zr Qt3 [0, 1, 2, 3, 4, 5] Jzk) ?_
 refine Xf 27 3 5 27 ⟨b5, 0, none⟩ (vT26 x1 ufg x1.L.length ufi) (p4.pa 1 0) ?_
 refine Gb h fun y9 e10 h => ?_
 refine Gc (kc 146 [5] #[27]) 6 3 146 _ (W.z4q x1 y9 e10 _ _ _ p4 ukq (ufo.ext ((z2.t z3).t z4)) rfl) ?_
 rintro _ w5 ⟨S5, rfl, z5, p5⟩
 refine Gn 3 [(7, .i (wr .i64 (y9 + 1))), (8, .func (.func 252) #[] #[(pt b3 0), (pt b5 0)]), (9, .agg #[.i (wr .i64 (y9 + 1)), .func (.func 252) #[] #[(pt b3 0), (pt b5 0)]])] (Zr Qt3 [5] Jzk) ?_
 refine So 249 4 9 0 0 b7 0 (.agg #[.i (wr .i64 (y9 + 1)), .func (.func 252) #[] #[(pt b3 0), (pt b5 0)]]) [.i (wr .i64 (y9 + 1)), .func (.func 252) #[] #[(pt b3 0), (pt b5 0)]] p5 rfl Xd fun w6 z6 p6 => ?_
 refine Gn 1 [] Jzk ?_
 obtain ⟨S7, z7, p7, f11⟩ := p6.freezeBlk 2 rfl
 obtain ⟨S8, z8, p8, f12⟩ := p7.freezeBlk 1 rfl
 obtain rfl := sj h
 exact R1 Tryz.f207 (.cell 4 249) (.agg #[.i (wr .i64 (y9 + 1)), .func (.func 252) #[] #[(pt b3 0), (pt b5 0)]]) (Rn b7 (p8.pa 0 0)) ⟨_, _, rfl, ((((((z2.t z3).t z4).t z5).t z6).t z7).t z8), p8.drop, (show Rp1 (kC247 gx0) S8 w6 (.func (.func 252) #[] #[(pt b3 0), (pt b5 0)]) ((Sum.inr (Sum.inl x1)) : T26 ⊕ T26 ⊕ (Int × T26)) from ⟨[(pt b3 0), (pt b5 0)], rfl, ⟨[(pt b3 0)], [(pt b5 0)], rfl, ⟨_, rfl, (f11.ext z8)⟩, ⟨_, _, rfl, List.cons_ne_nil _ _, f12, (kT26_close ⟨[.i x1.Kind], (U4 x1.Set [.slice ufg x1.L.length ufi, .i x1.Min, .i x1.Max]), rfl, rfl, ⟨(U4 x1.Set []), [.slice ufg x1.L.length ufi, .i x1.Min, .i x1.Max], rfl, ⟨ukq, els_mk4 ukq⟩, ⟨[.slice ufg x1.L.length ufi], [.i x1.Min, .i x1.Max], rfl, ⟨_, _, rfl, (ufo.ext ((((((z2.t z3).t z4).t z5).t z6).t z7).t z8))⟩, ⟨[.i x1.Min], [.i x1.Max], rfl, rfl, rfl⟩⟩⟩⟩)⟩⟩⟩)⟩
def Jzp := Ys 111 B208 []
def Qt7 := Yq 110 B208
def Post.z4x (gx0 : Nat) (ukk : Option Nat) (ukl : Nat) (ukm : Nat) (ukn : List Value) (ukj : List T174) (r : T248) (v : Value) (w' : World) : Prop :=
 ∃ S' ukr, v = .agg #[.i r.n, ukr] ∧ Ext S0 w0 S' w' ∧ Hp nz wz S' w' ((some gx0, .row 171 [.slice (Gp ukk) ukl ukm] 1 0) :: (ukk, .row 175 ukn (ukm * kT174.size) 0) :: Lr) ∧ Rp1 (kC247 gx0) S' w' ukr r.code
theorem W.z4x (ukj : List T174) (x1 : T26) (x2 : Int) (r : T248) (h : M.a4b ukj x1 x2 = some r) {nz wz S0 w0 Lr} (gx0 ukk ukl ukm ukn ufg ufh ufi) (p0 : Hp nz wz S0 w0 ((some gx0, .row 171 [.slice (Gp ukk) ukl ukm] 1 0) :: (ukk, .row 175 ukn (ukm * kT174.size) 0) :: Lr)) (uko : Els kT174 S0 w0 ukn ukj) (ukp : ukj.length = ukl) (ukq : x1.Set.length = 4) (ufo : Rd kT26 S0 w0 ufg ufi x1.L) (ufp : x1.L.length = ufh) :
  Calls Tg 208 #[(pt gx0 0), (ag (vT26 x1 ufg ufh ufi)), .i x2] w0 (Rets (Post.z4x nz wz S0 w0 Lr gx0 ukk ukl ukm ukn ukj r)) := by
 subst ukp
 subst ufp
 refine Zf Tryz.f208 B208 9 ?_
 refine Gj 12 [(0, (pt gx0 0)), (1, (ag (vT26 x1 ufg x1.L.length ufi))), (2, .i x2)] fun junk => ?_
 delta M.a4b at h
 refine Gn 2 [] (Yt 10 B208 [0, 1, 2, 3] (Ys 11 B208 [])) ?_
 refine Ob 169 0 3 0 ((pt gx0 0)) [(pt gx0 0)] p0 Xa fun b3 w2 z2 p2 => ?_
 refine Ob 27 1 4 0 (ag (vT26 x1 ufg x1.L.length ufi)) (vT26 x1 ufg x1.L.length ufi) p2 Xa fun b5 w3 z3 p3 => ?_
 refine Ob 3 2 5 0 (.i x2) [.i x2] p3 Xa fun b7 w4 z4 p4 => ?_
 refine Oa 249 6 0 (.agg #[.i 0, .nilFunc]) [.i 0, .nilFunc] p4 Xa fun b9 w5 z5 p5 => ?_
 refine Gn 3 [] (Zr Qt7 [0, 1, 2, 3, 4, 5] Jzp) ?_
 refine Xf 27 4 7 27 ⟨b5, 0, none⟩ (vT26 x1 ufg x1.L.length ufi) (p5.pa 2 0) ?_
 refine Gb h fun y11 e12 h => ?_
 refine Gc (kc 146 [7] #[27]) 8 3 146 _ (W.z4q x1 y11 e12 _ _ _ p5 ukq (ufo.ext (((z2.t z3).t z4).t z5)) rfl) ?_
 rintro _ w6 ⟨S6, rfl, z6, p6⟩
 refine Gn 3 [(9, .i (wr .i64 (y11 + 1))), (10, .func (.func 253) #[] #[(pt b3 0), (pt b7 0), (pt b5 0)]), (11, .agg #[.i (wr .i64 (y11 + 1)), .func (.func 253) #[] #[(pt b3 0), (pt b7 0), (pt b5 0)]])] (Zr Qt7 [5] Jzp) ?_
 refine So 249 6 11 0 0 b9 0 (.agg #[.i (wr .i64 (y11 + 1)), .func (.func 253) #[] #[(pt b3 0), (pt b7 0), (pt b5 0)]]) [.i (wr .i64 (y11 + 1)), .func (.func 253) #[] #[(pt b3 0), (pt b7 0), (pt b5 0)]] p6 rfl Xd fun w7 z7 p7 => ?_
 refine Gn 1 [] Jzp ?_
 obtain ⟨S8, z8, p8, f13⟩ := p7.freezeBlk 3 rfl
 obtain ⟨S9, z9, p9, f14⟩ := p8.freezeBlk 1 rfl
 obtain ⟨S10, z10, p10, f15⟩ := p9.freezeBlk 1 rfl
 obtain rfl := sj h
 exact R1 Tryz.f208 (.cell 6 249) (.agg #[.i (wr .i64 (y11 + 1)), .func (.func 253) #[] #[(pt b3 0), (pt b7 0), (pt b5 0)]]) (Rn b9 (p10.pa 0 0)) ⟨_, _, rfl, ((((((((z2.t z3).t z4).t z5).t z6).t z7).t z8).t z9).t z10), p10.drop, (show Rp1 (kC247 gx0) S10 w7 (.func (.func 253) #[] #[(pt b3 0), (pt b7 0), (pt b5 0)]) ((Sum.inr (Sum.inr (x2, x1))) : T26 ⊕ T26 ⊕ (Int × T26)) from ⟨[(pt b3 0), (pt b7 0), (pt b5 0)], rfl, ⟨[(pt b3 0)], [(pt b7 0), (pt b5 0)], rfl, ⟨_, rfl, (f13.ext (z9.t z10))⟩, ⟨[(pt b7 0)], [(pt b5 0)], rfl, ⟨_, _, rfl, List.cons_ne_nil _ _, (f14.ext z10), rfl⟩, ⟨_, _, rfl, List.cons_ne_nil _ _, f15, (kT26_close ⟨[.i x1.Kind], (U4 x1.Set [.slice ufg x1.L.length ufi, .i x1.Min, .i x1.Max]), rfl, rfl, ⟨(U4 x1.Set []), [.slice ufg x1.L.length ufi, .i x1.Min, .i x1.Max], rfl, ⟨ukq, els_mk4 ukq⟩, ⟨[.slice ufg x1.L.length ufi], [.i x1.Min, .i x1.Max], rfl, ⟨_, _, rfl, (ufo.ext ((((((((z2.t z3).t z4).t z5).t z6).t z7).t z8).t z9).t z10))⟩, ⟨[.i x1.Min], [.i x1.Max], rfl, rfl, rfl⟩⟩⟩⟩)⟩⟩⟩⟩)⟩
def Jzs := Ys 1111111 B149 []
def Qt9 := Yq 1111110100 B149
def Jzu := Zl Qt9 (Zb 2 Jzs)
def Jzv := Zc Qt9 Jzu
def Jzx := Ys 111111010010 B149 (Ys 111111010011 B149 Jzu)
def Jzz := Zb 3 (Ys 1111110100111 B149 Jzu)
def Qtd := Yq 11111101001100 B149
def J100 := Zr Qtd [2, 3, 4, 5, 6, 7] Jzz
def J101 := Zr Qtd [4, 5, 6, 7] Jzz
def J102 := Ys 11111111 B149 []
def Post.z4y (gx0 : Nat) (ukk : Option Nat) (ukl : Nat) (ukm : Nat) (ukn : List Value) (ukj : List T174) (r : List T248) (v : Value) (w' : World) : Prop :=
 ∃ S' Gq nq cq csq, v = .slice (Gp Gq) nq cq ∧ Ext S0 w0 S' w' ∧ Hp nz wz S' w' ((Gq, .row 249 csq (cq * (kT248 gx0).size) 0) :: (some gx0, .row 171 [.slice (Gp ukk) ukl ukm] 1 0) :: (ukk, .row 175 ukn (ukm * kT174.size) 0) :: Lr) ∧ Els (kT248 gx0) S' w' csq r ∧ r.length = nq
def L.z4z (gx0 : Nat) (ukk : Option Nat) (ukl : Nat) (ukm : Nat) (ukn : List Value) : Int × (List T248) × T26 × Int × Int × (List T174) → (List T248) → Prop := fun ⟨x2, x7, x8v, x37, x38, ukj⟩ r => ∀ S1 w1, Ext S0 w0 S1 w1 → ∀ Gx7 nx7 cx7 uc7 gx8 uks ukt uku (_ : Hp nz wz S1 w1 ((Gx7, .row 249 uc7 (cx7 * (kT248 gx0).size) 0) :: (some gx8, .row 27 (vT26 x8v uks ukt uku) 8 0) :: (some gx0, .row 171 [.slice (Gp ukk) ukl ukm] 1 0) :: (ukk, .row 175 ukn (ukm * kT174.size) 0) :: Lr)) (_ : Els (kT248 gx0) S1 w1 uc7 x7) (_ : x7.length = nx7) (_ : x8v.Set.length = 4) (_ : Rd kT26 S1 w1 uks uku x8v.L) (_ : x8v.L.length = ukt) (_ : Els kT174 S1 w1 ukn ukj) (_ : ukj.length = ukl) (junk : Nat → Value),
 Goes Tg (base 149) Jzv ⟨lfr 49 [(0, (pt gx0 0)), (2, .i x2), (7, .slice (Gp Gx7) nx7 cx7), (8, (pt gx8 0)), (37, .i x37), (38, .i x38)] junk, []⟩ w1 (Done Tg 149 (Rets (Post.z4y nz wz S0 w0 Lr gx0 ukk ukl ukm ukn ukj r)))
theorem W.z4z {nz wz S0 w0 Lr} (gx0 : Nat) (ukk : Option Nat) (ukl : Nat) (ukm : Nat) (ukn : List Value) : ∀ a r, M.a1u a = some r → (L.z4z nz wz S0 w0 Lr gx0 ukk ukl ukm ukn) a r := by
 refine M.a1u.partial_correctness (motive := (L.z4z nz wz S0 w0 Lr gx0 ukk ukl ukm ukn)) ?_
 intro ukv ukw ⟨x2, x7, x8v, x37, x38, ukj⟩ r h S1 w1 hx Gx7 nx7 cx7 uc7 gx8 uks ukt uku p1 fx7 lx7 ukx uky ukz fs5 ls5 junk
 try dsimp only at h
 subst lx7
 subst ukz
 subst ls5
 refine Gn 5 [(39, .bool (decide (x38 < x37)))] Jzx ?_
 refine Gi h (fun h99 h => ?_) fun h99 h => ?_
 ·
  rw [dt h99]
  refine Gn 7 [(40, .slice (Gp Gx7) x7.length cx7), (41, (pt gx0 0))] J100 ?_
  refine Xf 27 8 42 27 ⟨gx8, 0, none⟩ (vT26 x8v uks x8v.L.length uku) (p1.pa 1 0) ?_
  refine Gn 1 [(43, .i x2)] J101 ?_
  have p1 := (p1.fr 3).fr 3
  refine Gb h fun ul0 ul1 h => ?_
  refine Gc (kc 208 [41, 42, 43] #[169, 27, 3]) 44 249 208 _ (W.z4x ukj x8v x2 ul0 ul1 _ _ _ _ _ _ _ _ p1 fs5 rfl ukx uky rfl) ?_
  rintro _ w20 ⟨S20, ul2, rfl, z20, p20, ul3⟩
  have ul4 : Els (kT248 gx0) S20 w20 ([.i ul0.n, ul2] : List Value) [ul0] := by exact (Els.cons (K := (kT248 gx0)) (vs := [.i ul0.n, ul2]) (x := ul0) ⟨[.i ul0.n], [ul2], rfl, rfl, ul3⟩ Els.nil)
  refine Op_.made (.buildSlice 245 1 #[(0, 44)]) 45 245 (fun b => .slice (Gp (some b)) 1 1) 249 ([.i ul0.n, ul2] : List Value) p20 Xa (by kernel_rfl) fun ul5 w21 z21 p21 => ?_
  have p21 : Hp nz wz S20 w21 (((some ul5), .row 249 ([.i ul0.n, ul2] : List Value) (1 * (kT248 gx0).size) 0) :: (some gx0, .row 171 [.slice (Gp ukk) ukj.length ukm] 1 0) :: (ukk, .row 175 ukn (ukm * kT174.size) 0) :: (Gx7, .row 249 uc7 (cx7 * (kT248 gx0).size) 0) :: (some gx8, .row 27 (vT26 x8v uks x8v.L.length uku) 8 0) :: Lr) := p21
  refine Gg h fun ul6 h => ?_
  refine Op_.ap_n (K := (kT248 gx0)) 245 40 45 46 245 249 3 (.agg #[.i 0, .nilFunc]) 16 x7.length cx7 1 x7 [ul0] (x7 ++ [ul0]) (Gp (some ul5)) 1 rfl rfl rfl p21 rfl (fx7.ext (z20.t z21)) Xa (by kernel_rfl) (by kernel_rfl) (by kernel_rfl) (by kernel_rfl) rfl (show (0 : Nat) < 2 by decide) (ul4.ext z21) (src_own p21 (q := 0) rfl) (by have := ul6; omega) (by have := ul6; omega) fun w22 ul7 ul8 ul9 z22 p22 ula => ?_
  refine Gm 8 [([7], .slice (Gp ul7) ((x7 ++ [ul0]).length) ul8), ([47, 38], .i (wr .i64 (x38 + 1)))] Jzv ?_
  have p22 := p22.dp 0
  have p22 := (((p22.fr 1).fr 1).fr 3).fr 3
  exact Gj 49 [(0, (pt gx0 0)), (2, .i x2), (7, .slice (Gp ul7) ((x7 ++ [ul0]).length) ul8), (8, (pt gx8 0)), (37, .i x37), (38, .i (wr .i64 (x38 + 1)))] (ukw _ _ h _ _ (((hx.t z20).t z21).t z22) _ _ _ _ _ _ _ _ p22 ula rfl ukx (uky.ext ((z20.t z21).t z22)) rfl (fs5.ext ((z20.t z21).t z22)) rfl)
 ·
  rw [df h99]
  refine Gm 7 [([48, 6], .slice (Gp Gx7) x7.length cx7)] J102 ?_
  obtain rfl := sj h
  have p1 := p1.dp 1
  exact Xc Tryz.f149 (.slice (Gp Gx7) x7.length cx7) ⟨_, _, _, _, _, rfl, hx, p1, fx7, rfl⟩
def J103 := Ys 11111 B149 []
def Qtg := Yq 11110100 B149
def J105 := Zl Qtg (Zb 0 J103)
def J106 := Zc Qtg J105
def J108 := Ys 1111010010 B149 (Ys 1111010011 B149 J105)
def J10b := Yt 111101001100 B149 [2, 3, 4, 5, 6] (Zb 1 (Ys 11110100111 B149 J105))
def J10c := Ys 111111 B149 []
def J10d := Ys 1111101 B149 J10c
def J10e := Yt 1111100 B149 [1, 2] J10d
def J10f := Ys 111110101 B149 J10c
def J10g := Yt 111110100 B149 [2, 3, 4, 5, 6] J10f
def J10h := Ys 11111101 B149 Jzs
def Qtr := Yq 11111100 B149
def J10i := Zr Qtr [1, 2, 3, 4, 5] J10h
def J10j := Zr Qtr [3, 4, 5] J10h
def L.z50 (gx0 : Nat) (ukk : Option Nat) (ukl : Nat) (ukm : Nat) (ukn : List Value) : Int × T26 × (List T248) × T26 × Int × Int × (List T174) → (List T248) → Prop := fun ⟨x2, x4v, x7, x8v, x14, x15, ukj⟩ r => ∀ S1 w1, Ext S0 w0 S1 w1 → ∀ gx4 ulb ugd uge Gx7 nx7 cx7 uc7 gx8 uks ukt uku (_ : Hp nz wz S1 w1 ((some gx4, .row 27 (vT26 x4v ulb ugd uge) 8 0) :: (Gx7, .row 249 uc7 (cx7 * (kT248 gx0).size) 0) :: (some gx8, .row 27 (vT26 x8v uks ukt uku) 8 0) :: (some gx0, .row 171 [.slice (Gp ukk) ukl ukm] 1 0) :: (ukk, .row 175 ukn (ukm * kT174.size) 0) :: Lr)) (_ : x4v.Set.length = 4) (_ : Rd kT26 S1 w1 ulb uge x4v.L) (_ : x4v.L.length = ugd) (_ : Els (kT248 gx0) S1 w1 uc7 x7) (_ : x7.length = nx7) (_ : x8v.Set.length = 4) (_ : Rd kT26 S1 w1 uks uku x8v.L) (_ : x8v.L.length = ukt) (_ : Els kT174 S1 w1 ukn ukj) (_ : ukj.length = ukl) (junk : Nat → Value),
 Goes Tg (base 149) J106 ⟨lfr 49 [(0, (pt gx0 0)), (2, .i x2), (4, (pt gx4 0)), (7, .slice (Gp Gx7) nx7 cx7), (8, (pt gx8 0)), (14, .i x14), (15, .i x15)] junk, []⟩ w1 (Done Tg 149 (Rets (Post.z4y nz wz S0 w0 Lr gx0 ukk ukl ukm ukn ukj r)))
theorem W.z50 {nz wz S0 w0 Lr} (gx0 : Nat) (ukk : Option Nat) (ukl : Nat) (ukm : Nat) (ukn : List Value) : ∀ a r, M.a1v a = some r → (L.z50 nz wz S0 w0 Lr gx0 ukk ukl ukm ukn) a r := by
 refine M.a1v.partial_correctness (motive := (L.z50 nz wz S0 w0 Lr gx0 ukk ukl ukm ukn)) ?_
 intro ulc uld ⟨x2, x4v, x7, x8v, x14, x15, ukj⟩ r h S1 w1 hx gx4 ulb ugd uge Gx7 nx7 cx7 uc7 gx8 uks ukt uku p1 ule ugi ugj fx7 lx7 ukx uky ukz fs8 ls8 junk
 try dsimp only at h
 subst ugj
 subst lx7
 subst ukz
 subst ls8
 refine Gn 5 [(16, .bool (decide (x15 < x14)))] J108 ?_
 refine Gi h (fun h53 h => ?_) fun h53 h => ?_
 ·
  rw [dt h53]
  refine Gn 7 [(17, .slice (Gp Gx7) x7.length cx7), (18, (pt gx0 0))] J10b ?_
  refine Xf 27 8 19 27 ⟨gx8, 0, none⟩ (vT26 x8v uks x8v.L.length uku) (p1.pa 2 0) ?_
  have p1 := (p1.fr 4).fr 4
  refine Gb h fun y54 e55 h => ?_
  refine Gc (kc 148 [18, 19] #[169, 27]) 20 249 148 _ (W.z4v ukj x8v y54 e55 _ _ _ _ _ _ _ _ p1 fs8 rfl ukx uky rfl) ?_
  rintro _ w11 ⟨S11, ulf, rfl, z11, p11, ulg⟩
  have f57 : Els (kT248 gx0) S11 w11 ([.i y54.n, ulf] : List Value) [y54] := by exact (Els.cons (K := (kT248 gx0)) (vs := [.i y54.n, ulf]) (x := y54) ⟨[.i y54.n], [ulf], rfl, rfl, ulg⟩ Els.nil)
  refine Om (.buildSlice 245 1 #[(0, 20)]) 21 245 (fun b => .slice (Gp (some b)) 1 1) 249 ([.i y54.n, ulf] : List Value) (1 * (kT248 gx0).size) p11 Xa fun b56 w12 z12 p12 => ?_
  refine Gg h fun g62 h => ?_
  refine Op_.ap_n (K := (kT248 gx0)) 245 17 21 22 245 249 4 (.agg #[.i 0, .nilFunc]) 16 x7.length cx7 1 x7 [y54] (x7 ++ [y54]) (Gp (some b56)) 1 rfl rfl rfl p12 rfl (fx7.ext (z11.t z12)) Xa (by kernel_rfl) (by kernel_rfl) (by kernel_rfl) (by kernel_rfl) rfl (show (0 : Nat) < 2 by decide) (f57.ext z12) (src_own p12 (q := 0) rfl) (by have := g62; omega) (by have := g62; omega) fun w13 G63 c64 ulh z13 p13 f66 => ?_
  refine Gm 8 [([7], .slice (Gp G63) ((x7 ++ [y54]).length) c64), ([23, 15], .i (wr .i64 (x15 + 1)))] J106 ?_
  have p13 := p13.dp 0
  have p13 := ((((p13.fr 1).fr 1).fr 4).fr 4).fr 4
  exact Gj 49 [(0, (pt gx0 0)), (2, .i x2), (4, (pt gx4 0)), (7, .slice (Gp G63) ((x7 ++ [y54]).length) c64), (8, (pt gx8 0)), (14, .i x14), (15, .i (wr .i64 (x15 + 1)))] (uld _ _ h _ _ (((hx.t z11).t z12).t z13) _ _ _ _ _ _ _ _ _ _ _ _ p13 ule (ugi.ext ((z11.t z12).t z13)) rfl f66 rfl ukx (uky.ext ((z11.t z12).t z13)) rfl (fs8.ext ((z11.t z12).t z13)) rfl)
 ·
  rw [df h53]
  refine Gn 6 [(24, (pt gx4 7))] J10e ?_
  refine Xb 3 24 25 3 ⟨gx4, 7, none⟩ (.i x4v.Max) (p1.c 0 7) ?_
  refine Gn 2 [(26, .bool (decide (x4v.Max < 0)))] J10d ?_
  refine Gi h (fun h67 h => ?_) fun h67 h => ?_
  ·
   rw [dt h67]
   refine Gn 5 [(27, .slice (Gp Gx7) x7.length cx7), (28, (pt gx0 0))] J10g ?_
   refine Xf 27 8 29 27 ⟨gx8, 0, none⟩ (vT26 x8v uks x8v.L.length uku) (p1.pa 2 0) ?_
   have p1 := (p1.fr 4).fr 4
   refine Gb h fun y68 e69 h => ?_
   refine Gc (kc 207 [28, 29] #[169, 27]) 30 249 207 _ (W.z4w ukj x8v y68 e69 _ _ _ _ _ _ _ _ p1 fs8 rfl ukx uky rfl) ?_
   rintro _ w14 ⟨S14, uli, rfl, z14, p14, ulj⟩
   have p14 := (p14.dp 2).dp 3
   have f71 : Els (kT248 gx0) S14 w14 ([.i y68.n, uli] : List Value) [y68] := by exact (Els.cons (K := (kT248 gx0)) (vs := [.i y68.n, uli]) (x := y68) ⟨[.i y68.n], [uli], rfl, rfl, ulj⟩ Els.nil)
   refine Om (.buildSlice 245 1 #[(0, 30)]) 31 245 (fun b => .slice (Gp (some b)) 1 1) 249 ([.i y68.n, uli] : List Value) (1 * (kT248 gx0).size) p14 Xa fun b70 w15 z15 p15 => ?_
   refine Gg h fun g76 h => ?_
   refine Op_.ap_n (K := (kT248 gx0)) 245 27 31 32 245 249 3 (.agg #[.i 0, .nilFunc]) 16 x7.length cx7 1 x7 [y68] (x7 ++ [y68]) (Gp (some b70)) 1 rfl rfl rfl p15 rfl (fx7.ext (z14.t z15)) Xa (by kernel_rfl) (by kernel_rfl) (by kernel_rfl) (by kernel_rfl) rfl (show (0 : Nat) < 2 by decide) (f71.ext z15) (src_own p15 (q := 0) rfl) (by have := g76; omega) (by have := g76; omega) fun w16 G77 c78 ulk z16 p16 f80 => ?_
   refine Gn 2 [(6, .slice (Gp G77) ((x7 ++ [y68]).length) c78)] J10f ?_
   obtain rfl := sj h
   have p16 := p16.dp 0
   have p16 := ((p16.fr 1).fr 1).fr 2
   exact Xc Tryz.f149 (.slice (Gp G77) ((x7 ++ [y68]).length) c78) ⟨_, _, _, _, _, rfl, (((hx.t z14).t z15).t z16), p16, f80, rfl⟩
  ·
   rw [df h67]
   refine Gn 6 [(33, (pt gx4 7))] J10i ?_
   refine Xb 3 33 34 3 ⟨gx4, 7, none⟩ (.i x4v.Max) (p1.c 0 7) ?_
   refine Gn 1 [(35, (pt gx4 6))] J10j ?_
   refine Xb 3 35 36 3 ⟨gx4, 6, none⟩ (.i x4v.Min) (p1.c 0 6) ?_
   refine Gn 5 [(37, .i (wr .i64 (x4v.Max - x4v.Min))), (38, .i 0)] Jzv ?_
   have p1 := p1.dp 0
   exact Gj 49 [(0, (pt gx0 0)), (2, .i x2), (7, .slice (Gp Gx7) x7.length cx7), (8, (pt gx8 0)), (37, .i (wr .i64 (x4v.Max - x4v.Min))), (38, .i 0)] (W.z4z gx0 ukk ukj.length ukm ukn _ _ h _ _ hx _ _ _ _ _ _ _ _ p1 fx7 rfl ukx uky rfl fs8 rfl)
def L.z51 (gx0 : Nat) (ukk : Option Nat) (ukl : Nat) (ukm : Nat) (ukn : List Value) : Int × T26 × Int × Int × (List T174) → (List T248) → Prop := fun ⟨x2, x8v, x37, x38, ukj⟩ r => ∀ S1 w1, Ext S0 w0 S1 w1 → ∀ gx8 uks ukt uku (_ : Hp nz wz S1 w1 ((some gx8, .row 27 (vT26 x8v uks ukt uku) 8 0) :: (some gx0, .row 171 [.slice (Gp ukk) ukl ukm] 1 0) :: (ukk, .row 175 ukn (ukm * kT174.size) 0) :: Lr)) (_ : x8v.Set.length = 4) (_ : Rd kT26 S1 w1 uks uku x8v.L) (_ : x8v.L.length = ukt) (_ : Els kT174 S1 w1 ukn ukj) (_ : ukj.length = ukl) (junk : Nat → Value),
 Goes Tg (base 149) Jzv ⟨lfr 49 [(0, (pt gx0 0)), (2, .i x2), (7, .slice none 0 0), (8, (pt gx8 0)), (37, .i x37), (38, .i x38)] junk, []⟩ w1 (Done Tg 149 (Rets (Post.z4y nz wz S0 w0 Lr gx0 ukk ukl ukm ukn ukj r)))
theorem W.z51 {nz wz S0 w0 Lr} (gx0 : Nat) (ukk : Option Nat) (ukl : Nat) (ukm : Nat) (ukn : List Value) : ∀ a r, M.a4v a = some r → L.z51 nz wz S0 w0 Lr gx0 ukk ukl ukm ukn a r := by
 intro ⟨x2, x8v, x37, x38, ukj⟩ r h S1 w1 hx gx8 uks ukt uku p1 ukx uky ukz fs3 ls3 junk
 rw [M.a4v] at h
 try dsimp only at h
 subst ukz
 subst ls3
 refine Gn 5 [(39, .bool (decide (x38 < x37)))] Jzx ?_
 refine Gi h (fun h83 h => ?_) fun h83 h => ?_
 ·
  rw [dt h83]
  refine Gn 7 [(40, .slice none 0 0), (41, (pt gx0 0))] J100 ?_
  refine Xf 27 8 42 27 ⟨gx8, 0, none⟩ (vT26 x8v uks x8v.L.length uku) (p1.pa 0 0) ?_
  refine Gn 1 [(43, .i x2)] J101 ?_
  have p1 := (p1.fr 2).fr 2
  refine Gb h fun y84 e85 h => ?_
  refine Gc (kc 208 [41, 42, 43] #[169, 27, 3]) 44 249 208 _ (W.z4x ukj x8v x2 y84 e85 _ _ _ _ _ _ _ _ p1 fs3 rfl ukx uky rfl) ?_
  rintro _ w17 ⟨S17, ull, rfl, z17, p17, ulm⟩
  have f87 : Els (kT248 gx0) S17 w17 ([.i y84.n, ull] : List Value) [y84] := by exact (Els.cons (K := (kT248 gx0)) (vs := [.i y84.n, ull]) (x := y84) ⟨[.i y84.n], [ull], rfl, rfl, ulm⟩ Els.nil)
  refine Om (.buildSlice 245 1 #[(0, 44)]) 45 245 (fun b => .slice (Gp (some b)) 1 1) 249 ([.i y84.n, ull] : List Value) (1 * (kT248 gx0).size) p17 Xa fun b86 w18 z18 p18 => ?_
  have p18 : Hp nz wz S17 w18 ((none, .row 249 [] (0 * (kT248 gx0).size) 0) :: ((some b86), .row 249 ([.i y84.n, ull] : List Value) (1 * (kT248 gx0).size) 0) :: (some gx0, .row 171 [.slice (Gp ukk) ukj.length ukm] 1 0) :: (ukk, .row 175 ukn (ukm * kT174.size) 0) :: (some gx8, .row 27 (vT26 x8v uks x8v.L.length uku) 8 0) :: Lr) := p18.nilRow' 249
  refine Gg h fun g93 h => ?_
  refine Op_.ap_n (K := (kT248 gx0)) 245 40 45 46 245 249 0 (.agg #[.i 0, .nilFunc]) 16 0 0 1 ([] : List T248) [y84] [y84] (Gp (some b86)) 1 rfl rfl (List.nil_append _) p18 rfl (Els.nil (K := (kT248 gx0))) Xa (by kernel_rfl) (by kernel_rfl) (by kernel_rfl) (by kernel_rfl) rfl (show (0 : Nat) < 2 by decide) (f87.ext z18) (src_own p18 (q := 1) rfl) (by have := g93; omega) (by have := g93; omega) fun w19 G94 c95 uln z19 p19 f97 => ?_
  refine Gm 8 [([7], .slice (Gp G94) ([y84].length) c95), ([47, 38], .i (wr .i64 (x38 + 1)))] Jzv ?_
  have p19 := p19.dp 1
  have p19 := (((p19.fr 2).fr 2).fr 3).fr 3
  exact Gj 49 [(0, (pt gx0 0)), (2, .i x2), (7, .slice (Gp G94) ([y84].length) c95), (8, (pt gx8 0)), (37, .i x37), (38, .i (wr .i64 (x38 + 1)))] (W.z4z gx0 ukk ukj.length ukm ukn _ _ h _ _ (((hx.t z17).t z18).t z19) _ _ _ _ _ _ _ _ p19 f97 rfl ukx (uky.ext ((z17.t z18).t z19)) rfl (fs3.ext ((z17.t z18).t z19)) rfl)
 ·
  rw [df h83]
  refine Gm 7 [([48, 6], .slice none 0 0)] J102 ?_
  have p1 : Hp nz wz S1 w1 ((none, .row 249 [] (0 * (kT248 gx0).size) 0) :: (some gx8, .row 27 (vT26 x8v uks x8v.L.length uku) 8 0) :: (some gx0, .row 171 [.slice (Gp ukk) ukj.length ukm] 1 0) :: (ukk, .row 175 ukn (ukm * kT174.size) 0) :: Lr) := p1.nilRow' 249
  obtain rfl := sj h
  have p1 := p1.dp 1
  exact Xc Tryz.f149 (.slice (Gp none) 0 0) ⟨_, _, _, _, _, rfl, hx, p1, (Els.nil (K := (kT248 gx0))), rfl⟩
def L.z52 (gx0 : Nat) (ukk : Option Nat) (ukl : Nat) (ukm : Nat) (ukn : List Value) : Int × T26 × T26 × Int × Int × (List T174) → (List T248) → Prop := fun ⟨x2, x4v, x8v, x14, x15, ukj⟩ r => ∀ S1 w1, Ext S0 w0 S1 w1 → ∀ gx4 ulb ugd uge gx8 uks ukt uku (_ : Hp nz wz S1 w1 ((some gx4, .row 27 (vT26 x4v ulb ugd uge) 8 0) :: (some gx8, .row 27 (vT26 x8v uks ukt uku) 8 0) :: (some gx0, .row 171 [.slice (Gp ukk) ukl ukm] 1 0) :: (ukk, .row 175 ukn (ukm * kT174.size) 0) :: Lr)) (_ : x4v.Set.length = 4) (_ : Rd kT26 S1 w1 ulb uge x4v.L) (_ : x4v.L.length = ugd) (_ : x8v.Set.length = 4) (_ : Rd kT26 S1 w1 uks uku x8v.L) (_ : x8v.L.length = ukt) (_ : Els kT174 S1 w1 ukn ukj) (_ : ukj.length = ukl) (junk : Nat → Value),
 Goes Tg (base 149) J106 ⟨lfr 49 [(0, (pt gx0 0)), (2, .i x2), (4, (pt gx4 0)), (7, .slice none 0 0), (8, (pt gx8 0)), (14, .i x14), (15, .i x15)] junk, []⟩ w1 (Done Tg 149 (Rets (Post.z4y nz wz S0 w0 Lr gx0 ukk ukl ukm ukn ukj r)))
theorem W.z52 {nz wz S0 w0 Lr} (gx0 : Nat) (ukk : Option Nat) (ukl : Nat) (ukm : Nat) (ukn : List Value) : ∀ a r, M.a4w a = some r → L.z52 nz wz S0 w0 Lr gx0 ukk ukl ukm ukn a r := by
 intro ⟨x2, x4v, x8v, x14, x15, ukj⟩ r h S1 w1 hx gx4 ulb ugd uge gx8 uks ukt uku p1 ule ugi ugj ukx uky ukz fs6 ls6 junk
 rw [M.a4w] at h
 try dsimp only at h
 subst ugj
 subst ukz
 subst ls6
 refine Gn 5 [(16, .bool (decide (x15 < x14)))] J108 ?_
 refine Gi h (fun h19 h => ?_) fun h19 h => ?_
 ·
  rw [dt h19]
  refine Gn 7 [(17, .slice none 0 0), (18, (pt gx0 0))] J10b ?_
  refine Xf 27 8 19 27 ⟨gx8, 0, none⟩ (vT26 x8v uks x8v.L.length uku) (p1.pa 1 0) ?_
  have p1 := (p1.fr 3).fr 3
  refine Gb h fun y20 e21 h => ?_
  refine Gc (kc 148 [18, 19] #[169, 27]) 20 249 148 _ (W.z4v ukj x8v y20 e21 _ _ _ _ _ _ _ _ p1 fs6 rfl ukx uky rfl) ?_
  rintro _ w5 ⟨S5, ulo, rfl, z5, p5, ulp⟩
  have f23 : Els (kT248 gx0) S5 w5 ([.i y20.n, ulo] : List Value) [y20] := by exact (Els.cons (K := (kT248 gx0)) (vs := [.i y20.n, ulo]) (x := y20) ⟨[.i y20.n], [ulo], rfl, rfl, ulp⟩ Els.nil)
  refine Om (.buildSlice 245 1 #[(0, 20)]) 21 245 (fun b => .slice (Gp (some b)) 1 1) 249 ([.i y20.n, ulo] : List Value) (1 * (kT248 gx0).size) p5 Xa fun b22 w6 z6 p6 => ?_
  have p6 : Hp nz wz S5 w6 ((none, .row 249 [] (0 * (kT248 gx0).size) 0) :: ((some b22), .row 249 ([.i y20.n, ulo] : List Value) (1 * (kT248 gx0).size) 0) :: (some gx0, .row 171 [.slice (Gp ukk) ukj.length ukm] 1 0) :: (ukk, .row 175 ukn (ukm * kT174.size) 0) :: (some gx4, .row 27 (vT26 x4v ulb x4v.L.length uge) 8 0) :: (some gx8, .row 27 (vT26 x8v uks x8v.L.length uku) 8 0) :: Lr) := p6.nilRow' 249
  refine Gg h fun g29 h => ?_
  refine Op_.ap_n (K := (kT248 gx0)) 245 17 21 22 245 249 0 (.agg #[.i 0, .nilFunc]) 16 0 0 1 ([] : List T248) [y20] [y20] (Gp (some b22)) 1 rfl rfl (List.nil_append _) p6 rfl (Els.nil (K := (kT248 gx0))) Xa (by kernel_rfl) (by kernel_rfl) (by kernel_rfl) (by kernel_rfl) rfl (show (0 : Nat) < 2 by decide) (f23.ext z6) (src_own p6 (q := 1) rfl) (by have := g29; omega) (by have := g29; omega) fun w7 G30 c31 ujb z7 p7 f33 => ?_
  refine Gm 8 [([7], .slice (Gp G30) ([y20].length) c31), ([23, 15], .i (wr .i64 (x15 + 1)))] J106 ?_
  have p7 := p7.dp 1
  have p7 := ((((p7.fr 2).fr 2).fr 4).fr 3).fr 4
  exact Gj 49 [(0, (pt gx0 0)), (2, .i x2), (4, (pt gx4 0)), (7, .slice (Gp G30) ([y20].length) c31), (8, (pt gx8 0)), (14, .i x14), (15, .i (wr .i64 (x15 + 1)))] (W.z50 gx0 ukk ukj.length ukm ukn _ _ h _ _ (((hx.t z5).t z6).t z7) _ _ _ _ _ _ _ _ _ _ _ _ p7 ule (ugi.ext ((z5.t z6).t z7)) rfl f33 rfl ukx (uky.ext ((z5.t z6).t z7)) rfl (fs6.ext ((z5.t z6).t z7)) rfl)
 ·
  rw [df h19]
  refine Gn 6 [(24, (pt gx4 7))] J10e ?_
  refine Xb 3 24 25 3 ⟨gx4, 7, none⟩ (.i x4v.Max) (p1.c 0 7) ?_
  refine Gn 2 [(26, .bool (decide (x4v.Max < 0)))] J10d ?_
  refine Gi h (fun h37 h => ?_) fun h37 h => ?_
  ·
   rw [dt h37]
   refine Gn 5 [(27, .slice none 0 0), (28, (pt gx0 0))] J10g ?_
   refine Xf 27 8 29 27 ⟨gx8, 0, none⟩ (vT26 x8v uks x8v.L.length uku) (p1.pa 1 0) ?_
   have p1 := (p1.fr 3).fr 3
   refine Gb h fun y38 e39 h => ?_
   refine Gc (kc 207 [28, 29] #[169, 27]) 30 249 207 _ (W.z4w ukj x8v y38 e39 _ _ _ _ _ _ _ _ p1 fs6 rfl ukx uky rfl) ?_
   rintro _ w8 ⟨S8, ulq, rfl, z8, p8, ulr⟩
   have p8 := (p8.dp 2).dp 2
   have f41 : Els (kT248 gx0) S8 w8 ([.i y38.n, ulq] : List Value) [y38] := by exact (Els.cons (K := (kT248 gx0)) (vs := [.i y38.n, ulq]) (x := y38) ⟨[.i y38.n], [ulq], rfl, rfl, ulr⟩ Els.nil)
   refine Om (.buildSlice 245 1 #[(0, 30)]) 31 245 (fun b => .slice (Gp (some b)) 1 1) 249 ([.i y38.n, ulq] : List Value) (1 * (kT248 gx0).size) p8 Xa fun b40 w9 z9 p9 => ?_
   have p9 : Hp nz wz S8 w9 ((none, .row 249 [] (0 * (kT248 gx0).size) 0) :: ((some b40), .row 249 ([.i y38.n, ulq] : List Value) (1 * (kT248 gx0).size) 0) :: (some gx0, .row 171 [.slice (Gp ukk) ukj.length ukm] 1 0) :: (ukk, .row 175 ukn (ukm * kT174.size) 0) :: Lr) := p9.nilRow' 249
   refine Gg h fun g47 h => ?_
   refine Op_.ap_n (K := (kT248 gx0)) 245 27 31 32 245 249 0 (.agg #[.i 0, .nilFunc]) 16 0 0 1 ([] : List T248) [y38] [y38] (Gp (some b40)) 1 rfl rfl (List.nil_append _) p9 rfl (Els.nil (K := (kT248 gx0))) Xa (by kernel_rfl) (by kernel_rfl) (by kernel_rfl) (by kernel_rfl) rfl (show (0 : Nat) < 2 by decide) (f41.ext z9) (src_own p9 (q := 1) rfl) (by have := g47; omega) (by have := g47; omega) fun w10 G48 c49 uls z10 p10 f51 => ?_
   refine Gn 2 [(6, .slice (Gp G48) ([y38].length) c49)] J10f ?_
   obtain rfl := sj h
   have p10 := p10.dp 1
   exact Xc Tryz.f149 (.slice (Gp G48) ([y38].length) c49) ⟨_, _, _, _, _, rfl, (((hx.t z8).t z9).t z10), p10, f51, rfl⟩
  ·
   rw [df h37]
   refine Gn 6 [(33, (pt gx4 7))] J10i ?_
   refine Xb 3 33 34 3 ⟨gx4, 7, none⟩ (.i x4v.Max) (p1.c 0 7) ?_
   refine Gn 1 [(35, (pt gx4 6))] J10j ?_
   refine Xb 3 35 36 3 ⟨gx4, 6, none⟩ (.i x4v.Min) (p1.c 0 6) ?_
   refine Gn 5 [(37, .i (wr .i64 (x4v.Max - x4v.Min))), (38, .i 0)] Jzv ?_
   have p1 := p1.dp 0
   exact Gj 49 [(0, (pt gx0 0)), (2, .i x2), (7, .slice none 0 0), (8, (pt gx8 0)), (37, .i (wr .i64 (x4v.Max - x4v.Min))), (38, .i 0)] (W.z51 gx0 ukk ukj.length ukm ukn _ _ h _ _ hx _ _ _ _ p1 ukx uky rfl fs6 rfl)
theorem W.z4y (ukj : List T174) (x1 : T26) (x2 : Int) (r : List T248) (h : M.a5v ukj x1 x2 = some r) {nz wz S0 w0 Lr} (gx0 ukk ukl ukm ukn ufg ufh ufi) (p0 : Hp nz wz S0 w0 ((some gx0, .row 171 [.slice (Gp ukk) ukl ukm] 1 0) :: (ukk, .row 175 ukn (ukm * kT174.size) 0) :: Lr)) (uko : Els kT174 S0 w0 ukn ukj) (ukp : ukj.length = ukl) (ukq : x1.Set.length = 4) (ufo : Rd kT26 S0 w0 ufg ufi x1.L) (ufp : x1.L.length = ufh) :
  Calls Tg 149 #[(pt gx0 0), (ag (vT26 x1 ufg ufh ufi)), .i x2] w0 (Rets (Post.z4y nz wz S0 w0 Lr gx0 ukk ukl ukm ukn ukj r)) := by
 subst ukp
 subst ufp
 refine Zf Tryz.f149 B149 46 ?_
 refine Gj 49 [(0, (pt gx0 0)), (1, (ag (vT26 x1 ufg x1.L.length ufi))), (2, .i x2)] fun junk => ?_
 delta M.a5v at h
 refine Gn 2 [] (Yt 10 B149 [0, 1] (Ys 11 B149 [])) ?_
 refine Ob 27 1 4 0 (ag (vT26 x1 ufg x1.L.length ufi)) (vT26 x1 ufg x1.L.length ufi) p0 Xa fun b3 w2 z2 p2 => ?_
 refine Gm 9 [([6, 7], .slice none 0 0), ([9], (pt b3 5))] (Yt 1110 B149 [1, 2, 3, 4, 5] (Ys 1111 B149 [])) ?_
 refine Xb 25 9 10 25 ⟨b3, 5, none⟩ (.slice ufg x1.L.length ufi) (p2.c 0 5) ?_
 refine Gg h fun g5 h => ?_
 refine Oi 25 10 (.const (.int .i64 0)) 11 0 27 .i64 0 (gi x1.L 0) rfl rfl (ufo.ext z2) Xa (by decide : (0 : Int) ≤ 0) g5 fun a6 _ f7 q8 => ?_
 have q9 := q8
 obtain ⟨_, _, rfl, rfl, ⟨_, _, rfl, ⟨l10, f11⟩, ⟨_, _, rfl, ⟨A12, c13, rfl, f14⟩, ⟨_, _, rfl, rfl, rfl⟩⟩⟩⟩ := kT26_open q9
 obtain rfl := els_lit4' f11 l10
 refine Xf 27 11 12 27 a6 ([.i ((gi x1.L 0).Kind)] ++ ((U4 ((gi x1.L 0).Set) []) ++ ([.slice A12 (((gi x1.L 0).L).length) c13] ++ ([.i ((gi x1.L 0).Min)] ++ [.i ((gi x1.L 0).Max)])))) (f7.cell) ?_
 refine Oa 27 8 0 (.agg #[.i 0, .u 0, .u 0, .u 0, .u 0, .slice none 0 0, .i 0, .i 0]) [.i 0, .u 0, .u 0, .u 0, .u 0, .slice none 0 0, .i 0, .i 0] p2 Xa fun b15 w3 z3 p3 => ?_
 refine So 27 8 12 0 0 b15 0 (ag (.i ((gi x1.L 0).Kind) :: U4 ((gi x1.L 0).Set) [.slice A12 (((gi x1.L 0).L).length) c13, .i ((gi x1.L 0).Min), .i ((gi x1.L 0).Max)])) (.i ((gi x1.L 0).Kind) :: U4 ((gi x1.L 0).Set) [.slice A12 (((gi x1.L 0).L).length) c13, .i ((gi x1.L 0).Min), .i ((gi x1.L 0).Max)]) p3 rfl Xd fun w4 z4 p4 => ?_
 refine Gn 5 [(13, (pt b3 6))] (Yt 111100 B149 [1, 2] (Ys 111101 B149 J103)) ?_
 refine Xb 3 13 14 3 ⟨b3, 6, none⟩ (.i x1.Min) (p4.c 1 6) ?_
 refine Gn 4 [(15, .i 0)] J106 ?_
 have p4 := (((p4.fr 3).fr 3).fr 2).fr 3
 exact Gj 49 [(0, (pt gx0 0)), (2, .i x2), (4, (pt b3 0)), (7, .slice none 0 0), (8, (pt b15 0)), (14, .i x1.Min), (15, .i 0)] (W.z52 gx0 ukk ukj.length ukm ukn _ _ h _ _ ((z2.t z3).t z4) _ _ _ _ _ _ _ _ p4 ukq (ufo.ext ((z2.t z3).t z4)) rfl l10 (f14.ext (z3.t z4)) rfl (uko.ext ((z2.t z3).t z4)) rfl)
def Qtz := Yq 10100 B147
def J10s := Zl Qtz (Zb 0 (Ys 11 B147 []))
def J10t := Zc Qtz J10s
def J10v := Zb 1 (Ys 10100111 B147 J10s)
def Qu1 := Yq 10100110011 B147
def J10w := Zc Qu1 J10v
def J10x := Ys 1111 B88 []
def J10y := Zb 0 J10x
def Qu3 := Yq 111010111110100 B88
def J110 := Zl Qu3 (Zb 1 J10y)
def J111 := Zc Qu3 J110
def Qu4 := Yq 1100 B150
def J112 := Zl Qu4 J7e
def J113 := Zc Qu4 J112
def J115 := Zb 1 (Ys 1100111 B150 J112)
def Qu6 := Yq 11001100111 B150
def J116 := Zc Qu6 J115
def J11c := Ys 111010101 B88 J10y
def Qud := Yq 111010100 B88
def J11g := Ys 11101011101 B88 J10y
def Qug := Yq 11101011100 B88
def Qul := Yq 11101011111110 B88
def Qum := Yq 11111 B88
def J11p := Zc Qum []
def J11q := Yt 1111010 B88 [3] J11p
def J11r := Zr Qum [3] []
def J11u := Ys 110011001 B150 J115
def Qur := Yq 110011000 B150
def J11x := Ys 110011001101 B150 J116
def Quv := Yq 11 B253
def Qux := Yq 11 B252
def Quz := Yq 1 B206
def J12e := Ys 11101011111010010 B88 (Ys 11101011111010011 B88 J110)
def J12g := Zb 2 (Ys 111010111110100111 B88 J110)
def Qv4 := Yq 11101011111010011001 B88
def J12i := Yt 11101011111010011000 B88 [0, 1, 2, 3] (Zc Qv4 J12g)
def J12j := Zr Qv4 [2, 3, 4, 5, 6] J12g
def J12m := Ys 1010011001 B147 J10v
def Qv9 := Yq 1010011000 B147
def Qvb := Yq 10100110010101 B147
def Post.z53 (gx0 : Nat) (r : List T174) (v : Value) (w' : World) : Prop :=
 ∃ S' ukf ukg ukh uki, v = .tuple #[] ∧ Ext S0 w0 S' w' ∧ Hp nz wz S' w' ((some gx0, .row 171 [.slice (Gp ukf) ukg ukh] 1 0) :: (ukf, .row 175 uki (ukh * kT174.size) 0) :: Lr) ∧ Els kT174 S' w' uki r ∧ r.length = ukg
def Post.z54 (gx0 : Nat) (r : List T174) (v : Value) (w' : World) : Prop :=
 ∃ S' ukf ukg ukh uki, v = .tuple #[] ∧ Ext S0 w0 S' w' ∧ Hp nz wz S' w' ((some gx0, .row 171 [.slice (Gp ukf) ukg ukh] 1 0) :: (ukf, .row 175 uki (ukh * kT174.size) 0) :: Lr) ∧ Els kT174 S' w' uki r ∧ r.length = ukg
def Post.z55 (gx0 : Nat) (r : List T174) (v : Value) (w' : World) : Prop :=
 ∃ S' ukf ukg ukh uki, v = .tuple #[] ∧ Ext S0 w0 S' w' ∧ Hp nz wz S' w' ((some gx0, .row 171 [.slice (Gp ukf) ukg ukh] 1 0) :: (ukf, .row 175 uki (ukh * kT174.size) 0) :: Lr) ∧ Els kT174 S' w' uki r ∧ r.length = ukg
def Post.z56 (gx1 : Nat) (r : List T174) (v : Value) (w' : World) : Prop :=
 ∃ S' ukf ukg ukh uki, v = .tuple #[] ∧ Ext S0 w0 S' w' ∧ Hp nz wz S' w' ((some gx1, .row 171 [.slice (Gp ukf) ukg ukh] 1 0) :: (ukf, .row 175 uki (ukh * kT174.size) 0) :: Lr) ∧ Els kT174 S' w' uki r ∧ r.length = ukg
def Post.z57 (gx1 : Nat) (r : List T174) (v : Value) (w' : World) : Prop :=
 ∃ S' ukf ukg ukh uki, v = .tuple #[] ∧ Ext S0 w0 S' w' ∧ Hp nz wz S' w' ((some gx1, .row 171 [.slice (Gp ukf) ukg ukh] 1 0) :: (ukf, .row 175 uki (ukh * kT174.size) 0) :: Lr) ∧ Els kT174 S' w' uki r ∧ r.length = ukg
def Post.z58 (gx1 : Nat) (r : List T174) (v : Value) (w' : World) : Prop :=
 ∃ S' ukf ukg ukh uki, v = .tuple #[] ∧ Ext S0 w0 S' w' ∧ Hp nz wz S' w' ((some gx1, .row 171 [.slice (Gp ukf) ukg ukh] 1 0) :: (ukf, .row 175 uki (ukh * kT174.size) 0) :: Lr) ∧ Els kT174 S' w' uki r ∧ r.length = ukg
def LF.z53 : (List T174) × T26 × Int → (List T174) → Prop := fun ⟨ukj, x1, x2⟩ r => ∀ {nz wz S0 w0 Lr} gx0 ukk ukl ukm ukn ufg ufh ufi (_ : Hp nz wz S0 w0 ((some gx0, .row 171 [.slice (Gp ukk) ukl ukm] 1 0) :: (ukk, .row 175 ukn (ukm * kT174.size) 0) :: Lr)) (_ : Els kT174 S0 w0 ukn ukj) (_ : ukj.length = ukl) (_ : x1.Set.length = 4) (_ : Rd kT26 S0 w0 ufg ufi x1.L) (_ : x1.L.length = ufh),
 Calls Tg 88 #[(pt gx0 0), (ag (vT26 x1 ufg ufh ufi)), .i x2] w0 (Rets (Post.z53 nz wz S0 w0 Lr gx0 r))
def LF.z54 : (List T174) × (List T26) × Int → (List T174) → Prop := fun ⟨ukj, x1, x2⟩ r => ∀ {nz wz S0 w0 Lr} gx0 ukk ukl ukm ukn Ax1 nx1 cx1 (_ : Hp nz wz S0 w0 ((some gx0, .row 171 [.slice (Gp ukk) ukl ukm] 1 0) :: (ukk, .row 175 ukn (ukm * kT174.size) 0) :: Lr)) (_ : Els kT174 S0 w0 ukn ukj) (_ : ukj.length = ukl) (_ : Rd kT26 S0 w0 Ax1 cx1 x1) (_ : x1.length = nx1),
 Calls Tg 147 #[(pt gx0 0), .slice Ax1 nx1 cx1, .i x2] w0 (Rets (Post.z54 nz wz S0 w0 Lr gx0 r))
def L.z59 (gx0 : Nat) : (List T26) × Int × (List T26) × Int × Int × (List T174) → (List T174) → Prop := fun ⟨x1, x2, x9, x10, x11, u95⟩ r => ∀ S1 w1, Ext S0 w0 S1 w1 → ∀ Ax1 nx1 cx1 Ax9 nx9 cx9 ukf ukg ukh uki (_ : Hp nz wz S1 w1 ((some gx0, .row 171 [.slice (Gp ukf) ukg ukh] 1 0) :: (ukf, .row 175 uki (ukh * kT174.size) 0) :: Lr)) (_ : Rd kT26 S1 w1 Ax1 cx1 x1) (_ : x1.length = nx1) (_ : Rd kT26 S1 w1 Ax9 cx9 x9) (_ : x9.length = nx9) (_ : Els kT174 S1 w1 uki u95) (_ : u95.length = ukg) (junk : Nat → Value),
 Goes Tg (base 147) J10t ⟨lfr 47 [(0, (pt gx0 0)), (1, .slice Ax1 nx1 cx1), (2, .i x2), (9, .slice Ax9 nx9 cx9), (10, .i x10), (11, .i x11)] junk, []⟩ w1 (Done Tg 147 (Rets (Post.z54 nz wz S0 w0 Lr gx0 r)))
def LL.z59 : (List T26) × Int × (List T26) × Int × Int × (List T174) → (List T174) → Prop := fun a r => ∀ {nz wz S0 w0 Lr} (gx0 : Nat), L.z59 nz wz S0 w0 Lr gx0 a r
def L.z5a (gx0 : Nat) : (List T26) × Int × T26 × (List T26) × Int × Int × (List T174) → (List T174) → Prop := fun ⟨x1, x2, x7v, x9, x10, x11, u95⟩ r => ∀ S1 w1, Ext S0 w0 S1 w1 → ∀ Ax1 nx1 cx1 gx7 ult ujq ujr Ax9 nx9 cx9 ukf ukg ukh uki (_ : Hp nz wz S1 w1 ((some gx7, .row 27 (vT26 x7v ult ujq ujr) 8 0) :: (some gx0, .row 171 [.slice (Gp ukf) ukg ukh] 1 0) :: (ukf, .row 175 uki (ukh * kT174.size) 0) :: Lr)) (_ : Rd kT26 S1 w1 Ax1 cx1 x1) (_ : x1.length = nx1) (_ : x7v.Set.length = 4) (_ : Rd kT26 S1 w1 ult ujr x7v.L) (_ : x7v.L.length = ujq) (_ : Rd kT26 S1 w1 Ax9 cx9 x9) (_ : x9.length = nx9) (_ : Els kT174 S1 w1 uki u95) (_ : u95.length = ukg) (junk : Nat → Value),
 Goes Tg (base 147) J10w ⟨lfr 47 [(0, (pt gx0 0)), (1, .slice Ax1 nx1 cx1), (2, .i x2), (7, (pt gx7 0)), (9, .slice Ax9 nx9 cx9), (10, .i x10), (11, .i x11)] junk, []⟩ w1 (Done Tg 147 (Rets (Post.z54 nz wz S0 w0 Lr gx0 r)))
def LL.z5a : (List T26) × Int × T26 × (List T26) × Int × Int × (List T174) → (List T174) → Prop := fun a r => ∀ {nz wz S0 w0 Lr} (gx0 : Nat), L.z5a nz wz S0 w0 Lr gx0 a r
def L.z5b (gx0 : Nat) : Int × (List T26) × Int × Int × (List T174) → (List T174) → Prop := fun ⟨x2, x29, x30, x31, u95⟩ r => ∀ S1 w1, Ext S0 w0 S1 w1 → ∀ ulu ulv ulw ukf ukg ukh uki (_ : Hp nz wz S1 w1 ((some gx0, .row 171 [.slice (Gp ukf) ukg ukh] 1 0) :: (ukf, .row 175 uki (ukh * kT174.size) 0) :: Lr)) (_ : Rd kT26 S1 w1 ulu ulw x29) (_ : x29.length = ulv) (_ : Els kT174 S1 w1 uki u95) (_ : u95.length = ukg) (junk : Nat → Value),
 Goes Tg (base 88) J111 ⟨lfr 59 [(0, (pt gx0 0)), (2, .i x2), (6, .slice none 0 0), (29, .slice ulu ulv ulw), (30, .i x30), (31, .i x31)] junk, []⟩ w1 (Done Tg 88 (Rets (Post.z53 nz wz S0 w0 Lr gx0 r)))
def LL.z5b : Int × (List T26) × Int × Int × (List T174) → (List T174) → Prop := fun a r => ∀ {nz wz S0 w0 Lr} (gx0 : Nat), L.z5b nz wz S0 w0 Lr gx0 a r
def L.z5c (gx0 : Nat) : Int × (List T248) × (List T26) × Int × Int × (List T174) → (List T174) → Prop := fun ⟨x2, x6, x29, x30, x31, u95⟩ r => ∀ S1 w1, Ext S0 w0 S1 w1 → ∀ Gx6 nx6 cx6 ubo ulu ulv ulw ukf ukg ukh uki (_ : Hp nz wz S1 w1 ((Gx6, .row 249 ubo (cx6 * (kT248 gx0).size) 0) :: (some gx0, .row 171 [.slice (Gp ukf) ukg ukh] 1 0) :: (ukf, .row 175 uki (ukh * kT174.size) 0) :: Lr)) (_ : Els (kT248 gx0) S1 w1 ubo x6) (_ : x6.length = nx6) (_ : Rd kT26 S1 w1 ulu ulw x29) (_ : x29.length = ulv) (_ : Els kT174 S1 w1 uki u95) (_ : u95.length = ukg) (junk : Nat → Value),
 Goes Tg (base 88) J111 ⟨lfr 59 [(0, (pt gx0 0)), (2, .i x2), (6, .slice (Gp Gx6) nx6 cx6), (29, .slice ulu ulv ulw), (30, .i x30), (31, .i x31)] junk, []⟩ w1 (Done Tg 88 (Rets (Post.z53 nz wz S0 w0 Lr gx0 r)))
def LL.z5c : Int × (List T248) × (List T26) × Int × Int × (List T174) → (List T174) → Prop := fun a r => ∀ {nz wz S0 w0 Lr} (gx0 : Nat), L.z5c nz wz S0 w0 Lr gx0 a r
def L.z5d (gx0 : Nat) : Int × (List T248) × (List T174) → (List T174) → Prop := fun ⟨x2, x6, u95⟩ r => ∀ S1 w1, Ext S0 w0 S1 w1 → ∀ Gx6 nx6 cx6 ubo ukf ukg ukh uki (_ : Hp nz wz S1 w1 ((Gx6, .row 249 ubo (cx6 * (kT248 gx0).size) 0) :: (some gx0, .row 171 [.slice (Gp ukf) ukg ukh] 1 0) :: (ukf, .row 175 uki (ukh * kT174.size) 0) :: Lr)) (_ : Els (kT248 gx0) S1 w1 ubo x6) (_ : x6.length = nx6) (_ : Els kT174 S1 w1 uki u95) (_ : u95.length = ukg) (junk : Nat → Value),
 Goes Tg (base 88) J10y ⟨lfr 59 [(0, (pt gx0 0)), (2, .i x2), (6, .slice (Gp Gx6) nx6 cx6)] junk, []⟩ w1 (Done Tg 88 (Rets (Post.z53 nz wz S0 w0 Lr gx0 r)))
def LL.z5d : Int × (List T248) × (List T174) → (List T174) → Prop := fun a r => ∀ {nz wz S0 w0 Lr} (gx0 : Nat), L.z5d nz wz S0 w0 Lr gx0 a r
def LF.z55 : (List T174) × (List T248) × Int → (List T174) → Prop := fun ⟨ukj, x1, x2⟩ r => ∀ {nz wz S0 w0 Lr} gx0 ukk ukl ukm ukn Ax1 nx1 cx1 (_ : Hp nz wz S0 w0 ((some gx0, .row 171 [.slice (Gp ukk) ukl ukm] 1 0) :: (ukk, .row 175 ukn (ukm * kT174.size) 0) :: Lr)) (_ : Els kT174 S0 w0 ukn ukj) (_ : ukj.length = ukl) (_ : Rd (kT248 gx0) S0 w0 Ax1 cx1 x1) (_ : x1.length = nx1),
 Calls Tg 150 #[(pt gx0 0), .slice Ax1 nx1 cx1, .i x2] w0 (Rets (Post.z55 nz wz S0 w0 Lr gx0 r))
def L.z5e (gx0 : Nat) : (List T248) × Int × (List T248) × Int × Int × (List T174) → (List T174) → Prop := fun ⟨x1, x2, x9, x10, x11, u95⟩ r => ∀ S1 w1, Ext S0 w0 S1 w1 → ∀ Ax1 nx1 cx1 Ax9 nx9 cx9 ukf ukg ukh uki (_ : Hp nz wz S1 w1 ((some gx0, .row 171 [.slice (Gp ukf) ukg ukh] 1 0) :: (ukf, .row 175 uki (ukh * kT174.size) 0) :: Lr)) (_ : Rd (kT248 gx0) S1 w1 Ax1 cx1 x1) (_ : x1.length = nx1) (_ : Rd (kT248 gx0) S1 w1 Ax9 cx9 x9) (_ : x9.length = nx9) (_ : Els kT174 S1 w1 uki u95) (_ : u95.length = ukg) (junk : Nat → Value),
 Goes Tg (base 150) J113 ⟨lfr 35 [(0, (pt gx0 0)), (1, .slice Ax1 nx1 cx1), (2, .i x2), (9, .slice Ax9 nx9 cx9), (10, .i x10), (11, .i x11)] junk, []⟩ w1 (Done Tg 150 (Rets (Post.z55 nz wz S0 w0 Lr gx0 r)))
def LL.z5e : (List T248) × Int × (List T248) × Int × Int × (List T174) → (List T174) → Prop := fun a r => ∀ {nz wz S0 w0 Lr} (gx0 : Nat), L.z5e nz wz S0 w0 Lr gx0 a r
def L.z5f (gx0 : Nat) : (List T248) × Int × T248 × Int × (List T248) × Int × Int × (List T174) → (List T174) → Prop := fun ⟨x1, x2, x7v, x8, x9, x10, x11, u95⟩ r => ∀ S1 w1, Ext S0 w0 S1 w1 → ∀ Ax1 nx1 cx1 gx7 ulx Ax9 nx9 cx9 ukf ukg ukh uki (_ : Hp nz wz S1 w1 ((some gx7, .row 249 [.i x7v.n, ulx] 2 0) :: (some gx0, .row 171 [.slice (Gp ukf) ukg ukh] 1 0) :: (ukf, .row 175 uki (ukh * kT174.size) 0) :: Lr)) (_ : Rd (kT248 gx0) S1 w1 Ax1 cx1 x1) (_ : x1.length = nx1) (_ : Rp1 (kC247 gx0) S1 w1 ulx x7v.code) (_ : Rd (kT248 gx0) S1 w1 Ax9 cx9 x9) (_ : x9.length = nx9) (_ : Els kT174 S1 w1 uki u95) (_ : u95.length = ukg) (junk : Nat → Value),
 Goes Tg (base 150) J116 ⟨lfr 35 [(0, (pt gx0 0)), (1, .slice Ax1 nx1 cx1), (2, .i x2), (7, (pt gx7 0)), (8, .i x8), (9, .slice Ax9 nx9 cx9), (10, .i x10), (11, .i x11)] junk, []⟩ w1 (Done Tg 150 (Rets (Post.z55 nz wz S0 w0 Lr gx0 r)))
def LL.z5f : (List T248) × Int × T248 × Int × (List T248) × Int × Int × (List T174) → (List T174) → Prop := fun a r => ∀ {nz wz S0 w0 Lr} (gx0 : Nat), L.z5f nz wz S0 w0 Lr gx0 a r
def LF.z56 : Int × (List T174) × T26 → (List T174) → Prop := fun ⟨x0, uly, x2⟩ r => ∀ {nz wz S0 w0 Lr} ax1 gx1 ulz um0 um1 um2 ax2 um3 um4 um5 (_ : Hp nz wz S0 w0 ((some gx1, .row 171 [.slice (Gp ulz) um0 um1] 1 0) :: (ulz, .row 175 um2 (um1 * kT174.size) 0) :: Lr)) (_ : Els kT174 S0 w0 um2 uly) (_ : uly.length = um0) (_ : Cs S0 w0 ax1 [(pt gx1 0)]) (_ : x2.Set.length = 4) (_ : Rd kT26 S0 w0 um3 um5 x2.L) (_ : x2.L.length = um4) (_ : Cs S0 w0 ax2 (vT26 x2 um3 um4 um5)),
 Calls Tg 206 #[.i x0, .pointer (some ax1), .pointer (some ax2)] w0 (Rets (Post.z56 nz wz S0 w0 Lr gx1 r))
def L.z5g (gx0 : Nat) : (List T248) × Int × (List T248) × Int × Int × (List T174) → (List T174) → Prop := fun ⟨x1, x2, x9, x10, x11, u95⟩ r => ∀ S1 w1, Ext S0 w0 S1 w1 → ∀ Ax1 nx1 cx1 Ax9 nx9 cx9 ukf ukg ukh uki (_ : Hp nz wz S1 w1 ((some gx0, .row 171 [.slice (Gp ukf) ukg ukh] 1 0) :: (ukf, .row 175 uki (ukh * kT174.size) 0) :: Lr)) (_ : Rd (kT248 gx0) S1 w1 Ax1 cx1 x1) (_ : x1.length = nx1) (_ : Rd (kT248 gx0) S1 w1 Ax9 cx9 x9) (_ : x9.length = nx9) (_ : Els kT174 S1 w1 uki u95) (_ : u95.length = ukg) (junk : Nat → Value),
 Goes Tg (base 150) J115 ⟨lfr 35 [(0, (pt gx0 0)), (1, .slice Ax1 nx1 cx1), (2, .i x2), (9, .slice Ax9 nx9 cx9), (10, .i x10), (11, .i x11)] junk, []⟩ w1 (Done Tg 150 (Rets (Post.z55 nz wz S0 w0 Lr gx0 r)))
def LL.z5g : (List T248) × Int × (List T248) × Int × Int × (List T174) → (List T174) → Prop := fun a r => ∀ {nz wz S0 w0 Lr} (gx0 : Nat), L.z5g nz wz S0 w0 Lr gx0 a r
def LF.z57 : Int × (List T174) × T26 → (List T174) → Prop := fun ⟨x0, uly, x2⟩ r => ∀ {nz wz S0 w0 Lr} ax1 gx1 ulz um0 um1 um2 ax2 um3 um4 um5 (_ : Hp nz wz S0 w0 ((some gx1, .row 171 [.slice (Gp ulz) um0 um1] 1 0) :: (ulz, .row 175 um2 (um1 * kT174.size) 0) :: Lr)) (_ : Els kT174 S0 w0 um2 uly) (_ : uly.length = um0) (_ : Cs S0 w0 ax1 [(pt gx1 0)]) (_ : x2.Set.length = 4) (_ : Rd kT26 S0 w0 um3 um5 x2.L) (_ : x2.L.length = um4) (_ : Cs S0 w0 ax2 (vT26 x2 um3 um4 um5)),
 Calls Tg 252 #[.i x0, .pointer (some ax1), .pointer (some ax2)] w0 (Rets (Post.z57 nz wz S0 w0 Lr gx1 r))
def LF.z58 : Int × (List T174) × Int × T26 → (List T174) → Prop := fun ⟨x0, uly, x2, x3⟩ r => ∀ {nz wz S0 w0 Lr} ax1 gx1 ulz um0 um1 um2 ax2 ax3 um6 um7 um8 (_ : Hp nz wz S0 w0 ((some gx1, .row 171 [.slice (Gp ulz) um0 um1] 1 0) :: (ulz, .row 175 um2 (um1 * kT174.size) 0) :: Lr)) (_ : Els kT174 S0 w0 um2 uly) (_ : uly.length = um0) (_ : Cs S0 w0 ax1 [(pt gx1 0)]) (_ : Cs S0 w0 ax2 [.i x2]) (_ : x3.Set.length = 4) (_ : Rd kT26 S0 w0 um6 um8 x3.L) (_ : x3.L.length = um7) (_ : Cs S0 w0 ax3 (vT26 x3 um6 um7 um8)),
 Calls Tg 253 #[.i x0, .pointer (some ax1), .pointer (some ax2), .pointer (some ax3)] w0 (Rets (Post.z58 nz wz S0 w0 Lr gx1 r))
def L.z5h (gx0 : Nat) : Int × (List T174) → (List T174) → Prop := fun ⟨x2, u95⟩ r => ∀ S1 w1, Ext S0 w0 S1 w1 → ∀ ukf ukg ukh uki (_ : Hp nz wz S1 w1 ((some gx0, .row 171 [.slice (Gp ukf) ukg ukh] 1 0) :: (ukf, .row 175 uki (ukh * kT174.size) 0) :: Lr)) (_ : Els kT174 S1 w1 uki u95) (_ : u95.length = ukg) (junk : Nat → Value),
 Goes Tg (base 88) J10y ⟨lfr 59 [(0, (pt gx0 0)), (2, .i x2), (6, .slice none 0 0)] junk, []⟩ w1 (Done Tg 88 (Rets (Post.z53 nz wz S0 w0 Lr gx0 r)))
def LL.z5h : Int × (List T174) → (List T174) → Prop := fun a r => ∀ {nz wz S0 w0 Lr} (gx0 : Nat), L.z5h nz wz S0 w0 Lr gx0 a r
theorem W.z5i : (∀ a r, M.a1e a = some r → LF.z53 a r) ∧ (∀ a r, M.a4x a = some r → LL.z5h a r) ∧ (∀ a r, M.a2h a = some r → LF.z55 a r) ∧ (∀ a r, M.a1f a = some r → LL.z5e a r) ∧ (∀ a r, M.a2i a = some r → LL.z5f a r) ∧ (∀ a r, M.a50 a = some r → LF.z58 a r) ∧ (∀ a r, M.a4z a = some r → LF.z57 a r) ∧ (∀ a r, M.aq a = some r → LL.z5g a r) ∧ (∀ a r, M.a4y a = some r → LF.z56 a r) ∧ (∀ a r, M.a1w a = some r → LL.z5d a r) ∧ (∀ a r, M.a5x a = some r → LL.z5b a r) ∧ (∀ a r, M.a2g a = some r → LL.z5c a r) ∧ (∀ a r, M.a5w a = some r → LF.z54 a r) ∧ (∀ a r, M.a1x a = some r → LL.z59 a r) ∧ (∀ a r, M.a4c a = some r → LL.z5a a r) := by
 refine M.a1e.mutual_partial_correctness LF.z53 LL.z5h LF.z55 LL.z5e LL.z5f LF.z58 LF.z57 LL.z5g LF.z56 LL.z5d LL.z5b LL.z5c LF.z54 LL.z59 LL.z5a ?_ ?_ ?_ ?_ ?_ ?_ ?_ ?_ ?_ ?_ ?_ ?_ ?_ ?_ ?_
 ·
  intro um9 uma umb rec_prog_writer_any umc umd ume ih_prog_writer_any ⟨ukj, x1, x2⟩ r h nz wz S0 w0 Lr gx0 ukk ukl ukm ukn ufg ufh ufi p0 uko ukp ukq ufo ufp
  try dsimp only at h
  subst ukp
  subst ufp
  refine Zf Tryz.f88 B88 56 ?_
  refine Gj 59 [(0, (pt gx0 0)), (1, (ag (vT26 x1 ufg x1.L.length ufi))), (2, .i x2)] fun junk => ?_
  refine Gn 2 [] (Yt 10 B88 [0] (Ys 11 B88 [])) ?_
  refine Ob 27 1 4 0 (ag (vT26 x1 ufg x1.L.length ufi)) (vT26 x1 ufg x1.L.length ufi) p0 Xa fun b3 w2 z2 p2 => ?_
  refine Gn 9 [(6, .slice none 0 0), (9, (pt b3 0))] (Yt 11100 B88 [1] (Ys 11101 B88 J10x)) ?_
  refine Xb 3 9 10 3 ⟨b3, 0, none⟩ (.i x1.Kind) (p2.c 0 0) ?_
  refine Gm 7 [([12, 11], .bool (decide (x1.Kind = 1)))] (Ys 1110101 B88 J10y) ?_
  refine Gi h (fun h5 h => ?_) fun h5 h => ?_
  ·
   rw [dt h5]
   refine Gn 5 [(13, (pt gx0 0)), (14, (pt b3 1))] (Zr Qud [2, 3, 4, 5] J11c) ?_
   refine Xf 24 14 15 24 ⟨b3, 1, none⟩ (U4 x1.Set []) (p2.pa 0 1) ?_
   refine Gn 2 [(16, .i x2), (17, (ag (.i 1 :: U4 x1.Set [.i x2, .i 0])))] (Zr Qud [5] J11c) ?_
   have p2 := (p2.fr 2).fr 2
   refine Gb h fun y6 e7 h => ?_
   refine Gc (kc 89 [13, 17] #[169, 175]) 18 3 89 _ (W.z4u ukj (⟨1, x1.Set, x2, 0⟩ : T174) y6 e7 _ _ _ _ _ p2 (uko.ext z2) rfl ukq) ?_
   rintro _ w3 ⟨S3, umf, umg, umh, umi, rfl, z3, p3, umj, rfl⟩
   have p3 := p3.dp 2
   refine Gn 1 [] J11c ?_
   obtain rfl := sj h
   exact Xc Tryz.f88 (.tuple #[]) ⟨_, _, _, _, _, rfl, (z2.t z3), p3, umj, rfl⟩
  ·
   rw [df h5]
   refine Gm 6 [([20, 19], .bool (decide (x1.Kind = 3)))] (Ys 111010111 B88 J10y) ?_
   refine Gi h (fun h9 h => ?_) fun h9 h => ?_
   ·
    rw [dt h9]
    refine Gn 5 [(21, (pt gx0 0)), (22, (pt b3 5))] (Zr Qug [2, 3, 4] J11g) ?_
    refine Xb 25 22 23 25 ⟨b3, 5, none⟩ (.slice ufg x1.L.length ufi) (p2.c 0 5) ?_
    refine Gn 1 [(24, .i x2)] (Zr Qug [4] J11g) ?_
    have p2 := (p2.fr 2).fr 2
    refine Gb h fun y10 e11 h => ?_
    refine Gc (kc 147 [21, 23, 24] #[169, 25, 3]) 25 0 147 _ (ih_prog_writer_any (ukj, x1.L, x2) y10 e11 _ _ _ _ _ _ _ _ p2 (uko.ext z2) rfl (ufo.ext z2) rfl) ?_
    rintro _ w4 ⟨S4, umk, uml, umm, umn, rfl, z4, p4, umo, rfl⟩
    have p4 := p4.dp 2
    refine Gn 1 [] J11g ?_
    obtain rfl := sj h
    exact Xc Tryz.f88 (.tuple #[]) ⟨_, _, _, _, _, rfl, (z2.t z4), p4, umo, rfl⟩
   ·
    rw [df h9]
    refine Gm 6 [([27, 26], .bool (decide (x1.Kind = 2)))] (Ys 11101011111 B88 J10y) ?_
    refine Gi h (fun h13 h => ?_) fun h13 h => ?_
    ·
     rw [dt h13]
     refine Gn 4 [(28, (pt b3 5))] (Yt 1110101111100 B88 [1, 2, 3] (Ys 1110101111101 B88 J10y)) ?_
     refine Xb 25 28 29 25 ⟨b3, 5, none⟩ (.slice ufg x1.L.length ufi) (p2.c 0 5) ?_
     refine Gn 5 [(30, .i (x1.L.length : Int)), (31, .i 0)] J111 ?_
     have p2 := p2.dp 0
     exact Gj 59 [(0, (pt gx0 0)), (2, .i x2), (6, .slice none 0 0), (29, .slice ufg x1.L.length ufi), (30, .i (x1.L.length : Int)), (31, .i 0)] (ume _ _ h gx0 _ _ z2 _ _ _ _ _ _ _ p2 (ufo.ext z2) rfl (uko.ext z2) rfl)
    ·
     rw [df h13]
     refine Gm 6 [([43, 42], .bool (decide (x1.Kind = 4)))] (Ys 1110101111111 B88 J10y) ?_
     refine Gi h (fun h15 h => ?_) fun h15 h => ?_
     ·
      rw [dt h15]
      refine Gn 3 [(44, (pt gx0 0))] (Zr Qul [1, 2, 3, 4] J10y) ?_
      refine Xf 27 4 45 27 ⟨b3, 0, none⟩ (vT26 x1 ufg x1.L.length ufi) (p2.pa 0 0) ?_
      refine Gn 1 [(46, .i x2)] (Zr Qul [3, 4] J10y) ?_
      have p2 := (p2.fr 2).fr 2
      refine Gb h fun y16 e17 h => ?_
      refine Gc (kc 149 [44, 45, 46] #[169, 27, 3]) 47 245 149 _ (W.z4y ukj x1 x2 y16 e17 _ _ _ _ _ _ _ _ p2 (uko.ext z2) rfl ukq (ufo.ext z2) rfl) ?_
      rintro _ w5 ⟨S5, ump, umq, umr, ums, rfl, z5, p5, ux, rfl⟩
      have p5 := p5.dp 3
      refine Gn 2 [(6, .slice (Gp ump) y16.length umr)] J10y ?_
      exact Gj 59 [(0, (pt gx0 0)), (2, .i x2), (6, .slice (Gp ump) y16.length umr)] (umd _ _ h gx0 _ _ (z2.t z5) _ _ _ _ _ _ _ _ p5 ux rfl (uko.ext (z2.t z5)) rfl)
     ·
      rw [df h15]
      refine Gn 2 [] J10y ?_
      have p2 := p2.dp 0
      exact Gj 59 [(0, (pt gx0 0)), (2, .i x2), (6, .slice none 0 0)] (umc _ _ h gx0 _ _ z2 _ _ _ _ p2 (uko.ext z2) rfl)
 ·
  intro rec_prog_writer_row ih_prog_writer_row ⟨x2, u95⟩ r h nz wz S0 w0 Lr gx0 S1 w1 hx ukf ukg ukh uki p1 umt umu junk
  try dsimp only at h
  subst umu
  refine Gn 13 [(48, .slice none 0 0), (49, .i 0), (50, .bool true), (51, (pt gx0 0)), (52, .i x2), (53, .agg #[.i 4, .u 0, .u 0, .u 0, .u 0, .i x2, .i 0])] J11q ?_
  refine Gb h fun y64 e65 h => ?_
  refine Gc (kc 89 [51, 53] #[169, 175]) 54 3 89 _ (W.z4u u95 (⟨4, [0, 0, 0, 0], x2, 0⟩ : T174) y64 e65 _ _ _ _ _ p1 umt rfl rfl) ?_
  rintro _ w16 ⟨S16, umv, umw, umx, umy, rfl, z16, p16, umz, rfl⟩
  refine Gn 5 [(55, (pt gx0 0)), (56, .slice none 0 0), (57, .i x2)] J11r ?_
  refine Gb h fun y67 e68 h => ?_
  refine Gc (kc 150 [55, 56, 57] #[169, 245, 3]) 58 0 150 _ (ih_prog_writer_row (y64.2, ([] : List T248), x2) y67 e68 _ _ _ _ _ none 0 0 p16 umz rfl Xq rfl) ?_
  rintro _ w17 ⟨S17, un0, un1, un2, un3, rfl, z17, p17, un4, rfl⟩
  refine Gn 1 [] [] ?_
  obtain rfl := sj h
  exact Xr (fn := Tryz.f88) (by kernel_rfl) (v := .tuple #[]) (by kernel_rfl) ⟨S17, un0, y67.length, un2, un3, rfl, ((hx.t z16).t z17), p17, un4, rfl⟩
 ·
  intro un5 un6 ⟨ukj, x1, x2⟩ r h nz wz S0 w0 Lr gx0 ukk ukl ukm ukn Ax1 nx1 cx1 p0 uko ukp fx1 lx1
  try dsimp only at h
  subst ukp
  subst lx1
  refine Zf Tryz.f150 B150 32 ?_
  refine Gj 35 [(0, (pt gx0 0)), (1, .slice Ax1 x1.length cx1), (2, .i x2)] fun junk => ?_
  refine Gn 8 [(9, .slice Ax1 x1.length cx1), (10, .i (x1.length : Int)), (11, .i 0)] J113 ?_
  exact Gj 35 [(0, (pt gx0 0)), (1, .slice Ax1 x1.length cx1), (2, .i x2), (9, .slice Ax1 x1.length cx1), (10, .i (x1.length : Int)), (11, .i 0)] (un6 _ _ h gx0 _ _ (Xg S0 w0) _ _ _ _ _ _ _ _ _ _ p0 fx1 rfl fx1 rfl uko rfl)
 ·
  intro un7 un8 ⟨x1, x2, x9, x10, x11, u95⟩ r h nz wz S0 w0 Lr gx0 S1 w1 hx Ax1 nx1 cx1 Ax9 nx9 cx9 ukf ukg ukh uki p1 fx1 lx1 fx9 lx9 umt umu junk
  try dsimp only at h
  subst lx1
  subst lx9
  subst umu
  refine Gn 5 [(12, .bool (decide (x11 < x10)))] (Ys 110010 B150 (Ys 110011 B150 J112)) ?_
  refine Gi h (fun h4 h => ?_) fun h4 h => ?_
  ·
   rw [dt h4]
   refine Gn 7 [(13, .i x11)] (Zr Qur [1, 2, 3, 4, 5] J11u) ?_
   refine Gg h fun g5 h => ?_
   refine Gg h fun g6 h => ?_
   refine Oi 245 9 11 14 0 249 .i64 x11 (gi x9 x11) rfl rfl fx9 Xa g5 g6 fun a7 _ f8 q9 => ?_
   obtain ⟨_, _, rfl, rfl, q12⟩ := q9
   obtain ⟨v10, rfl, f11⟩ := rp1_one rfl q12
   refine Xf 249 14 15 249 a7 ([.i ((gi x9 x11).n)] ++ [v10]) (f8.cell) ?_
   refine Oa 249 7 0 (.agg #[.i 0, .nilFunc]) [.i 0, .nilFunc] p1 Xa fun b13 w2 z2 p2 => ?_
   refine Gn 1 [(6, .i x11)] (Zr Qur [5] J11u) ?_
   refine Op_.st 249 7 15 0 0 b13 0 (.agg #[.i ((gi x9 x11).n), v10]) [.i ((gi x9 x11).n), v10] p2 rfl Xd (by kernel_rfl) (by kernel_rfl) (by kernel_rfl) (by kernel_rfl) (Nat.zero_le _) (by simp only [List.length_cons, List.length_nil]; omega) (by intro v hv; simp only [List.mem_cons, List.not_mem_nil, or_false] at hv; rcases hv with rfl | rfl <;> first | rfl | exact Rp1.one1 (f11.ext z2)) fun w3 z3 p3 => ?_
   refine Gn 14 [(16, .i x2), (8, .i x2), (17, .i x11), (18, .slice Ax1 x1.length cx1), (19, .i (x1.length : Int)), (20, .i (wr .i64 ((x1.length : Int) - 1))), (21, .bool (decide (x11 < wr .i64 ((x1.length : Int) - 1))))] (Yt 110011001100 B150 [] J11x) ?_
   refine Gn 1 [] J11x ?_
   refine Gi h (fun h15 h => ?_) fun h15 h => ?_
   ·
    rw [dt h15]
    refine Gn 1 [] (Ys 1100110011010 B150 J116) ?_
    have z4 : Ext S1 w3 S1 (w3).drew := Xm
    have p4 := p3.draw
    refine Gd [] (Fc S1 (w3).drew [(⟨gx0, 0, none⟩, .slice (Gp ukf) u95.length ukh), (⟨b13, 0, none⟩, .i ((gi x9 x11).n))]) 5 9 ?_
    generalize (w3).drew = w4 at z4 p4 ⊢
    refine Xe 0 (.move 0) 22 169 ((pt gx0 0)) (p4.k [(1, 0, 1), (0, 0, 1)]) ?_
    refine Xe 1 (.nilCheck 22) 23 0 ((pt gx0 0)) (p4.k [(1, 0, 1), (0, 0, 1)]) ?_
    refine Xe 2 (.fieldAddr 171 23 0) 24 0 ((pt gx0 0)) (p4.k [(1, 0, 1), (0, 0, 1)]) ?_
    refine Al 3 77 24 25 77 ⟨gx0, 0, none⟩ (.slice (Gp ukf) u95.length ukh) (p4.k [(1, 0, 1), (0, 0, 1)]) (fun _ h => h.2.at_ 0 rfl) ?_
    refine Xe 4 (.call { callee := .builtin .len, args := #[25], argTypes := #[77] }) 26 3 (.i (u95.length : Int)) (p4.k [(1, 0, 1), (0, 0, 1)]) ?_
    refine Xe 5 (.fieldAddr 249 7 0) 27 0 ((pt b13 0)) (p4.k [(1, 0, 1), (0, 0, 1)]) ?_
    refine Al 6 3 27 28 3 ⟨b13, 0, none⟩ (.i ((gi x9 x11).n)) (p4.k [(1, 0, 1), (0, 0, 1)]) (fun _ h => h.2.at_ 1 rfl) ?_
    refine Xe 7 (.binOp .add 3 26 28 3) 29 3 (.i (wr .i64 ((u95.length : Int) + ((gi x9 x11).n)))) (p4.k [(1, 0, 1), (0, 0, 1)]) ?_
    refine Xe 8 (.assign 29) 8 3 (.i (wr .i64 ((u95.length : Int) + ((gi x9 x11).n)))) (p4.k [(1, 0, 1), (0, 0, 1)]) ?_
    refine Ad ?_
    exact Gj 35 [(0, (pt gx0 0)), (1, .slice Ax1 x1.length cx1), (2, .i x2), (7, (pt b13 0)), (8, .i (wr .i64 ((u95.length : Int) + ((gi x9 x11).n)))), (9, .slice Ax9 x9.length cx9), (10, .i x10), (11, .i x11)] (un8 _ _ h gx0 _ _ (((hx.t z2).t z3).t z4) _ _ _ _ _ _ _ _ _ _ _ _ p4 (fx1.ext ((z2.t z3).t z4)) rfl (f11.ext ((z2.t z3).t z4)) (fx9.ext ((z2.t z3).t z4)) rfl (umt.ext ((z2.t z3).t z4)) rfl)
   ·
    rw [df h15]
    refine Gn 2 [] J116 ?_
    exact Gj 35 [(0, (pt gx0 0)), (1, .slice Ax1 x1.length cx1), (2, .i x2), (7, (pt b13 0)), (8, .i x2), (9, .slice Ax9 x9.length cx9), (10, .i x10), (11, .i x11)] (un8 _ _ h gx0 _ _ ((hx.t z2).t z3) _ _ _ _ _ _ _ _ _ _ _ _ p3 (fx1.ext (z2.t z3)) rfl (f11.ext (z2.t z3)) (fx9.ext (z2.t z3)) rfl (umt.ext (z2.t z3)) rfl)
  ·
   rw [df h4]
   refine Gn 2 [] [] ?_
   obtain rfl := sj h
   exact Xr (fn := Tryz.f150) (by kernel_rfl) (v := .tuple #[]) (by kernel_rfl) ⟨S1, ukf, u95.length, ukh, uki, rfl, hx, p1, umt, rfl⟩
 ·
  intro un9 una unb unc und une unf ung ⟨x1, x2, x7v, x8, x9, x10, x11, u95⟩ r h nz wz S0 w0 Lr gx0 S1 w1 hx Ax1 nx1 cx1 gx7 ulx Ax9 nx9 cx9 ukf ukg ukh uki p1 fx1 lx1 unh fx9 lx9 umt umu junk
  try dsimp only at h
  subst lx1
  subst lx9
  subst umu
  refine Gn 2 [(30, (pt gx7 1))] (Zr Qu6 [1, 2, 3] J115) ?_
  refine Xb 247 30 31 247 ⟨gx7, 1, none⟩ (ulx) (p1.c 0 1) ?_
  refine Gn 1 [(32, .i x8)] (Zr Qu6 [3] J115) ?_
  refine Gl h fun v19 e20 h => ?_
  have f18 : Rp1 (kC247 gx0) S1 w1 ulx v19 := by rw [← e20]; exact unh
  rcases v19 with y21 | y33 | y45
  ·
   try dsimp only at h
   obtain ⟨_, rfl, ⟨_, _, rfl, ⟨a22, rfl, f23⟩, ⟨a24, _, rfl, -, f25, q26⟩⟩⟩ := kFn_get (kSum_l f18)
   have q27 := q26
   obtain ⟨_, _, rfl, rfl, ⟨_, _, rfl, ⟨l28, f29⟩, ⟨_, _, rfl, ⟨A30, c31, rfl, f32⟩, ⟨_, _, rfl, rfl, rfl⟩⟩⟩⟩ := kT26_open q27
   obtain rfl := els_lit4' f29 l28
   have p1 := (p1.fr 2).fr 2
   refine Gb h fun y60 e61 h => ?_
   refine Gc (.call { callee := .value 31, args := #[32], argTypes := #[3] }) 33 0 206 _ (ung (x8, u95, y21) y60 e61 _ _ _ _ _ _ _ _ _ _ p1 umt rfl f23 l28 f32 rfl f25) ?_
   rintro _ w5 ⟨S5, uni, unj, unk, unl, rfl, z5, p5, unm, rfl⟩
   have p5 := p5.dp 2
   refine Gn 1 [] J115 ?_
   exact Gj 35 [(0, (pt gx0 0)), (1, .slice Ax1 x1.length cx1), (2, .i x2), (9, .slice Ax9 x9.length cx9), (10, .i x10), (11, .i x11)] (unf _ _ h gx0 _ _ (hx.t z5) _ _ _ _ _ _ _ _ _ _ p5 (fx1.ext z5) rfl (fx9.ext z5) rfl unm rfl)
  ·
   try dsimp only at h
   obtain ⟨_, rfl, ⟨_, _, rfl, ⟨a34, rfl, f35⟩, ⟨a36, _, rfl, -, f37, q38⟩⟩⟩ := kFn_get (kSum_l (kSum_r f18))
   have q39 := q38
   obtain ⟨_, _, rfl, rfl, ⟨_, _, rfl, ⟨l40, f41⟩, ⟨_, _, rfl, ⟨A42, c43, rfl, f44⟩, ⟨_, _, rfl, rfl, rfl⟩⟩⟩⟩ := kT26_open q39
   obtain rfl := els_lit4' f41 l40
   have p1 := (p1.fr 2).fr 2
   refine Gb h fun y64 e65 h => ?_
   refine Gc (.call { callee := .value 31, args := #[32], argTypes := #[3] }) 33 0 252 _ (une (x8, u95, y33) y64 e65 _ _ _ _ _ _ _ _ _ _ p1 umt rfl f35 l40 f44 rfl f37) ?_
   rintro _ w6 ⟨S6, unn, uno, unp, unq, rfl, z6, p6, unr, rfl⟩
   have p6 := p6.dp 2
   refine Gn 1 [] J115 ?_
   exact Gj 35 [(0, (pt gx0 0)), (1, .slice Ax1 x1.length cx1), (2, .i x2), (9, .slice Ax9 x9.length cx9), (10, .i x10), (11, .i x11)] (unf _ _ h gx0 _ _ (hx.t z6) _ _ _ _ _ _ _ _ _ _ p6 (fx1.ext z6) rfl (fx9.ext z6) rfl unr rfl)
  ·
   try dsimp only at h
   obtain ⟨_, rfl, ⟨_, _, rfl, ⟨a46, rfl, f47⟩, ⟨_, _, rfl, ⟨a48, _, rfl, -, f49, q50⟩, ⟨a51, _, rfl, -, f52, q53⟩⟩⟩⟩ := kFn_get (kSum_r (kSum_r f18))
   obtain rfl := q50
   have q54 := q53
   obtain ⟨_, _, rfl, rfl, ⟨_, _, rfl, ⟨l55, f56⟩, ⟨_, _, rfl, ⟨A57, c58, rfl, f59⟩, ⟨_, _, rfl, rfl, rfl⟩⟩⟩⟩ := kT26_open q54
   obtain rfl := els_lit4' f56 l55
   have p1 := (p1.fr 2).fr 2
   refine Gb h fun y67 e68 h => ?_
   refine Gc (.call { callee := .value 31, args := #[32], argTypes := #[3] }) 33 0 253 _ (und (x8, u95, y45.1, y45.2) y67 e68 _ _ _ _ _ _ _ _ _ _ _ p1 umt rfl f47 f49 l55 f59 rfl f52) ?_
   rintro _ w7 ⟨S7, uns, unt, unu, unv, rfl, z7, p7, unw, rfl⟩
   have p7 := p7.dp 2
   refine Gn 1 [] J115 ?_
   exact Gj 35 [(0, (pt gx0 0)), (1, .slice Ax1 x1.length cx1), (2, .i x2), (9, .slice Ax9 x9.length cx9), (10, .i x10), (11, .i x11)] (unf _ _ h gx0 _ _ (hx.t z7) _ _ _ _ _ _ _ _ _ _ p7 (fx1.ext z7) rfl (fx9.ext z7) rfl unw rfl)
 ·
  intro rec_prog_writer_code ih_prog_writer_code ⟨x0, uly, x2, x3⟩ r h nz wz S0 w0 Lr ax1 gx1 ulz um0 um1 um2 ax2 ax3 um6 um7 um8 p0 unx uny unz uo0 uo1 uo2 uo3 uo4
  try dsimp only at h
  subst uny
  subst uo3
  refine Zf Tryz.f253 B253 15 ?_
  refine Gj 19 [(0, .i x0), (1, .pointer (some ax1)), (2, .pointer (some ax2)), (3, .pointer (some ax3))] fun junk => ?_
  refine Gn 1 [] (Ys 10 B253 (Zc Quv [])) ?_
  have z2 : Ext S0 w0 S0 (w0).drew := Xm
  have p2 := p0.draw
  refine Gd [9] (Fc S0 (w0).drew []) 0 10 ?_
  generalize (w0).drew = w2 at z2 p2 ⊢
  refine Al 0 169 1 5 169 ax1 ((pt gx1 0)) Fc0 (fun _ h => (unz.ext z2).fc h 0 _ rfl) ?_
  refine Al 1 169 1 6 169 ax1 ((pt gx1 0)) Fc0 (fun _ h => (unz.ext z2).fc h 0 _ rfl) ?_
  refine Xe 2 (.nilCheck 6) 7 0 ((pt gx1 0)) Fc0 ?_
  refine Xe 3 (.fieldAddr 171 7 0) 8 0 ((pt gx1 0)) Fc0 ?_
  refine Al 7 3 2 12 3 ax2 (.i x2) Fc0 (fun _ h => (uo0.ext z2).fc h 0 _ rfl) ?_
  refine Op_.ld1 77 8 9 77 ⟨gx1, 0, none⟩ (.slice (Gp ulz) uly.length um1) (Av 4) (by kernel_rfl) (by kernel_rfl) (p2.c 0 0) ?_
  refine Xl (Xg _ _) trivial ?_
  refine Xe 5 (.call { callee := .builtin .len, args := #[9], argTypes := #[77] }) 10 3 (.i (uly.length : Int)) Fc0 ?_
  refine Xe 6 (.binOp .add 3 10 (.const (.int .i64 1)) 3) 11 3 (.i (wr .i64 ((uly.length : Int) + 1))) Fc0 ?_
  refine Xe 8 (.build 175 #[(0, (.const (.int .i64 2))), (2, 11), (3, 12)]) 13 175 (.agg #[.i 2, .u 0, .u 0, .u 0, .u 0, .i (wr .i64 ((uly.length : Int) + 1)), .i x2]) Fc0 ?_
  refine Gb h fun y3 e4 h => ?_
  refine Oc (kc 89 [5, 13] #[169, 175]) 14 3 89 #[(pt gx1 0), .agg #[.i 2, .u 0, .u 0, .u 0, .u 0, .i (wr .i64 ((uly.length : Int) + 1)), .i x2]] (Ac 9) (W.z4u uly (⟨2, [0, 0, 0, 0], wr .i64 ((uly.length : Int) + 1), x2⟩ : T174) y3 e4 _ _ _ _ _ p2 (unx.ext z2) rfl rfl) ?_
  rintro _ w3 ⟨S3, umf, umg, umh, umi, rfl, z3, p3, umj, rfl⟩
  refine Xi [] (Fc S3 w3 []) (by decide) ?_
  refine Ad ?_
  refine Gn 1 [] (Zr Quv [0, 1, 2, 3] []) ?_
  refine Xb 169 1 15 169 ax1 ((pt gx1 0)) ((unz.ext (z2.t z3)).cell 0 _ rfl) ?_
  refine Xf 27 3 16 27 ax3 (vT26 x3 um6 x3.L.length um8) ((uo4.ext (z2.t z3)).cell) ?_
  refine Gn 1 [(17, .i x0)] (Zr Quv [3] []) ?_
  refine Gb h fun y6 e7 h => ?_
  refine Gc (kc 88 [15, 16, 17] #[169, 27, 3]) 18 0 88 _ (ih_prog_writer_code (y3.2, x3, x0) y6 e7 _ _ _ _ _ _ _ _ p3 umj rfl uo1 (uo2.ext (z2.t z3)) rfl) ?_
  rintro _ w4 ⟨S4, umk, uml, umm, umn, rfl, z4, p4, umo, rfl⟩
  refine Gn 1 [] [] ?_
  obtain rfl := sj h
  exact Xr (fn := Tryz.f253) (by kernel_rfl) (v := .tuple #[]) (by kernel_rfl) ⟨S4, umk, y6.length, umm, umn, rfl, ((z2.t z3).t z4), p4, umo, rfl⟩
 ·
  intro rec_prog_writer_code ih_prog_writer_code ⟨x0, uly, x2⟩ r h nz wz S0 w0 Lr ax1 gx1 ulz um0 um1 um2 ax2 um3 um4 um5 p0 unx uny unz uo5 uo6 uo7 uo0
  try dsimp only at h
  subst uny
  subst uo7
  refine Zf Tryz.f252 B252 16 ?_
  refine Gj 19 [(0, .i x0), (1, .pointer (some ax1)), (2, .pointer (some ax2))] fun junk => ?_
  refine Gn 1 [] (Ys 10 B252 (Zc Qux [])) ?_
  have z2 : Ext S0 w0 S0 (w0).drew := Xm
  have p2 := p0.draw
  refine Gd [9] (Fc S0 (w0).drew []) 0 11 ?_
  generalize (w0).drew = w2 at z2 p2 ⊢
  refine Al 0 169 1 5 169 ax1 ((pt gx1 0)) Fc0 (fun _ h => (unz.ext z2).fc h 0 _ rfl) ?_
  refine Al 1 169 1 6 169 ax1 ((pt gx1 0)) Fc0 (fun _ h => (unz.ext z2).fc h 0 _ rfl) ?_
  refine Xe 2 (.nilCheck 6) 7 0 ((pt gx1 0)) Fc0 ?_
  refine Xe 3 (.fieldAddr 171 7 0) 8 0 ((pt gx1 0)) Fc0 ?_
  refine Xe 7 (.move 0) 12 3 (.i x0) Fc0 ?_
  refine Op_.ld1 77 8 9 77 ⟨gx1, 0, none⟩ (.slice (Gp ulz) uly.length um1) (Av 4) (by kernel_rfl) (by kernel_rfl) (p2.c 0 0) ?_
  refine Xl (Xg _ _) trivial ?_
  refine Xe 5 (.call { callee := .builtin .len, args := #[9], argTypes := #[77] }) 10 3 (.i (uly.length : Int)) Fc0 ?_
  refine Xe 6 (.binOp .add 3 10 (.const (.int .i64 1)) 3) 11 3 (.i (wr .i64 ((uly.length : Int) + 1))) Fc0 ?_
  refine Xe 8 (.build 175 #[(0, (.const (.int .i64 2))), (2, 11), (3, 12)]) 13 175 (.agg #[.i 2, .u 0, .u 0, .u 0, .u 0, .i (wr .i64 ((uly.length : Int) + 1)), .i x0]) Fc0 ?_
  refine Gb h fun y3 e4 h => ?_
  refine Oc (kc 89 [5, 13] #[169, 175]) 14 3 89 #[(pt gx1 0), .agg #[.i 2, .u 0, .u 0, .u 0, .u 0, .i (wr .i64 ((uly.length : Int) + 1)), .i x0]] (Ac 9) (W.z4u uly (⟨2, [0, 0, 0, 0], wr .i64 ((uly.length : Int) + 1), x0⟩ : T174) y3 e4 _ _ _ _ _ p2 (unx.ext z2) rfl rfl) ?_
  rintro _ w3 ⟨S3, umf, umg, umh, umi, rfl, z3, p3, umj, rfl⟩
  refine Xi [] (Fc S3 w3 []) (by decide) ?_
  refine Xe 10 (.assign 14) 4 3 (.i y3.1) Fc0 ?_
  refine Ad ?_
  refine Gn 1 [] (Zr Qux [0, 1, 2, 3] []) ?_
  refine Xb 169 1 15 169 ax1 ((pt gx1 0)) ((unz.ext (z2.t z3)).cell 0 _ rfl) ?_
  refine Xf 27 2 16 27 ax2 (vT26 x2 um3 x2.L.length um5) ((uo0.ext (z2.t z3)).cell) ?_
  refine Gn 1 [(17, .i y3.1)] (Zr Qux [3] []) ?_
  refine Gb h fun y6 e7 h => ?_
  refine Gc (kc 88 [15, 16, 17] #[169, 27, 3]) 18 0 88 _ (ih_prog_writer_code (y3.2, x2, y3.1) y6 e7 _ _ _ _ _ _ _ _ p3 umj rfl uo5 (uo6.ext (z2.t z3)) rfl) ?_
  rintro _ w4 ⟨S4, umk, uml, umm, umn, rfl, z4, p4, umo, rfl⟩
  refine Gn 1 [] [] ?_
  obtain rfl := sj h
  exact Xr (fn := Tryz.f252) (by kernel_rfl) (v := .tuple #[]) (by kernel_rfl) ⟨S4, umk, y6.length, umm, umn, rfl, ((z2.t z3).t z4), p4, umo, rfl⟩
 ·
  intro un5 un6 ⟨x1, x2, x9, x10, x11, u95⟩ r h nz wz S0 w0 Lr gx0 S1 w1 hx Ax1 nx1 cx1 Ax9 nx9 cx9 ukf ukg ukh uki p1 fx1 lx1 fx9 lx9 umt umu junk
  try dsimp only at h
  subst lx1
  subst lx9
  subst umu
  refine Gm 6 [([34, 11], .i (wr .i64 (x11 + 1)))] J113 ?_
  exact Gj 35 [(0, (pt gx0 0)), (1, .slice Ax1 x1.length cx1), (2, .i x2), (9, .slice Ax9 x9.length cx9), (10, .i x10), (11, .i (wr .i64 (x11 + 1)))] (un6 _ _ h gx0 _ _ hx _ _ _ _ _ _ _ _ _ _ p1 fx1 rfl fx9 rfl umt rfl)
 ·
  intro rec_prog_writer_code ih_prog_writer_code ⟨x0, uly, x2⟩ r h nz wz S0 w0 Lr ax1 gx1 ulz um0 um1 um2 ax2 um3 um4 um5 p0 unx uny unz uo5 uo6 uo7 uo0
  try dsimp only at h
  subst uny
  subst uo7
  refine Zf Tryz.f206 B206 5 ?_
  refine Gj 8 [(0, .i x0), (1, .pointer (some ax1)), (2, .pointer (some ax2))] fun junk => ?_
  refine Gn 1 [] (Zr Quz [0, 1, 2, 3] []) ?_
  refine Xb 169 1 4 169 ax1 ((pt gx1 0)) (unz.cell 0 _ rfl) ?_
  refine Xf 27 2 5 27 ax2 (vT26 x2 um3 x2.L.length um5) (uo0.cell) ?_
  refine Gn 1 [(6, .i x0)] (Zr Quz [3] []) ?_
  refine Gb h fun y3 e4 h => ?_
  refine Gc (kc 88 [4, 5, 6] #[169, 27, 3]) 7 0 88 _ (ih_prog_writer_code (uly, x2, x0) y3 e4 _ _ _ _ _ _ _ _ p0 unx rfl uo5 uo6 rfl) ?_
  rintro _ w2 ⟨S2, uo8, uo9, uoa, uob, rfl, z2, p2, uoc, rfl⟩
  refine Gn 1 [] [] ?_
  obtain rfl := sj h
  exact Xr (fn := Tryz.f206) (by kernel_rfl) (v := .tuple #[]) (by kernel_rfl) ⟨S2, uo8, y3.length, uoa, uob, rfl, z2, p2, uoc, rfl⟩
 ·
  intro rec_prog_writer_row ih_prog_writer_row ⟨x2, x6, u95⟩ r h nz wz S0 w0 Lr gx0 S1 w1 hx Gx6 nx6 cx6 ubo ukf ukg ukh uki p1 fx6 lx6 umt umu junk
  try dsimp only at h
  subst lx6
  subst umu
  refine Gn 8 [(48, .slice (Gp Gx6) x6.length cx6), (49, .i (x6.length : Int)), (50, .bool (decide ((x6.length : Int) = 0)))] (Ys 111101 B88 J11p) ?_
  refine Gi h (fun h52 h => ?_) fun h52 h => ?_
  ·
   rw [dt h52]
   refine Gn 5 [(51, (pt gx0 0)), (52, .i x2), (53, .agg #[.i 4, .u 0, .u 0, .u 0, .u 0, .i x2, .i 0])] J11q ?_
   have p1 := (p1.fr 2).fr 2
   refine Gb h fun y53 e54 h => ?_
   refine Gc (kc 89 [51, 53] #[169, 175]) 54 3 89 _ (W.z4u u95 (⟨4, [0, 0, 0, 0], x2, 0⟩ : T174) y53 e54 _ _ _ _ _ p1 umt rfl rfl) ?_
   rintro _ w11 ⟨S11, uod, uoe, uof, uog, rfl, z11, p11, uoh, rfl⟩
   refine Gn 5 [(55, (pt gx0 0)), (56, .slice (Gp Gx6) x6.length cx6), (57, .i x2)] J11r ?_
   obtain ⟨S12, z12, p12, f56⟩ := p11.freezeRd 2 rfl (fx6.ext z11) (show (0 : Nat) < 2 by decide)
   refine Gb h fun y57 e58 h => ?_
   refine Gc (kc 150 [55, 56, 57] #[169, 245, 3]) 58 0 150 _ (ih_prog_writer_row (y53.2, x6, x2) y57 e58 _ _ _ _ _ _ _ _ p12 (uoh.ext z12) rfl f56 rfl) ?_
   rintro _ w13 ⟨S13, uoi, uoj, uok, uol, rfl, z13, p13, uom, rfl⟩
   have p13 := p13.dp 2
   refine Gn 1 [] [] ?_
   obtain rfl := sj h
   exact Xr (fn := Tryz.f88) (by kernel_rfl) (v := .tuple #[]) (by kernel_rfl) ⟨S13, uoi, y57.length, uok, uol, rfl, (((hx.t z11).t z12).t z13), p13, uom, rfl⟩
  ·
   rw [df h52]
   refine Gn 6 [(55, (pt gx0 0)), (56, .slice (Gp Gx6) x6.length cx6), (57, .i x2)] J11r ?_
   obtain ⟨S14, z14, p14, f60⟩ := p1.freezeRd 0 rfl fx6 (show (0 : Nat) < 2 by decide)
   have p14 := (p14.fr 2).fr 2
   refine Gb h fun y61 e62 h => ?_
   refine Gc (kc 150 [55, 56, 57] #[169, 245, 3]) 58 0 150 _ (ih_prog_writer_row (u95, x6, x2) y61 e62 _ _ _ _ _ _ _ _ p14 (umt.ext z14) rfl f60 rfl) ?_
   rintro _ w15 ⟨S15, uon, uoo, uop, uoq, rfl, z15, p15, uor, rfl⟩
   have p15 := p15.dp 2
   refine Gn 1 [] [] ?_
   obtain rfl := sj h
   exact Xr (fn := Tryz.f88) (by kernel_rfl) (v := .tuple #[]) (by kernel_rfl) ⟨S15, uon, y61.length, uop, uoq, rfl, ((hx.t z14).t z15), p15, uor, rfl⟩
 ·
  intro um9 uos umc uot ⟨x2, x29, x30, x31, u95⟩ r h nz wz S0 w0 Lr gx0 S1 w1 hx ulu ulv ulw ukf ukg ukh uki p1 uou uov umt umu junk
  try dsimp only at h
  subst uov
  subst umu
  refine Gn 5 [(32, .bool (decide (x31 < x30)))] J12e ?_
  refine Gi h (fun h22 h => ?_) fun h22 h => ?_
  ·
   rw [dt h22]
   refine Gn 6 [] J12i ?_
   refine Gg h fun g23 h => ?_
   refine Gg h fun g24 h => ?_
   refine Oi 25 29 31 33 0 27 .i64 x31 (gi x29 x31) rfl rfl uou Xa g23 g24 fun a25 _ f26 q27 => ?_
   have q28 := q27
   obtain ⟨_, _, rfl, rfl, ⟨_, _, rfl, ⟨l29, f30⟩, ⟨_, _, rfl, ⟨A31, c32, rfl, f33⟩, ⟨_, _, rfl, rfl, rfl⟩⟩⟩⟩ := kT26_open q28
   obtain rfl := els_lit4' f30 l29
   refine Xf 27 33 34 27 a25 ([.i ((gi x29 x31).Kind)] ++ ((U4 ((gi x29 x31).Set) []) ++ ([.slice A31 (((gi x29 x31).L).length) c32] ++ ([.i ((gi x29 x31).Min)] ++ [.i ((gi x29 x31).Max)])))) (f26.cell) ?_
   refine Oa 27 8 0 (.agg #[.i 0, .u 0, .u 0, .u 0, .u 0, .slice none 0 0, .i 0, .i 0]) [.i 0, .u 0, .u 0, .u 0, .u 0, .slice none 0 0, .i 0, .i 0] p1 Xa fun b34 w6 z6 p6 => ?_
   refine So 27 8 34 0 0 b34 0 (ag (.i ((gi x29 x31).Kind) :: U4 ((gi x29 x31).Set) [.slice A31 (((gi x29 x31).L).length) c32, .i ((gi x29 x31).Min), .i ((gi x29 x31).Max)])) (.i ((gi x29 x31).Kind) :: U4 ((gi x29 x31).Set) [.slice A31 (((gi x29 x31).L).length) c32, .i ((gi x29 x31).Min), .i ((gi x29 x31).Max)]) p6 rfl Xd fun w7 z7 p7 => ?_
   refine Gn 4 [(35, .slice none 0 0), (36, (pt gx0 0))] J12j ?_
   refine Xf 27 8 37 27 ⟨b34, 0, none⟩ (.i ((gi x29 x31).Kind) :: U4 ((gi x29 x31).Set) [.slice A31 (((gi x29 x31).L).length) c32, .i ((gi x29 x31).Min), .i ((gi x29 x31).Max)]) (p7.pa 0 0) ?_
   have p7 := (p7.fr 2).fr 2
   refine Gb h fun y36 e37 h => ?_
   refine Gc (kc 148 [36, 37] #[169, 27]) 38 249 148 _ (W.z4v u95 (⟨(gi x29 x31).Kind, ((gi x29 x31).Set), (gi x29 x31).L, (gi x29 x31).Min, (gi x29 x31).Max⟩ : T26) y36 e37 _ _ _ _ _ _ _ _ p7 (umt.ext (z6.t z7)) rfl l29 (f33.ext (z6.t z7)) rfl) ?_
   rintro _ w8 ⟨S8, ulq, rfl, z8, p8, ulr⟩
   have p8 := p8.dp 2
   have f39 : Els (kT248 gx0) S8 w8 ([.i y36.n, ulq] : List Value) [y36] := by exact (Els.cons (K := (kT248 gx0)) (vs := [.i y36.n, ulq]) (x := y36) ⟨[.i y36.n], [ulq], rfl, rfl, ulr⟩ Els.nil)
   refine Om (.buildSlice 245 1 #[(0, 38)]) 39 245 (fun b => .slice (Gp (some b)) 1 1) 249 ([.i y36.n, ulq] : List Value) (1 * (kT248 gx0).size) p8 Xa fun b38 w9 z9 p9 => ?_
   have p9 : Hp nz wz S8 w9 ((none, .row 249 [] (0 * (kT248 gx0).size) 0) :: ((some b38), .row 249 ([.i y36.n, ulq] : List Value) (1 * (kT248 gx0).size) 0) :: (some gx0, .row 171 [.slice (Gp ukf) u95.length ukh] 1 0) :: (ukf, .row 175 uki (ukh * kT174.size) 0) :: Lr) := p9.nilRow' 249
   refine Gg h fun g45 h => ?_
   refine Op_.ap_n (K := (kT248 gx0)) 245 35 39 40 245 249 0 (.agg #[.i 0, .nilFunc]) 16 0 0 1 ([] : List T248) [y36] [y36] (Gp (some b38)) 1 rfl rfl (List.nil_append _) p9 rfl (Els.nil (K := (kT248 gx0))) Xa (by kernel_rfl) (by kernel_rfl) (by kernel_rfl) (by kernel_rfl) rfl (show (0 : Nat) < 2 by decide) (f39.ext z9) (src_own p9 (q := 1) rfl) (by have := g45; omega) (by have := g45; omega) fun w10 G46 c47 uow z10 p10 f49 => ?_
   refine Gm 8 [([6], .slice (Gp G46) ([y36].length) c47), ([41, 31], .i (wr .i64 (x31 + 1)))] J111 ?_
   have p10 := p10.dp 1
   exact Gj 59 [(0, (pt gx0 0)), (2, .i x2), (6, .slice (Gp G46) ([y36].length) c47), (29, .slice ulu x29.length ulw), (30, .i x30), (31, .i (wr .i64 (x31 + 1)))] (uot _ _ h gx0 _ _ (((((hx.t z6).t z7).t z8).t z9).t z10) _ _ _ _ _ _ _ _ _ _ _ p10 f49 rfl (uou.ext ((((z6.t z7).t z8).t z9).t z10)) rfl (umt.ext ((((z6.t z7).t z8).t z9).t z10)) rfl)
  ·
   rw [df h22]
   refine Gn 2 [] J10y ?_
   exact Gj 59 [(0, (pt gx0 0)), (2, .i x2), (6, .slice none 0 0)] (umc _ _ h gx0 _ _ hx _ _ _ _ p1 umt rfl)
 ·
  intro uma uos umd uot ⟨x2, x6, x29, x30, x31, u95⟩ r h nz wz S0 w0 Lr gx0 S1 w1 hx Gx6 nx6 cx6 ubo ulu ulv ulw ukf ukg ukh uki p1 fx6 lx6 uou uov umt umu junk
  try dsimp only at h
  subst lx6
  subst uov
  subst umu
  refine Gn 5 [(32, .bool (decide (x31 < x30)))] J12e ?_
  refine Gi h (fun h70 h => ?_) fun h70 h => ?_
  ·
   rw [dt h70]
   refine Gn 6 [] J12i ?_
   refine Gg h fun g71 h => ?_
   refine Gg h fun g72 h => ?_
   refine Oi 25 29 31 33 0 27 .i64 x31 (gi x29 x31) rfl rfl uou Xa g71 g72 fun a73 _ f74 q75 => ?_
   have q76 := q75
   obtain ⟨_, _, rfl, rfl, ⟨_, _, rfl, ⟨l77, f78⟩, ⟨_, _, rfl, ⟨A79, c80, rfl, f81⟩, ⟨_, _, rfl, rfl, rfl⟩⟩⟩⟩ := kT26_open q76
   obtain rfl := els_lit4' f78 l77
   refine Xf 27 33 34 27 a73 ([.i ((gi x29 x31).Kind)] ++ ((U4 ((gi x29 x31).Set) []) ++ ([.slice A79 (((gi x29 x31).L).length) c80] ++ ([.i ((gi x29 x31).Min)] ++ [.i ((gi x29 x31).Max)])))) (f74.cell) ?_
   refine Oa 27 8 0 (.agg #[.i 0, .u 0, .u 0, .u 0, .u 0, .slice none 0 0, .i 0, .i 0]) [.i 0, .u 0, .u 0, .u 0, .u 0, .slice none 0 0, .i 0, .i 0] p1 Xa fun b82 w18 z18 p18 => ?_
   refine So 27 8 34 0 0 b82 0 (ag (.i ((gi x29 x31).Kind) :: U4 ((gi x29 x31).Set) [.slice A79 (((gi x29 x31).L).length) c80, .i ((gi x29 x31).Min), .i ((gi x29 x31).Max)])) (.i ((gi x29 x31).Kind) :: U4 ((gi x29 x31).Set) [.slice A79 (((gi x29 x31).L).length) c80, .i ((gi x29 x31).Min), .i ((gi x29 x31).Max)]) p18 rfl Xd fun w19 z19 p19 => ?_
   refine Gn 4 [(35, .slice (Gp Gx6) x6.length cx6), (36, (pt gx0 0))] J12j ?_
   refine Xf 27 8 37 27 ⟨b82, 0, none⟩ (.i ((gi x29 x31).Kind) :: U4 ((gi x29 x31).Set) [.slice A79 (((gi x29 x31).L).length) c80, .i ((gi x29 x31).Min), .i ((gi x29 x31).Max)]) (p19.pa 0 0) ?_
   have p19 := (p19.fr 3).fr 3
   refine Gb h fun y84 e85 h => ?_
   refine Gc (kc 148 [36, 37] #[169, 27]) 38 249 148 _ (W.z4v u95 (⟨(gi x29 x31).Kind, ((gi x29 x31).Set), (gi x29 x31).L, (gi x29 x31).Min, (gi x29 x31).Max⟩ : T26) y84 e85 _ _ _ _ _ _ _ _ p19 (umt.ext (z18.t z19)) rfl l77 (f81.ext (z18.t z19)) rfl) ?_
   rintro _ w20 ⟨S20, ul2, rfl, z20, p20, ul3⟩
   have p20 := p20.dp 2
   have f87 : Els (kT248 gx0) S20 w20 ([.i y84.n, ul2] : List Value) [y84] := by exact (Els.cons (K := (kT248 gx0)) (vs := [.i y84.n, ul2]) (x := y84) ⟨[.i y84.n], [ul2], rfl, rfl, ul3⟩ Els.nil)
   refine Om (.buildSlice 245 1 #[(0, 38)]) 39 245 (fun b => .slice (Gp (some b)) 1 1) 249 ([.i y84.n, ul2] : List Value) (1 * (kT248 gx0).size) p20 Xa fun b86 w21 z21 p21 => ?_
   refine Gg h fun g92 h => ?_
   refine Op_.ap_n (K := (kT248 gx0)) 245 35 39 40 245 249 3 (.agg #[.i 0, .nilFunc]) 16 x6.length cx6 1 x6 [y84] (x6 ++ [y84]) (Gp (some b86)) 1 rfl rfl rfl p21 rfl (fx6.ext (((z18.t z19).t z20).t z21)) Xa (by kernel_rfl) (by kernel_rfl) (by kernel_rfl) (by kernel_rfl) rfl (show (0 : Nat) < 2 by decide) (f87.ext z21) (src_own p21 (q := 0) rfl) (by have := g92; omega) (by have := g92; omega) fun w22 G93 c94 uhh z22 p22 f96 => ?_
   refine Gm 8 [([6], .slice (Gp G93) ((x6 ++ [y84]).length) c94), ([41, 31], .i (wr .i64 (x31 + 1)))] J111 ?_
   have p22 := p22.dp 0
   have p22 := ((p22.fr 1).fr 1).fr 2
   exact Gj 59 [(0, (pt gx0 0)), (2, .i x2), (6, .slice (Gp G93) ((x6 ++ [y84]).length) c94), (29, .slice ulu x29.length ulw), (30, .i x30), (31, .i (wr .i64 (x31 + 1)))] (uot _ _ h gx0 _ _ (((((hx.t z18).t z19).t z20).t z21).t z22) _ _ _ _ _ _ _ _ _ _ _ p22 f96 rfl (uou.ext ((((z18.t z19).t z20).t z21).t z22)) rfl (umt.ext ((((z18.t z19).t z20).t z21).t z22)) rfl)
  ·
   rw [df h70]
   refine Gn 2 [] J10y ?_
   exact Gj 59 [(0, (pt gx0 0)), (2, .i x2), (6, .slice (Gp Gx6) x6.length cx6)] (umd _ _ h gx0 _ _ hx _ _ _ _ _ _ _ _ p1 fx6 rfl umt rfl)
 ·
  intro uox uoy ⟨ukj, x1, x2⟩ r h nz wz S0 w0 Lr gx0 ukk ukl ukm ukn Ax1 nx1 cx1 p0 uko ukp fx1 lx1
  try dsimp only at h
  subst ukp
  subst lx1
  refine Zf Tryz.f147 B147 44 ?_
  refine Gj 47 [(0, (pt gx0 0)), (1, .slice Ax1 x1.length cx1), (2, .i x2)] fun junk => ?_
  refine Gn 9 [(9, .slice Ax1 x1.length cx1), (10, .i (x1.length : Int)), (11, .i 0)] J10t ?_
  exact Gj 47 [(0, (pt gx0 0)), (1, .slice Ax1 x1.length cx1), (2, .i x2), (9, .slice Ax1 x1.length cx1), (10, .i (x1.length : Int)), (11, .i 0)] (uoy _ _ h gx0 _ _ (Xg S0 w0) _ _ _ _ _ _ _ _ _ _ p0 fx1 rfl fx1 rfl uko rfl)
 ·
  intro uoz up0 ⟨x1, x2, x9, x10, x11, u95⟩ r h nz wz S0 w0 Lr gx0 S1 w1 hx Ax1 nx1 cx1 Ax9 nx9 cx9 ukf ukg ukh uki p1 fx1 lx1 fx9 lx9 umt umu junk
  try dsimp only at h
  subst lx1
  subst lx9
  subst umu
  refine Gn 5 [(12, .bool (decide (x11 < x10)))] (Ys 1010010 B147 (Ys 1010011 B147 J10s)) ?_
  refine Gi h (fun h4 h => ?_) fun h4 h => ?_
  ·
   rw [dt h4]
   refine Gn 7 [(13, .i x11)] (Zr Qv9 [1, 2, 3, 4, 5] J12m) ?_
   refine Gg h fun g5 h => ?_
   refine Gg h fun g6 h => ?_
   refine Oi 25 9 11 14 0 27 .i64 x11 (gi x9 x11) rfl rfl fx9 Xa g5 g6 fun a7 _ f8 q9 => ?_
   have q10 := q9
   obtain ⟨_, _, rfl, rfl, ⟨_, _, rfl, ⟨l11, f12⟩, ⟨_, _, rfl, ⟨A13, c14, rfl, f15⟩, ⟨_, _, rfl, rfl, rfl⟩⟩⟩⟩ := kT26_open q10
   obtain rfl := els_lit4' f12 l11
   refine Xf 27 14 15 27 a7 ([.i ((gi x9 x11).Kind)] ++ ((U4 ((gi x9 x11).Set) []) ++ ([.slice A13 (((gi x9 x11).L).length) c14] ++ ([.i ((gi x9 x11).Min)] ++ [.i ((gi x9 x11).Max)])))) (f8.cell) ?_
   refine Oa 27 7 0 (.agg #[.i 0, .u 0, .u 0, .u 0, .u 0, .slice none 0 0, .i 0, .i 0]) [.i 0, .u 0, .u 0, .u 0, .u 0, .slice none 0 0, .i 0, .i 0] p1 Xa fun b16 w2 z2 p2 => ?_
   refine Gn 1 [(6, .i x11)] (Zr Qv9 [5] J12m) ?_
   refine So 27 7 15 0 0 b16 0 (ag (.i ((gi x9 x11).Kind) :: U4 ((gi x9 x11).Set) [.slice A13 (((gi x9 x11).L).length) c14, .i ((gi x9 x11).Min), .i ((gi x9 x11).Max)])) (.i ((gi x9 x11).Kind) :: U4 ((gi x9 x11).Set) [.slice A13 (((gi x9 x11).L).length) c14, .i ((gi x9 x11).Min), .i ((gi x9 x11).Max)]) p2 rfl Xd fun w3 z3 p3 => ?_
   refine Gn 10 [(16, .i x11), (17, .slice Ax1 x1.length cx1), (18, .i (x1.length : Int)), (19, .i (wr .i64 ((x1.length : Int) - 1))), (20, .bool (decide (x11 < wr .i64 ((x1.length : Int) - 1))))] (Ys 101001100101 B147 J10w) ?_
   refine Gi h (fun h18 h => ?_) fun h18 h => ?_
   ·
    rw [dt h18]
    refine Gm 6 [([21, 22, 23], (pt gx0 0))] (Yt 10100110010100 B147 [3, 4, 5, 6] (Zc Qvb J10w)) ?_
    refine Xb 77 23 24 77 ⟨gx0, 0, none⟩ (.slice (Gp ukf) u95.length ukh) (p3.c 1 0) ?_
    refine Gm 8 [([25], .i (u95.length : Int)), ([26, 8, 28, 29], .i (wr .i64 ((u95.length : Int) + 1))), ([27], (pt gx0 0))] (Zr Qvb [3, 4, 5, 6, 7] J10w) ?_
    refine Xf 27 7 30 27 ⟨b16, 0, none⟩ (.i ((gi x9 x11).Kind) :: U4 ((gi x9 x11).Set) [.slice A13 (((gi x9 x11).L).length) c14, .i ((gi x9 x11).Min), .i ((gi x9 x11).Max)]) (p3.pa 0 0) ?_
    refine Gb h fun y19 e20 h => ?_
    refine Gc (kc 146 [30] #[27]) 31 3 146 _ (W.z4q (⟨(gi x9 x11).Kind, ((gi x9 x11).Set), (gi x9 x11).L, (gi x9 x11).Min, (gi x9 x11).Max⟩ : T26) y19 e20 _ _ _ p3 l11 (f15.ext (z2.t z3)) rfl) ?_
    rintro _ w4 ⟨S4, rfl, z4, p4⟩
    refine Gn 2 [(32, .i (wr .i64 ((wr .i64 ((u95.length : Int) + 1)) + y19))), (33, .agg #[.i 2, .u 0, .u 0, .u 0, .u 0, .i (wr .i64 ((u95.length : Int) + 1)), .i (wr .i64 ((wr .i64 ((u95.length : Int) + 1)) + y19))])] (Zr Qvb [7] J10w) ?_
    have p4 := (p4.fr 2).fr 2
    refine Gb h fun y21 e22 h => ?_
    refine Gc (kc 89 [27, 33] #[169, 175]) 34 3 89 _ (W.z4u u95 (⟨2, [0, 0, 0, 0], wr .i64 ((u95.length : Int) + 1), wr .i64 ((wr .i64 ((u95.length : Int) + 1)) + y19)⟩ : T174) y21 e22 _ _ _ _ _ p4 (umt.ext ((z2.t z3).t z4)) rfl rfl) ?_
    rintro _ w5 ⟨S5, uni, unj, unk, unl, rfl, z5, p5, unm, rfl⟩
    refine Gn 1 [] J10w ?_
    have p5 := ((p5.fr 1).fr 1).fr 2
    exact Gj 47 [(0, (pt gx0 0)), (1, .slice Ax1 x1.length cx1), (2, .i x2), (7, (pt b16 0)), (9, .slice Ax9 x9.length cx9), (10, .i x10), (11, .i x11)] (up0 _ _ h gx0 _ _ ((((hx.t z2).t z3).t z4).t z5) _ _ _ _ _ _ _ _ _ _ _ _ _ _ p5 (fx1.ext (((z2.t z3).t z4).t z5)) rfl l11 (f15.ext (((z2.t z3).t z4).t z5)) rfl (fx9.ext (((z2.t z3).t z4).t z5)) rfl unm rfl)
   ·
    rw [df h18]
    refine Gn 2 [] J10w ?_
    exact Gj 47 [(0, (pt gx0 0)), (1, .slice Ax1 x1.length cx1), (2, .i x2), (7, (pt b16 0)), (9, .slice Ax9 x9.length cx9), (10, .i x10), (11, .i x11)] (up0 _ _ h gx0 _ _ ((hx.t z2).t z3) _ _ _ _ _ _ _ _ _ _ _ _ _ _ p3 (fx1.ext (z2.t z3)) rfl l11 (f15.ext (z2.t z3)) rfl (fx9.ext (z2.t z3)) rfl (umt.ext (z2.t z3)) rfl)
  ·
   rw [df h4]
   refine Gn 8 [(40, .slice Ax1 x1.length cx1), (41, .i (x1.length : Int)), (42, .bool (decide ((x1.length : Int) = 0)))] (Ys 111 B147 []) ?_
   refine Gi h (fun h26 h => ?_) fun h26 h => ?_
   ·
    rw [dt h26]
    refine Gn 5 [(43, (pt gx0 0)), (44, .i x2), (45, .agg #[.i 1, .u 0, .u 0, .u 0, .u 0, .i x2, .i 0])] (Yt 1110 B147 [3] []) ?_
    refine Gb h fun y27 e28 h => ?_
    refine Gc (kc 89 [43, 45] #[169, 175]) 46 3 89 _ (W.z4u u95 (⟨1, [0, 0, 0, 0], x2, 0⟩ : T174) y27 e28 _ _ _ _ _ p1 umt rfl rfl) ?_
    rintro _ w6 ⟨S6, unn, uno, unp, unq, rfl, z6, p6, unr, rfl⟩
    refine Gn 1 [] [] ?_
    obtain rfl := sj h
    exact Xr (fn := Tryz.f147) (by kernel_rfl) (v := .tuple #[]) (by kernel_rfl) ⟨S6, unn, y27.2.length, unp, unq, rfl, (hx.t z6), p6, unr, rfl⟩
   ·
    rw [df h26]
    refine Gn 2 [] [] ?_
    obtain rfl := sj h
    exact Xr (fn := Tryz.f147) (by kernel_rfl) (v := .tuple #[]) (by kernel_rfl) ⟨S1, ukf, u95.length, ukh, uki, rfl, hx, p1, umt, rfl⟩
 ·
  intro rec_prog_writer_code uox ih_prog_writer_code uoy ⟨x1, x2, x7v, x9, x10, x11, u95⟩ r h nz wz S0 w0 Lr gx0 S1 w1 hx Ax1 nx1 cx1 gx7 ult ujq ujr Ax9 nx9 cx9 ukf ukg ukh uki p1 fx1 lx1 ujx ujy ujz fx9 lx9 umt umu junk
  try dsimp only at h
  subst lx1
  subst ujz
  subst lx9
  subst umu
  refine Gn 2 [(35, (pt gx0 0))] (Zr Qu1 [1, 2, 3] J10v) ?_
  refine Xf 27 7 36 27 ⟨gx7, 0, none⟩ (vT26 x7v ult x7v.L.length ujr) (p1.pa 0 0) ?_
  refine Gn 1 [(37, .i x2)] (Zr Qu1 [3] J10v) ?_
  have p1 := (p1.fr 2).fr 2
  refine Gb h fun y30 e31 h => ?_
  refine Gc (kc 88 [35, 36, 37] #[169, 27, 3]) 38 0 88 _ (ih_prog_writer_code (u95, x7v, x2) y30 e31 _ _ _ _ _ _ _ _ p1 umt rfl ujx ujy rfl) ?_
  rintro _ w7 ⟨S7, uns, unt, unu, unv, rfl, z7, p7, unw, rfl⟩
  have p7 := p7.dp 2
  refine Gm 7 [([39, 11], .i (wr .i64 (x11 + 1)))] J10t ?_
  exact Gj 47 [(0, (pt gx0 0)), (1, .slice Ax1 x1.length cx1), (2, .i x2), (9, .slice Ax9 x9.length cx9), (10, .i x10), (11, .i (wr .i64 (x11 + 1)))] (uoy _ _ h gx0 _ _ (hx.t z7) _ _ _ _ _ _ _ _ _ _ p7 (fx1.ext z7) rfl (fx9.ext z7) rfl unw rfl)
theorem W.z53 : ∀ a r, M.a1e a = some r → LF.z53 a r := (W.z5i).1
theorem W.z5h : ∀ a r, M.a4x a = some r → LL.z5h a r := (W.z5i).2.1
theorem W.z55 : ∀ a r, M.a2h a = some r → LF.z55 a r := (W.z5i).2.2.1
theorem W.z5e : ∀ a r, M.a1f a = some r → LL.z5e a r := (W.z5i).2.2.2.1
theorem W.z5f : ∀ a r, M.a2i a = some r → LL.z5f a r := (W.z5i).2.2.2.2.1
theorem W.z58 : ∀ a r, M.a50 a = some r → LF.z58 a r := (W.z5i).2.2.2.2.2.1
theorem W.z57 : ∀ a r, M.a4z a = some r → LF.z57 a r := (W.z5i).2.2.2.2.2.2.1
theorem W.z5g : ∀ a r, M.aq a = some r → LL.z5g a r := (W.z5i).2.2.2.2.2.2.2.1
theorem W.z56 : ∀ a r, M.a4y a = some r → LF.z56 a r := (W.z5i).2.2.2.2.2.2.2.2.1
theorem W.z5d : ∀ a r, M.a1w a = some r → LL.z5d a r := (W.z5i).2.2.2.2.2.2.2.2.2.1
theorem W.z5b : ∀ a r, M.a5x a = some r → LL.z5b a r := (W.z5i).2.2.2.2.2.2.2.2.2.2.1
theorem W.z5c : ∀ a r, M.a2g a = some r → LL.z5c a r := (W.z5i).2.2.2.2.2.2.2.2.2.2.2.1
theorem W.z54 : ∀ a r, M.a5w a = some r → LF.z54 a r := (W.z5i).2.2.2.2.2.2.2.2.2.2.2.2.1
theorem W.z59 : ∀ a r, M.a1x a = some r → LL.z59 a r := (W.z5i).2.2.2.2.2.2.2.2.2.2.2.2.2.1
theorem W.z5a : ∀ a r, M.a4c a = some r → LL.z5a a r := (W.z5i).2.2.2.2.2.2.2.2.2.2.2.2.2.2
def J133 := Zb 0 (Ys 1111 B34 [])
def J139 := Ys 111111 B34 []
def Qvq := Yq 111110 B34
def J13e := Ys 11111111 B34 []
def Post.z5j (r : (List T174) × Int) (v : Value) (w' : World) : Prop :=
 ∃ S' up1 ua0 ua1 up2, v = .tuple #[.slice (Gp up1) ua0 ua1, .i r.2] ∧ Ext S0 w0 S' w' ∧ Hp nz wz S' w' ((up1, .row 175 up2 (ua1 * kT174.size) 0) :: Lr) ∧ Els kT174 S' w' up2 r.1 ∧ r.1.length = ua0
theorem W.z5j (x0 : T26) (r : (List T174) × Int) (h : M.a2j x0 = some r) {nz wz S0 w0 Lr} (u92 u93 u94) (p0 : Hp nz wz S0 w0 (Lr)) (u9e : x0.Set.length = 4) (u9f : Rd kT26 S0 w0 u92 u94 x0.L) (u9g : x0.L.length = u93) :
  Calls Tg 34 #[(ag (vT26 x0 u92 u93 u94))] w0 (Rets (Post.z5j nz wz S0 w0 Lr r)) := by
 subst u9g
 refine Zf Tryz.f34 B34 33 ?_
 refine Gj 34 [(0, (ag (vT26 x0 u92 x0.L.length u94)))] fun junk => ?_
 delta M.a2j at h
 refine Gn 2 [] (Yt 10 B34 [0, 1, 2] (Ys 11 B34 [])) ?_
 refine Ob 27 0 1 0 (ag (vT26 x0 u92 x0.L.length u94)) (vT26 x0 u92 x0.L.length u94) p0 Xa fun b1 w2 z2 p2 => ?_
 refine Gn 5 [(2, .slice none 0 0), (3, .i 0)] (Yt 110 B34 [0, 1, 2, 3, 4, 5, 6] (Ys 111 B34 [])) ?_
 refine Xf 27 1 8 27 ⟨b1, 0, none⟩ (vT26 x0 u92 x0.L.length u94) (p2.pa 0 0) ?_
 refine Gb h fun y3 e4 h => ?_
 refine Gc (kc 87 [8] #[27]) 9 167 87 _ (W.z4t x0 y3 e4 _ _ _ p2 u9e (u9f.ext z2) rfl) ?_
 rintro _ w3 ⟨S3, rfl, z3, p3⟩
 refine Gm 14 [([7], .tuple #[.i y3.1, .i y3.2]), ([10, 4], .i y3.1), ([11, 5, 13], .i y3.2), ([14, 12], .bool (!(decide (y3.2 = 0))))] (Ys 111001 B34 J133) ?_
 refine Gi h (fun h5 h => ?_) fun h5 h => ?_
 ·
  rw [dt h5]
  refine Gm 7 [([17], .i y3.1), ([18, 16], .bool (decide (y3.1 > 2048)))] (Ys 11100111 B34 J133) ?_
  refine Gi h (fun h6 h => ?_) fun h6 h => ?_
  ·
   rw [dt h6]
   refine Gn 6 [(2, .slice none 0 0), (3, .i 110)] (Ys 1110011101 B34 J133) ?_
   have p3 : Hp nz wz S3 w3 ((none, .row 175 [] (0 * kT174.size) 0) :: (some b1, .row 27 (vT26 x0 u92 x0.L.length u94) 8 0) :: Lr) := p3.nilRow' 175
   obtain rfl := sj h
   have p3 := p3.dp 1
   exact Xc Tryz.f34 (.tuple #[.slice (Gp none) 0 0, .i 110]) ⟨_, _, _, _, _, rfl, (z2.t z3), p3, (Els.nil (K := kT174)), rfl⟩
  ·
   rw [df h6]
   refine Gn 6 [(19, .agg #[.slice none 0 0])] (Yt 11110 B34 [1, 2] (Ys 11111 B34 [])) ?_
   refine Ob 171 19 20 169 (.agg #[.slice none 0 0]) [.slice none 0 0] p3 Xa fun b8 w4 z4 p4 => ?_
   refine Gm 5 [([6, 21], (pt b8 0))] (Zr Qvq [1, 2, 3, 4] J139) ?_
   refine Xf 27 1 22 27 ⟨b1, 0, none⟩ (vT26 x0 u92 x0.L.length u94) (p4.pa 1 0) ?_
   refine Gn 2 [(23, .i y3.1), (24, .i (wr .i64 (y3.1 - 1)))] (Zr Qvq [4] J139) ?_
   have p4 : Hp nz wz S3 w4 ((none, .row 175 [] (0 * kT174.size) 0) :: (some b8, .row 171 [.slice none 0 0] 1 0) :: (some b1, .row 27 (vT26 x0 u92 x0.L.length u94) 8 0) :: Lr) := p4.nilRow' 175
   have p4 := (p4.fr 0).fr 1
   refine Gb h fun y11 e12 h => ?_
   refine Gc (kc 88 [21, 22, 24] #[169, 27, 3]) 25 0 88 _ (W.z53 (([] : List T174), x0, wr .i64 (y3.1 - 1)) y11 e12 _ none 0 0 [] _ _ _ p4 (Els.nil (K := kT174)) rfl u9e (u9f.ext ((z2.t z3).t z4)) rfl) ?_
   rintro _ w5 ⟨S5, uni, unj, unk, unl, rfl, z5, p5, unm, rfl⟩
   have p5 := p5.dp 2
   refine Gn 5 [(26, (pt b8 0)), (27, .agg #[.i 3, .u 0, .u 0, .u 0, .u 0, .i 0, .i 0])] (Yt 1111110 B34 [2] (Ys 1111111 B34 [])) ?_
   refine Gb h fun y14 e15 h => ?_
   refine Gc (kc 89 [26, 27] #[169, 175]) 28 3 89 _ (W.z4u y11 (⟨3, [0, 0, 0, 0], 0, 0⟩ : T174) y14 e15 _ _ _ _ _ p5 unm rfl rfl) ?_
   rintro _ w6 ⟨S6, unn, uno, unp, unq, rfl, z6, p6, unr, rfl⟩
   refine Gm 6 [([29, 30, 31], (pt b8 0))] (Yt 11111110 B34 [3, 4, 5, 6] J13e) ?_
   refine Xb 77 31 32 77 ⟨b8, 0, none⟩ (.slice (Gp unn) y14.2.length unp) (p6.c 0 0) ?_
   refine Gm 4 [([33, 3], .i y3.2), ([2], .slice (Gp unn) y14.2.length unp)] J13e ?_
   obtain rfl := sj h
   have p6 := p6.dp 0
   exact Xc Tryz.f34 (.tuple #[.slice (Gp unn) y14.2.length unp, .i y3.2]) ⟨_, _, _, _, _, rfl, ((((z2.t z3).t z4).t z5).t z6), p6, unr, rfl⟩
 ·
  rw [df h5]
  refine Gm 7 [([15, 3], .i y3.2), ([2], .slice none 0 0)] (Ys 11100101 B34 J133) ?_
  have p3 : Hp nz wz S3 w3 ((none, .row 175 [] (0 * kT174.size) 0) :: (some b1, .row 27 (vT26 x0 u92 x0.L.length u94) 8 0) :: Lr) := p3.nilRow' 175
  obtain rfl := sj h
  have p3 := p3.dp 1
  exact Xc Tryz.f34 (.tuple #[.slice (Gp none) 0 0, .i y3.2]) ⟨_, _, _, _, _, rfl, (z2.t z3), p3, (Els.nil (K := kT174)), rfl⟩
def J13h := Ys 1111111 B7 []
def J13i := Ys 1111110101 B7 J13h
def Post.z5k (r : Bool) (v : Value) (w' : World) : Prop :=
 ∃ S', v = .bool r ∧ Ext S0 w0 S' w' ∧ Hp nz wz S' w' (Lr)
def L.z5l : Bool → Bool → Prop := fun x4 r => ∀ S1 w1, Ext S0 w0 S1 w1 → ∀ (_ : Hp nz wz S1 w1 (Lr)) (junk : Nat → Value),
 Goes Tg (base 7) J13i ⟨lfr 79 [(4, .bool x4)] junk, []⟩ w1 (Done Tg 7 (Rets (Post.z5k nz wz S0 w0 Lr r)))
theorem W.z5l {nz wz S0 w0 Lr} : ∀ a r, M.a5y a = some r → L.z5l nz wz S0 w0 Lr a r := by
 intro x4 r h S1 w1 hx p1 junk
 rw [M.a5y] at h
 try dsimp only at h
 obtain rfl := sj h
 exact Xc Tryz.f7 (.bool x4) ⟨_, rfl, hx, p1⟩
def J13j := Ys 111 B281 []
def Qvz := Yq 110 B281
def Post.z5m (gx1 : Nat) (uly : Int) (r : Bool) (v : Value) (w' : World) : Prop :=
 ∃ S', v = .bool r ∧ Ext S0 w0 S' w' ∧ Hp nz wz S' w' ((some gx1, .row 3 [.i uly] 1 0) :: Lr)
theorem W.z5m (x0 : Int) (uly : Int) (r : Bool) (h : M.a2k x0 uly = some r) {nz wz S0 w0 Lr} (gx1) (p0 : Hp nz wz S0 w0 ((some gx1, .row 3 [.i uly] 1 0) :: Lr)) :
  Calls Tg 281 #[.i x0, (pt gx1 0)] w0 (Rets (Post.z5m nz wz S0 w0 Lr gx1 uly r)) := by
 refine Zf Tryz.f281 B281 9 ?_
 refine Gj 11 [(0, .i x0), (1, (pt gx1 0))] fun junk => ?_
 delta M.a2k at h
 refine Gm 9 [([3], .bool false), ([4], .i x0), ([5, 6], .bool (decide (x0 ≥ 0)))] (Zr Qvz [3, 4, 5, 6, 7] J13j) ?_
 refine Gi h (fun h2 h => ?_) fun h2 h => ?_
 ·
  rw [dt h2]
  refine Gn 1 [(7, .i x0)] (Zr Qvz [4, 5, 6, 7] J13j) ?_
  refine Xb 3 1 8 3 ⟨gx1, 0, none⟩ (.i uly) (p0.c 0 0) ?_
  refine Gm 4 [([9, 10, 3], .bool (decide (x0 < uly)))] J13j ?_
  obtain rfl := sj h
  exact Xc Tryz.f281 (.bool (decide (x0 < uly))) ⟨_, rfl, (Xg S0 w0), p0⟩
 ·
  rw [df h2]
  refine Gm 6 [([7, 8, 9], undef), ([10, 3], .bool false)] J13j ?_
  obtain rfl := sj h
  exact Xc Tryz.f281 (.bool false) ⟨_, rfl, (Xg S0 w0), p0⟩
def J13o := Ys 1111 B254 []
def Qw3 := Yq 1110 B254
def J13r := Ys 11111 B254 []
def J13u := Zb 0 J13r
def J13w := Ys 1111010101 B254 J13u
def Qw9 := Yq 1111010100 B254
def J141 := Ys 111101011101 B254 J13u
def Qwc := Yq 111101011100 B254
def J147 := Ys 11110101111101 B254 J13u
def Qwf := Yq 11110101111100 B254
def J14d := Ys 1111010111111101 B254 J13u
def Qwi := Yq 1111010111111100 B254
def Post.z5n (r : Bool) (v : Value) (w' : World) : Prop :=
 ∃ S', v = .bool r ∧ Ext S0 w0 S' w' ∧ Hp nz wz S' w' (Lr)
theorem W.z5n (x0 : T174) (x1 : Int) (r : Bool) (h : M.a51 x0 x1 = some r) {nz wz S0 w0 Lr} (p0 : Hp nz wz S0 w0 (Lr)) (u9e : x0.Set.length = 4) :
  Calls Tg 254 #[(ag (vT174 x0)), .i x1] w0 (Rets (Post.z5n nz wz S0 w0 Lr r)) := by
 refine Zf Tryz.f254 B254 65 ?_
 refine Gj 67 [(0, (ag (vT174 x0))), (1, .i x1)] fun junk => ?_
 delta M.a51 at h
 refine Gn 2 [] (Yt 10 B254 [0, 1, 2] (Ys 11 B254 [])) ?_
 refine Ob 175 0 2 0 (ag (vT174 x0)) (vT174 x0) p0 Xa fun b1 w2 z2 p2 => ?_
 refine Ob 3 1 3 0 (.i x1) [.i x1] p2 Xa fun b3 w3 z3 p3 => ?_
 refine Gm 10 [([4], .bool false), ([7, 5], .func (.func 281) #[] #[(pt b3 0)]), ([8], (pt b1 1))] (Zr Qw3 [1, 2, 3, 4] J13o) ?_
 refine Xf 24 8 9 24 ⟨b1, 1, none⟩ (U4 x0.Set []) (p3.pa 1 1) ?_
 refine Gn 1 [(10, .agg #[.u 0, .u 0, .u 0, .u 0])] (Zr Qw3 [3, 4] J13o) ?_
 refine Op_.eqA 24 9 10 24 11 4 22 4 .u64 (us := ((U4 x0.Set []) : List Value)) (vs := ([.u 0, .u 0, .u 0, .u 0] : List Value)) Xa (by kernel_rfl) (by kernel_rfl) (by kernel_rfl) (by kernel_rfl) (by kernel_rfl) (by kernel_rfl) (by kernel_rfl) (els_mk4 (S := S0) (w := w3) (k := .u64) u9e) (show Els (kInt .u64) S0 w3 ([.u 0, .u 0, .u 0, .u 0] : List Value) _ from (Els.cons (K := (kInt .u64)) (vs := [.u 0]) (x := 0) rfl (Els.cons (K := (kInt .u64)) (vs := [.u 0]) (x := 0) rfl (Els.cons (K := (kInt .u64)) (vs := [.u 0]) (x := 0) rfl (Els.cons (K := (kInt .u64)) (vs := [.u 0]) (x := 0) rfl Els.nil))))) (Xh (els_mk4 (S := S0) (w := w3) (k := .u64) u9e) rfl rfl) (Xh (show Els (kInt .u64) S0 w3 ([.u 0, .u 0, .u 0, .u 0] : List Value) _ from (Els.cons (K := (kInt .u64)) (vs := [.u 0]) (x := 0) rfl (Els.cons (K := (kInt .u64)) (vs := [.u 0]) (x := 0) rfl (Els.cons (K := (kInt .u64)) (vs := [.u 0]) (x := 0) rfl (Els.cons (K := (kInt .u64)) (vs := [.u 0]) (x := 0) rfl Els.nil))))) rfl rfl) ?_
 refine Gn 6 [(6, .bool (decide (x0.Set = [0, 0, 0, 0]))), (12, (pt b1 0))] (Yt 111100 B254 [1] (Ys 111101 B254 J13r)) ?_
 refine Xb 3 12 13 3 ⟨b1, 0, none⟩ (.i x0.Op) (p3.c 1 0) ?_
 refine Gm 7 [([15, 14], .bool (decide (x0.Op = 1)))] (Ys 11110101 B254 J13u) ?_
 refine Gi h (fun h5 h => ?_) fun h5 h => ?_
 ·
  rw [dt h5]
  refine Gn 5 [(16, .func (.func 281) #[] #[(pt b3 0)]), (17, (pt b1 5))] (Zr Qw9 [2, 3, 4, 5, 6, 7, 8, 9] J13w) ?_
  refine Xb 3 17 18 3 ⟨b1, 5, none⟩ (.i x0.X) (p3.c 1 5) ?_
  refine Gb h fun y6 e7 h => ?_
  refine Gc (.call { callee := .value 16, args := #[18], argTypes := #[3] }) 19 4 281 _ (W.z5m x0.X x1 y6 e7 _ p3 ) ?_
  rintro _ w4 ⟨S4, rfl, z4, p4⟩
  have p4 := p4.dp 0
  refine Gn 1 [(20, .bool y6)] (Zr Qw9 [5, 6, 7, 8, 9] J13w) ?_
  refine Gi h (fun h8 h => ?_) fun h8 h => ?_
  ·
   rw [h8]
   refine Gn 1 [(21, (pt b1 6))] (Zr Qw9 [6, 7, 8, 9] J13w) ?_
   refine Xb 3 21 22 3 ⟨b1, 6, none⟩ (.i x0.Y) (p4.c 0 6) ?_
   refine Gm 4 [([23, 24, 4], .bool (decide (x0.Y = 0)))] J13w ?_
   obtain rfl := sj h
   have p4 := p4.dp 0
   exact Xc Tryz.f254 (.bool (decide (x0.Y = 0))) ⟨_, rfl, ((z2.t z3).t z4), p4⟩
  ·
   rw [bf h8]
   refine Gm 6 [([21, 22, 23], undef), ([24, 4], .bool false)] J13w ?_
   obtain rfl := sj h
   have p4 := p4.dp 0
   exact Xc Tryz.f254 (.bool false) ⟨_, rfl, ((z2.t z3).t z4), p4⟩
 ·
  rw [df h5]
  refine Gm 6 [([26, 25], .bool (decide (x0.Op = 2)))] (Ys 1111010111 B254 J13u) ?_
  refine Gi h (fun h9 h => ?_) fun h9 h => ?_
  ·
   rw [dt h9]
   refine Gm 5 [([27, 28], .bool (decide (x0.Set = [0, 0, 0, 0])))] (Zr Qwc [2, 3, 4, 5, 6, 7, 8, 9, 10, 11, 12, 13] J141) ?_
   refine Gi h (fun h10 h => ?_) fun h10 h => ?_
   ·
    rw [dt h10]
    refine Gn 2 [(29, .func (.func 281) #[] #[(pt b3 0)]), (30, (pt b1 5))] (Zr Qwc [4, 5, 6, 7, 8, 9, 10, 11, 12, 13] J141) ?_
    refine Xb 3 30 31 3 ⟨b1, 5, none⟩ (.i x0.X) (p3.c 1 5) ?_
    refine Gb h fun y11 e12 h => ?_
    refine Gc (.call { callee := .value 29, args := #[31], argTypes := #[3] }) 32 4 281 _ (W.z5m x0.X x1 y11 e12 _ p3 ) ?_
    rintro _ w5 ⟨S5, rfl, z5, p5⟩
    refine Gm 2 [([33, 34], .bool y11)] (Zr Qwc [8, 9, 10, 11, 12, 13] J141) ?_
    refine Gi h (fun h13 h => ?_) fun h13 h => ?_
    ·
     rw [h13]
     refine Gn 2 [(35, .func (.func 281) #[] #[(pt b3 0)]), (36, (pt b1 6))] (Zr Qwc [10, 11, 12, 13] J141) ?_
     refine Xb 3 36 37 3 ⟨b1, 6, none⟩ (.i x0.Y) (p5.c 1 6) ?_
     refine Gb h fun y14 e15 h => ?_
     refine Gc (.call { callee := .value 35, args := #[37], argTypes := #[3] }) 38 4 281 _ (W.z5m x0.Y x1 y14 e15 _ p5 ) ?_
     rintro _ w6 ⟨S6, rfl, z6, p6⟩
     have p6 := (p6.dp 0).dp 0
     refine Gm 3 [([39, 4], .bool y14)] J141 ?_
     obtain rfl := sj h
     exact Xc Tryz.f254 (.bool y14) ⟨_, rfl, (((z2.t z3).t z5).t z6), p6⟩
    ·
     rw [bf h13]
     refine Gm 7 [([35, 36, 37, 38], undef), ([39, 4], .bool false)] J141 ?_
     obtain rfl := sj h
     have p5 := (p5.dp 0).dp 0
     exact Xc Tryz.f254 (.bool false) ⟨_, rfl, ((z2.t z3).t z5), p5⟩
   ·
    rw [df h10]
    refine Gm 13 [([29, 30, 31, 32, 35, 36, 37, 38], undef), ([33, 34, 39, 4], .bool false)] J141 ?_
    obtain rfl := sj h
    have p3 := (p3.dp 0).dp 0
    exact Xc Tryz.f254 (.bool false) ⟨_, rfl, (z2.t z3), p3⟩
  ·
   rw [df h9]
   refine Gm 6 [([41, 40], .bool (decide (x0.Op = 4)))] (Ys 111101011111 B254 J13u) ?_
   refine Gi h (fun h16 h => ?_) fun h16 h => ?_
   ·
    rw [dt h16]
    refine Gm 5 [([42, 43], .bool (decide (x0.Set = [0, 0, 0, 0])))] (Zr Qwf [2, 3, 4, 5, 6, 7, 8, 9, 10, 11, 12] J147) ?_
    refine Gi h (fun h17 h => ?_) fun h17 h => ?_
    ·
     rw [dt h17]
     refine Gn 2 [(44, .func (.func 281) #[] #[(pt b3 0)]), (45, (pt b1 5))] (Zr Qwf [4, 5, 6, 7, 8, 9, 10, 11, 12] J147) ?_
     refine Xb 3 45 46 3 ⟨b1, 5, none⟩ (.i x0.X) (p3.c 1 5) ?_
     refine Gb h fun y18 e19 h => ?_
     refine Gc (.call { callee := .value 44, args := #[46], argTypes := #[3] }) 47 4 281 _ (W.z5m x0.X x1 y18 e19 _ p3 ) ?_
     rintro _ w7 ⟨S7, rfl, z7, p7⟩
     have p7 := p7.dp 0
     refine Gm 2 [([48, 49], .bool y18)] (Zr Qwf [8, 9, 10, 11, 12] J147) ?_
     refine Gi h (fun h20 h => ?_) fun h20 h => ?_
     ·
      rw [h20]
      refine Gn 1 [(50, (pt b1 6))] (Zr Qwf [9, 10, 11, 12] J147) ?_
      refine Xb 3 50 51 3 ⟨b1, 6, none⟩ (.i x0.Y) (p7.c 0 6) ?_
      refine Gm 4 [([52, 53, 4], .bool (decide (x0.Y = 0)))] J147 ?_
      obtain rfl := sj h
      have p7 := p7.dp 0
      exact Xc Tryz.f254 (.bool (decide (x0.Y = 0))) ⟨_, rfl, ((z2.t z3).t z7), p7⟩
     ·
      rw [bf h20]
      refine Gm 6 [([50, 51, 52], undef), ([53, 4], .bool false)] J147 ?_
      obtain rfl := sj h
      have p7 := p7.dp 0
      exact Xc Tryz.f254 (.bool false) ⟨_, rfl, ((z2.t z3).t z7), p7⟩
    ·
     rw [df h17]
     refine Gm 12 [([44, 45, 46, 47, 50, 51, 52], undef), ([48, 49, 53, 4], .bool false)] J147 ?_
     obtain rfl := sj h
     have p3 := (p3.dp 0).dp 0
     exact Xc Tryz.f254 (.bool false) ⟨_, rfl, (z2.t z3), p3⟩
   ·
    rw [df h16]
    refine Gm 6 [([55, 54], .bool (decide (x0.Op = 3)))] (Ys 11110101111111 B254 J13u) ?_
    refine Gi h (fun h21 h => ?_) fun h21 h => ?_
    ·
     rw [dt h21]
     refine Gm 5 [([56, 57], .bool (decide (x0.Set = [0, 0, 0, 0])))] (Zr Qwi [2, 3, 4, 5, 6, 7, 8, 9, 10, 11] J14d) ?_
     refine Gi h (fun h22 h => ?_) fun h22 h => ?_
     ·
      rw [dt h22]
      refine Gn 1 [(58, (pt b1 5))] (Zr Qwi [3, 4, 5, 6, 7, 8, 9, 10, 11] J14d) ?_
      refine Xb 3 58 59 3 ⟨b1, 5, none⟩ (.i x0.X) (p3.c 1 5) ?_
      refine Gm 3 [([60, 61, 62], .bool (decide (x0.X = 0)))] (Zr Qwi [7, 8, 9, 10, 11] J14d) ?_
      refine Gi h (fun h23 h => ?_) fun h23 h => ?_
      ·
       rw [dt h23]
       refine Gn 1 [(63, (pt b1 6))] (Zr Qwi [8, 9, 10, 11] J14d) ?_
       refine Xb 3 63 64 3 ⟨b1, 6, none⟩ (.i x0.Y) (p3.c 1 6) ?_
       refine Gm 4 [([65, 66, 4], .bool (decide (x0.Y = 0)))] J14d ?_
       obtain rfl := sj h
       have p3 := (p3.dp 0).dp 0
       exact Xc Tryz.f254 (.bool (decide (x0.Y = 0))) ⟨_, rfl, (z2.t z3), p3⟩
      ·
       rw [df h23]
       refine Gm 6 [([63, 64, 65], undef), ([66, 4], .bool false)] J14d ?_
       obtain rfl := sj h
       have p3 := (p3.dp 0).dp 0
       exact Xc Tryz.f254 (.bool false) ⟨_, rfl, (z2.t z3), p3⟩
     ·
      rw [df h22]
      refine Gm 11 [([58, 59, 60, 63, 64, 65], undef), ([61, 62, 66, 4], .bool false)] J14d ?_
      obtain rfl := sj h
      have p3 := (p3.dp 0).dp 0
      exact Xc Tryz.f254 (.bool false) ⟨_, rfl, (z2.t z3), p3⟩
    ·
     rw [df h21]
     refine Gn 7 [(4, .bool false)] (Ys 111111 B254 []) ?_
     obtain rfl := sj h
     have p3 := (p3.dp 0).dp 0
     exact Xc Tryz.f254 (.bool false) ⟨_, rfl, (z2.t z3), p3⟩
def Qwl := Yq 1110100 B209
def J14l := Zl Qwl (Zb 0 (Ys 1111 B209 []))
def J14m := Zc Qwl J14l
def J14q := Zb 1 (Ys 1110100111 B209 J14l)
def J14t := Ys 1110100110011 B209 J14q
def Qws := Yq 1110100110010 B209
def Post.z5o (r : Int) (v : Value) (w' : World) : Prop :=
 ∃ S', v = .i r ∧ Ext S0 w0 S' w' ∧ Hp nz wz S' w' (Lr)
def L.z5p : (List T174) × (List T174) × Int × Int → Int → Prop := fun ⟨x0, x13, x14, x15⟩ r => ∀ S1 w1, Ext S0 w0 S1 w1 → ∀ Ax0 nx0 cx0 up3 up4 up5 (_ : Hp nz wz S1 w1 (Lr)) (_ : Rd kT174 S1 w1 Ax0 cx0 x0) (_ : x0.length = nx0) (_ : Rd kT174 S1 w1 up3 up5 x13) (_ : x13.length = up4) (junk : Nat → Value),
 Goes Tg (base 209) J14m ⟨lfr 25 [(0, .slice Ax0 nx0 cx0), (13, .slice up3 up4 up5), (14, .i x14), (15, .i x15)] junk, []⟩ w1 (Done Tg 209 (Rets (Post.z5o nz wz S0 w0 Lr r)))
theorem W.z5p {nz wz S0 w0 Lr} : ∀ a r, M.a3j a = some r → (L.z5p nz wz S0 w0 Lr) a r := by
 refine M.a3j.partial_correctness (motive := (L.z5p nz wz S0 w0 Lr)) ?_
 intro up6 up7 ⟨x0, x13, x14, x15⟩ r h S1 w1 hx Ax0 nx0 cx0 up3 up4 up5 p1 fx0 lx0 up8 up9 junk
 try dsimp only at h
 subst lx0
 subst up9
 refine Gn 5 [(16, .bool (decide (x15 < x14)))] (Ys 111010010 B209 (Ys 111010011 B209 J14l)) ?_
 refine Gi h (fun h3 h => ?_) fun h3 h => ?_
 ·
  rw [dt h3]
  refine Gn 6 [] (Yt 111010011000 B209 [0, 1, 2, 3] (Ys 111010011001 B209 J14q)) ?_
  refine Gg h fun g4 h => ?_
  refine Gg h fun g5 h => ?_
  refine Oi 77 13 15 17 0 175 .i64 x15 (gi x13 x15) rfl rfl up8 Xa g4 g5 fun a6 _ f7 q8 => ?_
  obtain ⟨_, _, rfl, rfl, ⟨_, _, rfl, ⟨l9, f10⟩, ⟨_, _, rfl, rfl, rfl⟩⟩⟩ := q8
  obtain rfl := els_lit4' f10 l9
  refine Xf 175 17 18 175 a6 ([.i ((gi x13 x15).Op)] ++ ((U4 ((gi x13 x15).Set) []) ++ ([.i ((gi x13 x15).X)] ++ [.i ((gi x13 x15).Y)]))) (f7.cell) ?_
  refine Oa 175 4 0 (.agg #[.i 0, .u 0, .u 0, .u 0, .u 0, .i 0, .i 0]) [.i 0, .u 0, .u 0, .u 0, .u 0, .i 0, .i 0] p1 Xa fun b11 w2 z2 p2 => ?_
  refine So 175 4 18 0 0 b11 0 (ag (.i ((gi x13 x15).Op) :: U4 ((gi x13 x15).Set) [.i ((gi x13 x15).X), .i ((gi x13 x15).Y)])) (.i ((gi x13 x15).Op) :: U4 ((gi x13 x15).Set) [.i ((gi x13 x15).X), .i ((gi x13 x15).Y)]) p2 rfl Xd fun w3 z3 p3 => ?_
  refine Gn 3 [] (Zr Qws [0, 1, 2, 3, 4] J14t) ?_
  refine Xf 175 4 19 175 ⟨b11, 0, none⟩ (.i ((gi x13 x15).Op) :: U4 ((gi x13 x15).Set) [.i ((gi x13 x15).X), .i ((gi x13 x15).Y)]) (p3.pa 0 0) ?_
  refine Gn 2 [(20, .slice Ax0 x0.length cx0), (21, .i (x0.length : Int))] (Zr Qws [3, 4] J14t) ?_
  refine Gb h fun y13 e14 h => ?_
  refine Gc (kc 254 [19, 21] #[175, 3]) 22 4 254 _ (W.z5n (⟨(gi x13 x15).Op, ((gi x13 x15).Set), (gi x13 x15).X, (gi x13 x15).Y⟩ : T174) (x0.length : Int) y13 e14  p3 l9) ?_
  rintro _ w4 ⟨S4, rfl, z4, p4⟩
  have p4 := p4.dp 0
  refine Gn 2 [(23, .bool (!y13))] J14t ?_
  refine Gi h (fun h15 h => ?_) fun h15 h => ?_
  ·
   rw [h15]
   refine Gm 8 [([24, 15], .i (wr .i64 (x15 + 1)))] J14m ?_
   exact Gj 25 [(0, .slice Ax0 x0.length cx0), (13, .slice up3 x13.length up5), (14, .i x14), (15, .i (wr .i64 (x15 + 1)))] (up7 _ _ h _ _ (((hx.t z2).t z3).t z4) _ _ _ _ _ _ p4 (fx0.ext ((z2.t z3).t z4)) rfl (up8.ext ((z2.t z3).t z4)) rfl)
  ·
   rw [bf h15]
   refine Gn 5 [(2, .i 110)] (Ys 111010011001101 B209 J14q) ?_
   obtain rfl := sj h
   exact Xc Tryz.f209 (.i 110) ⟨_, rfl, (((hx.t z2).t z3).t z4), p4⟩
 ·
  rw [df h3]
  refine Gn 6 [(2, .i 0)] (Ys 11111 B209 []) ?_
  obtain rfl := sj h
  exact Xc Tryz.f209 (.i 0) ⟨_, rfl, hx, p1⟩
def J14y := Ys 111 B209 []
def J14z := Ys 1101 B209 J14y
def L.z5q : (List T174) × Bool → Int → Prop := fun ⟨x0, x12⟩ r => ∀ S1 w1, Ext S0 w0 S1 w1 → ∀ Ax0 nx0 cx0 (_ : Hp nz wz S1 w1 (Lr)) (_ : Rd kT174 S1 w1 Ax0 cx0 x0) (_ : x0.length = nx0) (junk : Nat → Value),
 Goes Tg (base 209) J14z ⟨lfr 25 [(0, .slice Ax0 nx0 cx0), (12, .bool x12)] junk, []⟩ w1 (Done Tg 209 (Rets (Post.z5o nz wz S0 w0 Lr r)))
theorem W.z5q {nz wz S0 w0 Lr} : ∀ a r, M.a52 a = some r → L.z5q nz wz S0 w0 Lr a r := by
 intro ⟨x0, x12⟩ r h S1 w1 hx Ax0 nx0 cx0 p1 fx0 lx0 junk
 rw [M.a52] at h
 try dsimp only at h
 subst lx0
 refine Gi h (fun h2 h => ?_) fun h2 h => ?_
 ·
  rw [h2]
  refine Gn 5 [(2, .i 110)] (Ys 110101 B209 J14y) ?_
  obtain rfl := sj h
  exact Xc Tryz.f209 (.i 110) ⟨_, rfl, hx, p1⟩
 ·
  rw [bf h2]
  refine Gn 11 [(13, .slice Ax0 x0.length cx0), (14, .i (x0.length : Int)), (15, .i 0)] J14m ?_
  exact Gj 25 [(0, .slice Ax0 x0.length cx0), (13, .slice Ax0 x0.length cx0), (14, .i (x0.length : Int)), (15, .i 0)] (W.z5p _ _ h _ _ hx _ _ _ _ _ _ p1 fx0 rfl fx0 rfl)
theorem W.z5o (x0 : List T174) (r : Int) (h : M.a53 x0 = some r) {nz wz S0 w0 Lr} (Ax0 nx0 cx0) (p0 : Hp nz wz S0 w0 (Lr)) (fx0 : Rd kT174 S0 w0 Ax0 cx0 x0) (lx0 : x0.length = nx0) :
  Calls Tg 209 #[.slice Ax0 nx0 cx0] w0 (Rets (Post.z5o nz wz S0 w0 Lr r)) := by
 subst lx0
 refine Zf Tryz.f209 B209 24 ?_
 refine Gj 25 [(0, .slice Ax0 x0.length cx0)] fun junk => ?_
 delta M.a53 at h
 refine Gm 11 [([2], .i 0), ([5], .slice Ax0 x0.length cx0), ([6], .i (x0.length : Int)), ([7, 8], .bool (decide ((x0.length : Int) = 0)))] (Yt 1100 B209 [4, 5, 6, 7] J14z) ?_
 refine Gi h (fun h1 h => ?_) fun h1 h => ?_
 ·
  rw [dt h1]
  refine Gm 5 [([9, 10, 11], undef), ([12], .bool true)] J14z ?_
  exact Gj 25 [(0, .slice Ax0 x0.length cx0), (12, .bool true)] (W.z5q _ _ h _ _ (Xg S0 w0) _ _ _ p0 fx0 rfl)
 ·
  rw [df h1]
  refine Gm 5 [([9], .slice Ax0 x0.length cx0), ([10], .i (x0.length : Int)), ([11, 12], .bool (decide ((x0.length : Int) > 2048)))] J14z ?_
  exact Gj 25 [(0, .slice Ax0 x0.length cx0), (12, .bool (decide ((x0.length : Int) > 2048)))] (W.z5q _ _ h _ _ (Xg S0 w0) _ _ _ p0 fx0 rfl)
def J152 := Ys 111 B210 []
def J156 := Ys 1111 B210 []
def Qx4 := Yq 1110 B210
def Post.z5r (r : List T174) (v : Value) (w' : World) : Prop :=
 ∃ S' Gq nq cq csq, v = .slice (Gp Gq) nq cq ∧ Ext S0 w0 S' w' ∧ Hp nz wz S' w' ((Gq, .row 175 csq (cq * kT174.size) 0) :: Lr) ∧ Els kT174 S' w' csq r ∧ r.length = nq
theorem W.z5r (x0 : List T174) (r : List T174) (h : M.a5z x0 = some r) {nz wz S0 w0 Lr} (Ax0 nx0 cx0) (p0 : Hp nz wz S0 w0 (Lr)) (fx0 : Rd kT174 S0 w0 Ax0 cx0 x0) (lx0 : x0.length = nx0) :
  Calls Tg 210 #[.slice Ax0 nx0 cx0] w0 (Rets (Post.z5r nz wz S0 w0 Lr r)) := by
 subst lx0
 refine Zf Tryz.f210 B210 7 ?_
 refine Gj 8 [(0, .slice Ax0 x0.length cx0)] fun junk => ?_
 delta M.a5z at h
 refine Gn 8 [(2, .slice none 0 0), (3, .slice Ax0 x0.length cx0)] (Yt 1100 B210 [1] (Ys 1101 B210 J152)) ?_
 rcases Rd.isnil fx0 with ⟨rfl, rfl, rfl⟩ | ⟨a1, rfl⟩
 ·
  replace h : (some ([] : List T174)) = some r := by first | exact h | (simpa using h) | (simp at h ⊢; exact h)
  refine Gn 7 [(4, .bool true), (2, .slice none 0 0)] (Ys 110101 B210 J152) ?_
  have p0 : Hp nz wz S0 w0 ((none, .row 175 [] (0 * kT174.size) 0) :: Lr) := p0.nilRow' 175
  obtain rfl := sj h
  exact Xc Tryz.f210 (.slice (Gp none) 0 0) ⟨_, _, _, _, _, rfl, (Xg S0 w0), p0, (Els.nil (K := kT174)), rfl⟩
 ·
  refine Gn 6 [(4, .bool false)] (Zr Qx4 [0, 1, 2, 3] J156) ?_
  have f4 : Els kT174 S0 w0 ([] : List Value) ([] : List T174) := by exact Els.nil
  refine Om (.buildSlice 77 0 #[]) 5 77 (fun b => .slice (Gp (some b)) 0 0) 175 ([] : List Value) (0 * kT174.size) p0 Xa fun b3 w2 z2 p2 => ?_
  refine Gn 1 [(6, .slice (some a1) x0.length cx0)] (Zr Qx4 [2, 3] J156) ?_
  obtain ⟨ns6, f7, f8⟩ := src_rd (fx0.ext z2)
  refine Gg h fun g9 h => ?_
  refine On (K := kT174) 77 5 6 7 77 175 0 (.agg #[.i 0, .u 0, .u 0, .u 0, .u 0, .i 0, .i 0]) 56 0 0 x0.length ([] : List T174) x0 x0 (some a1) cx0 rfl rfl (List.nil_append _) p2 rfl (f4.ext z2) Xa f7 f8 g9 fun w3 G10 c11 upa z3 p3 f13 => ?_
  refine Gn 2 [(2, .slice (Gp G10) x0.length c11)] J156 ?_
  obtain rfl := sj h
  exact Xc Tryz.f210 (.slice (Gp G10) x0.length c11) ⟨_, _, _, _, _, rfl, (z2.t z3), p3, f13, rfl⟩
def J159 := Ys 111 B211 []
def Qx6 := Yq 110 B211
def Post.z5s (r : List Int) (v : Value) (w' : World) : Prop :=
 ∃ S' gq upb upc upe upf, v = (pt gq 0) ∧ Ext S0 w0 S' w' ∧ Hp nz wz S' w' ((some gq, .row 266 [.slice (Gp upb) upc upe, .slice none 0 0] 2 0) :: (upb, .row 3 upf (upe * (kInt .i64).size) 0) :: Lr) ∧ Els (kInt .i64) S' w' upf r ∧ r.length = upc
theorem W.z5s (x0 : Int) (r : List Int) (h : M.a4d x0 = some r) {nz wz S0 w0 Lr} (p0 : Hp nz wz S0 w0 (Lr)) :
  Calls Tg 211 #[.i x0] w0 (Rets (Post.z5s nz wz S0 w0 Lr r)) := by
 refine Zf Tryz.f211 B211 6 ?_
 refine Gj 7 [(0, .i x0)] fun junk => ?_
 delta M.a4d at h
 refine Gn 7 [(2, .pointer none), (3, .i x0)] (Zr Qx6 [1, 2, 3, 4] J159) ?_
 refine Gg h fun g1 h => ?_
 refine Gg h fun g2 h => ?_
 refine Op_.mk_n (K := (kInt .i64)) 264 3 3 4 264 3 .i64 .i64 x0 x0 (.i 0) [.i 0] 8 (0 : Int) (List.replicate (x0 : Int).toNat (0 : Int)) rfl p0 Xa (by kernel_rfl) (by kernel_rfl) (by kernel_rfl) (by kernel_rfl) (by kernel_rfl) (fun _ _ => rfl) g1 (Int.le_refl _) (by have := g2; omega) (by have := g2; omega) fun b3 w2 cs4 z2 p2 f5 => ?_
 refine Gn 1 [(5, .agg #[.slice (Gp (some b3)) ((List.replicate (x0 : Int).toNat (0 : Int)).length) ((x0 : Int).toNat), .slice none 0 0])] (Zr Qx6 [3, 4] J159) ?_
 refine Ob 266 5 6 254 (.agg #[.slice (Gp (some b3)) ((List.replicate (x0 : Int).toNat (0 : Int)).length) ((x0 : Int).toNat), .slice none 0 0]) [.slice (Gp (some b3)) ((List.replicate (x0 : Int).toNat (0 : Int)).length) ((x0 : Int).toNat), .slice none 0 0] p2 Xa fun b7 w3 z3 p3 => ?_
 refine Gn 2 [(2, (pt b7 0))] J159 ?_
 obtain rfl := sj h
 exact Xc Tryz.f211 ((pt b7 0)) ⟨_, _, _, _, _, _, rfl, (z2.t z3), p3, (f5.ext z3), rfl⟩
def J15c := Ys 111 B152 []
def Qx8 := Yq 110 B152
def Post.z5t (gx0 : Nat) (ukk : Option Nat) (ukl : Nat) (ukm : Nat) (ukn : List Value) (upg : Nat) (uph : Option Nat) (upi : Nat) (upj : Nat) (upk : List Value) (upl : Option Nat) (upm : Nat) (upn : Nat) (upo : List Value) (upp : Nat) (upq : Option Nat) (upr : Nat) (ups : Nat) (upt : List Value) (upu : Option Nat) (upv : Nat) (upw : Nat) (upx : List Value) (x0v : T255) (r : Unit) (v : Value) (w' : World) : Prop :=
 ∃ S', v = .bool true ∧ Ext S0 w0 S' w' ∧ Hp nz wz S' w' ((some gx0, .row 256 [.slice (Gp ukk) ukl ukm, (pt upg 0), (pt upp 0)] 3 0) :: (ukk, .row 175 ukn (ukm * kT174.size) 0) :: (some upg, .row 266 [.slice (Gp uph) upi upj, .slice (Gp upl) upm upn] 2 0) :: (uph, .row 3 upk (upj * (kInt .i64).size) 0) :: (upl, .row 257 upo (upn * (kInt .i64).size) 0) :: (some upp, .row 266 [.slice (Gp upq) upr ups, .slice (Gp upu) upv upw] 2 0) :: (upq, .row 3 upt (ups * (kInt .i64).size) 0) :: (upu, .row 257 upx (upw * (kInt .i64).size) 0) :: Lr)
theorem W.z5t (x0v : T255) (r : Unit) (h : M.a4e x0v = some r) {nz wz S0 w0 Lr} (gx0 ukk ukl ukm ukn upg uph upi upj upk upl upm upn upo upp upq upr ups upt upu upv upw upx) (p0 : Hp nz wz S0 w0 ((some gx0, .row 256 [.slice (Gp ukk) ukl ukm, (pt upg 0), (pt upp 0)] 3 0) :: (ukk, .row 175 ukn (ukm * kT174.size) 0) :: (some upg, .row 266 [.slice (Gp uph) upi upj, .slice (Gp upl) upm upn] 2 0) :: (uph, .row 3 upk (upj * (kInt .i64).size) 0) :: (upl, .row 257 upo (upn * (kInt .i64).size) 0) :: (some upp, .row 266 [.slice (Gp upq) upr ups, .slice (Gp upu) upv upw] 2 0) :: (upq, .row 3 upt (ups * (kInt .i64).size) 0) :: (upu, .row 257 upx (upw * (kInt .i64).size) 0) :: Lr)) (uko : Els kT174 S0 w0 ukn x0v.l) (ukp : x0v.l.length = ukl) (upy : Els (kInt .i64) S0 w0 upk x0v.now.place) (upz : x0v.now.place.length = upi) (uq0 : Els (kInt .i64) S0 w0 upo x0v.now.list) (uq1 : x0v.now.list.length = upm) (uq2 : Els (kInt .i64) S0 w0 upt x0v.next.place) (uq3 : x0v.next.place.length = upr) (uq4 : Els (kInt .i64) S0 w0 upx x0v.next.list) (uq5 : x0v.next.list.length = upv) :
  Calls Tg 152 #[(pt gx0 0)] w0 (Rets (Post.z5t nz wz S0 w0 Lr gx0 ukk ukl ukm ukn upg uph upi upj upk upl upm upn upo upp upq upr ups upt upu upv upw upx x0v r)) := by
 subst ukp
 subst upz
 subst uq1
 subst uq3
 subst uq5
 refine Zf Tryz.f152 B152 11 ?_
 refine Gj 12 [(0, (pt gx0 0))] fun junk => ?_
 delta M.a4e at h
 refine Gm 12 [([2], .bool false), ([3, 6, 7], (pt gx0 0)), ([4, 5], .bool true), ([8], (pt gx0 1))] (Zr Qx8 [6, 7, 8, 9] J15c) ?_
 refine Xb 254 8 9 254 ⟨gx0, 1, none⟩ ((pt upg 0)) (p0.c 0 1) ?_
 refine Gm 4 [([10, 11, 2], .bool true)] J15c ?_
 obtain rfl := sj h
 exact Xc Tryz.f152 (.bool true) ⟨_, rfl, (Xg S0 w0), p0⟩
def Qx9 := Yq 1 B153
def Post.z5u (gx0 : Nat) (r : T265) (v : Value) (w' : World) : Prop :=
 ∃ S' ukf ukg ukh uki uq6 uq7 uq8 uq9, v = .tuple #[] ∧ Ext S0 w0 S' w' ∧ Hp nz wz S' w' ((some gx0, .row 266 [.slice (Gp ukf) ukg ukh, .slice (Gp uq6) uq7 uq8] 2 0) :: (ukf, .row 3 uki (ukh * (kInt .i64).size) 0) :: (uq6, .row 257 uq9 (uq8 * (kInt .i64).size) 0) :: Lr) ∧ Els (kInt .i64) S' w' uki r.place ∧ r.place.length = ukg ∧ Els (kInt .i64) S' w' uq9 r.list ∧ r.list.length = uq7
theorem W.z5u (x0v : T265) (r : T265) (h : M.a54 x0v = some r) {nz wz S0 w0 Lr} (gx0 ukk ukl ukm ukn uqa uqb uqc uqd) (p0 : Hp nz wz S0 w0 ((some gx0, .row 266 [.slice (Gp ukk) ukl ukm, .slice (Gp uqa) uqb uqc] 2 0) :: (ukk, .row 3 ukn (ukm * (kInt .i64).size) 0) :: (uqa, .row 257 uqd (uqc * (kInt .i64).size) 0) :: Lr)) (uko : Els (kInt .i64) S0 w0 ukn x0v.place) (ukp : x0v.place.length = ukl) (uqe : Els (kInt .i64) S0 w0 uqd x0v.list) (uqf : x0v.list.length = uqb) :
  Calls Tg 153 #[(pt gx0 0)] w0 (Rets (Post.z5u nz wz S0 w0 Lr gx0 r)) := by
 subst ukp
 subst uqf
 refine Zf Tryz.f153 B153 9 ?_
 refine Gj 10 [(0, (pt gx0 0))] fun junk => ?_
 delta M.a54 at h
 refine Gm 5 [([2, 3, 4], (pt gx0 0)), ([5], (pt gx0 1))] (Zr Qx9 [4, 5, 6, 7, 8] []) ?_
 refine Xb 263 5 6 263 ⟨gx0, 1, none⟩ (.slice (Gp uqa) x0v.list.length uqc) (p0.c 0 1) ?_
 refine Op_.slO (K := (kInt .i64)) 263 6 (.const (.int .i64 0)) 7 263 257 .i64 0 2 (sl x0v.list 0 0) rfl rfl p0 rfl rfl (by decide) uqe Xa (by kernel_rfl) (by kernel_rfl) (by kernel_rfl) (by kernel_rfl) (by decide : (0 : Int) ≤ 0) (Int.natCast_nonneg _) fun cs4 p0 f5 => ?_
 refine Gn 2 [(8, (pt gx0 0)), (9, (pt gx0 1))] (Zr Qx9 [8] []) ?_
 refine So 263 9 7 0 0 gx0 1 (.slice (Gp uqa) ((sl x0v.list 0 0).length) uqc) [.slice (Gp uqa) ((sl x0v.list 0 0).length) uqc] p0 rfl Xd fun w2 z2 p2 => ?_
 refine Gn 1 [] [] ?_
 obtain rfl := sj h
 exact Xr (fn := Tryz.f153) (by kernel_rfl) (v := .tuple #[]) (by kernel_rfl) ⟨S0, ukk, x0v.place.length, ukm, ukn, uqa, (sl x0v.list 0 0).length, uqc, cs4, rfl, z2, p2, (uko.ext z2), rfl, (f5.ext z2), rfl⟩
def J15g := Ys 111 B255 []
def Qxb := Yq 110 B255
def J15j := Ys 1111 B255 []
def Qxd := Yq 1110 B255
def Post.z5v (gx0 : Nat) (ukk : Option Nat) (ukl : Nat) (ukm : Nat) (ukn : List Value) (uqa : Option Nat) (uqb : Nat) (uqc : Nat) (uqd : List Value) (x0v : T265) (r : Bool) (v : Value) (w' : World) : Prop :=
 ∃ S', v = .bool r ∧ Ext S0 w0 S' w' ∧ Hp nz wz S' w' ((some gx0, .row 266 [.slice (Gp ukk) ukl ukm, .slice (Gp uqa) uqb uqc] 2 0) :: (ukk, .row 3 ukn (ukm * (kInt .i64).size) 0) :: (uqa, .row 257 uqd (uqc * (kInt .i64).size) 0) :: Lr)
theorem W.z5v (x0v : T265) (x1 : Int) (r : Bool) (h : M.a55 x0v x1 = some r) {nz wz S0 w0 Lr} (gx0 ukk ukl ukm ukn uqa uqb uqc uqd) (p0 : Hp nz wz S0 w0 ((some gx0, .row 266 [.slice (Gp ukk) ukl ukm, .slice (Gp uqa) uqb uqc] 2 0) :: (ukk, .row 3 ukn (ukm * (kInt .i64).size) 0) :: (uqa, .row 257 uqd (uqc * (kInt .i64).size) 0) :: Lr)) (uko : Els (kInt .i64) S0 w0 ukn x0v.place) (ukp : x0v.place.length = ukl) (uqe : Els (kInt .i64) S0 w0 uqd x0v.list) (uqf : x0v.list.length = uqb) :
  Calls Tg 255 #[(pt gx0 0), .i x1] w0 (Rets (Post.z5v nz wz S0 w0 Lr gx0 ukk ukl ukm ukn uqa uqb uqc uqd x0v r)) := by
 subst ukp
 subst uqf
 refine Zf Tryz.f255 B255 29 ?_
 refine Gj 31 [(0, (pt gx0 0)), (1, .i x1)] fun junk => ?_
 delta M.a55 at h
 refine Gm 9 [([4], .bool false), ([6, 7, 8], (pt gx0 0))] (Zr Qxb [3, 4, 5, 6, 7] J15g) ?_
 refine Xb 264 8 9 264 ⟨gx0, 0, none⟩ (.slice (Gp ukk) x0v.place.length ukm) (p0.c 0 0) ?_
 refine Gn 1 [(10, .i x1)] (Zr Qxb [5, 6, 7] J15g) ?_
 refine Gg h fun g4 h => ?_
 refine Gg h fun g5 h => ?_
 refine Xt 264 9 10 11 0 3 .i64 x1 1 x0v.place.length ukm (gi x0v.place x1) rfl rfl p0 rfl uko Xa (by kernel_rfl) (by kernel_rfl) (by kernel_rfl) (by kernel_rfl) (by decide) g4 g5 ?_
 rintro b6 _ rfl q8 f7
 obtain rfl := q8
 refine Xb 3 11 12 3 ⟨b6, (x1 : Int).toNat * (kInt .i64).size, none⟩ (.i (gi x0v.place x1)) (f7 0 _ rfl) ?_
 refine Gm 8 [([5, 13], .i (gi x0v.place x1)), ([14, 15], (pt gx0 0)), ([16], (pt gx0 1))] (Zr Qxd [4, 5, 6, 7, 8, 9, 10, 11, 12, 13, 14, 15, 16, 17, 18] J15j) ?_
 refine Xb 263 16 17 263 ⟨gx0, 1, none⟩ (.slice (Gp uqa) x0v.list.length uqc) (p0.c 0 1) ?_
 refine Gm 3 [([18], .i (x0v.list.length : Int)), ([19, 20], .bool (decide (gi x0v.place x1 < (x0v.list.length : Int))))] (Zr Qxd [8, 9, 10, 11, 12, 13, 14, 15, 16, 17, 18] J15j) ?_
 refine Gi h (fun h10 h => ?_) fun h10 h => ?_
 ·
  rw [dt h10]
  refine Gm 3 [([21, 22], (pt gx0 0)), ([23], (pt gx0 1))] (Zr Qxd [11, 12, 13, 14, 15, 16, 17, 18] J15j) ?_
  refine Xb 263 23 24 263 ⟨gx0, 1, none⟩ (.slice (Gp uqa) x0v.list.length uqc) (p0.c 0 1) ?_
  refine Gn 1 [(25, .i (gi x0v.place x1))] (Zr Qxd [13, 14, 15, 16, 17, 18] J15j) ?_
  refine Gg h fun g11 h => ?_
  refine Xt 263 24 25 26 0 257 .i64 (gi x0v.place x1) 2 x0v.list.length uqc (gi x0v.list (gi x0v.place x1)) rfl rfl p0 rfl uqe Xa (by kernel_rfl) (by kernel_rfl) (by kernel_rfl) (by kernel_rfl) (by decide) g11 h10 ?_
  rintro b12 _ rfl q14 f13
  obtain rfl := q14
  refine Xb 257 26 27 257 ⟨b12, (gi x0v.place x1 : Int).toNat * (kInt .i64).size, none⟩ (.i (gi x0v.list (gi x0v.place x1))) (f13 0 _ rfl) ?_
  refine Gm 5 [([28], .i x1), ([29, 30, 4], .bool (decide (gi x0v.list (gi x0v.place x1) = x1)))] J15j ?_
  obtain rfl := sj h
  exact Xc Tryz.f255 (.bool (decide (gi x0v.list (gi x0v.place x1) = x1))) ⟨_, rfl, (Xg S0 w0), p0⟩
 ·
  rw [df h10]
  refine Gm 12 [([21, 22, 23, 24, 25, 26, 27, 28, 29], undef), ([30, 4], .bool false)] J15j ?_
  obtain rfl := sj h
  exact Xc Tryz.f255 (.bool false) ⟨_, rfl, (Xg S0 w0), p0⟩
def J15o := Ys 111 B215 []
def J15p := Ys 1101 B215 J15o
def J15u := Ys 11111 B215 []
def Qxl := Yq 11110 B215
def Post.z5w (gx0 : Nat) (r : Bool × T265) (v : Value) (w' : World) : Prop :=
 ∃ S' ukf ukg ukh uki uq6 uq7 uq8 uq9, v = .bool r.1 ∧ Ext S0 w0 S' w' ∧ Hp nz wz S' w' ((some gx0, .row 266 [.slice (Gp ukf) ukg ukh, .slice (Gp uq6) uq7 uq8] 2 0) :: (ukf, .row 3 uki (ukh * (kInt .i64).size) 0) :: (uq6, .row 257 uq9 (uq8 * (kInt .i64).size) 0) :: Lr) ∧ Els (kInt .i64) S' w' uki r.2.place ∧ r.2.place.length = ukg ∧ Els (kInt .i64) S' w' uq9 r.2.list ∧ r.2.list.length = uq7
theorem W.z5w (x0v : T265) (x1 : Int) (r : Bool × T265) (h : M.a2l x0v x1 = some r) {nz wz S0 w0 Lr} (gx0 ukk ukl ukm ukn uqa uqb uqc uqd) (p0 : Hp nz wz S0 w0 ((some gx0, .row 266 [.slice (Gp ukk) ukl ukm, .slice (Gp uqa) uqb uqc] 2 0) :: (ukk, .row 3 ukn (ukm * (kInt .i64).size) 0) :: (uqa, .row 257 uqd (uqc * (kInt .i64).size) 0) :: Lr)) (uko : Els (kInt .i64) S0 w0 ukn x0v.place) (ukp : x0v.place.length = ukl) (uqe : Els (kInt .i64) S0 w0 uqd x0v.list) (uqf : x0v.list.length = uqb) :
  Calls Tg 215 #[(pt gx0 0), .i x1] w0 (Rets (Post.z5w nz wz S0 w0 Lr gx0 r)) := by
 subst ukp
 subst uqf
 refine Zf Tryz.f215 B215 27 ?_
 refine Gj 29 [(0, (pt gx0 0)), (1, .i x1)] fun junk => ?_
 delta M.a2l at h
 refine Gn 9 [(4, .bool false), (5, (pt gx0 0)), (6, .i x1)] (Yt 1100 B215 [2] J15p) ?_
 refine Gb h fun y4 e5 h => ?_
 refine Gc (kc 255 [5, 6] #[254, 257]) 7 4 255 _ (W.z5v x0v x1 y4 e5 _ _ _ _ _ _ _ _ _ p0 uko rfl uqe rfl) ?_
 rintro _ w2 ⟨S2, rfl, z2, p2⟩
 refine Gn 1 [] J15p ?_
 refine Gi h (fun h6 h => ?_) fun h6 h => ?_
 ·
  rw [h6]
  refine Gn 5 [(4, .bool false)] (Ys 110101 B215 J15o) ?_
  obtain rfl := sj h
  exact Xc Tryz.f215 (.bool false) ⟨_, _, _, _, _, _, _, _, _, rfl, z2, p2, (uko.ext z2), rfl, (uqe.ext z2), rfl⟩
 ·
  rw [bf h6]
  refine Gn 3 [] (Ys 1110 B215 (Ys 1111 B215 [])) ?_
  have z3 : Ext S2 w2 S2 (w2).drew := Xm
  have p3 := p2.draw
  refine Gd [11] (Fc S2 (w2).drew [(⟨gx0, 0, none⟩, .slice (Gp ukk) x0v.place.length ukm), (⟨gx0, 1, none⟩, .slice (Gp uqa) x0v.list.length uqc)]) 3 12 ?_
  generalize (w2).drew = w3 at z3 p3 ⊢
  refine Xe 0 (.move 0) 8 254 ((pt gx0 0)) (p3.k [(0, 0, 2)]) ?_
  refine Xe 1 (.nilCheck 8) 9 0 ((pt gx0 0)) (p3.k [(0, 0, 2)]) ?_
  refine Xe 2 (.fieldAddr 266 9 0) 10 0 ((pt gx0 0)) (p3.k [(0, 0, 2)]) ?_
  refine Al 3 264 10 11 264 ⟨gx0, 0, none⟩ (.slice (Gp ukk) x0v.place.length ukm) (p3.k [(0, 0, 2)]) (fun _ h => h.2.at_ 0 rfl) ?_
  refine Xe 4 (.move 1) 12 257 (.i x1) (p3.k [(0, 0, 2)]) ?_
  refine Xe 5 (.move 0) 13 254 ((pt gx0 0)) (p3.k [(0, 0, 2)]) ?_
  refine Xe 6 (.nilCheck 13) 14 0 ((pt gx0 0)) (p3.k [(0, 0, 2)]) ?_
  refine Xe 7 (.fieldAddr 266 14 1) 15 0 ((pt gx0 1)) (p3.k [(0, 0, 2)]) ?_
  refine Al 8 263 15 16 263 ⟨gx0, 1, none⟩ (.slice (Gp uqa) x0v.list.length uqc) (p3.k [(0, 0, 2)]) (fun _ h => h.2.at_ 1 rfl) ?_
  refine Xe 9 (.call { callee := .builtin .len, args := #[16], argTypes := #[263] }) 17 3 (.i (x0v.list.length : Int)) (p3.k [(0, 0, 2)]) ?_
  refine Gg h fun g7 h => ?_
  refine Gg h fun g8 h => ?_
  refine AnyG.ixO_n (i := 10) 264 11 12 18 0 3 .i64 x1 1 x0v.place.length ukm (gi x0v.place x1) rfl rfl p3 rfl (uko.ext (z2.t z3)) (by kernel_rfl) (by kernel_rfl) (p3.k [(0, 0, 2)]) (by kernel_rfl) (by kernel_rfl) (by kernel_rfl) (by kernel_rfl) (by decide) g7 g8 ?_
  rintro b9 _ rfl q11 f13 f10
  obtain rfl := q11
  refine Op_.stE_n (K := (kInt .i64)) 3 18 17 0 1 x1 (.i (x0v.list.length : Int)) [.i (x0v.list.length : Int)] (x0v.list.length : Int) (si x0v.place x1 (x0v.list.length : Int)) x0v.place.length rfl rfl p3 rfl (uko.ext (z2.t z3)) (As 11) (by kernel_rfl) (by kernel_rfl) (by kernel_rfl) rfl (by kernel_rfl) g7 g8 (Nat.zero_le _) fun w4 ueh z4 p4 f15 l16 => ?_
  refine Xi [] (Fc S2 w4 []) (by decide) ?_
  refine Ad ?_
  refine Gm 6 [([19, 20, 21], (pt gx0 0)), ([22], (pt gx0 1))] (Zr Qxl [4, 5, 6, 7, 8, 9, 10] J15u) ?_
  refine Xb 263 22 23 263 ⟨gx0, 1, none⟩ (.slice (Gp uqa) x0v.list.length uqc) (p4.c 0 1) ?_
  refine Gn 1 [(24, .i x1)] (Zr Qxl [6, 7, 8, 9, 10] J15u) ?_
  have f18 : Els (kInt .i64) S2 w4 ([.i x1] : List Value) [x1] := by exact (Els.cons (K := (kInt .i64)) (vs := [.i x1]) (x := x1) rfl Els.nil)
  refine Om (.buildSlice 263 1 #[(0, 24)]) 25 263 (fun b => .slice (Gp (some b)) 1 1) 257 ([.i x1] : List Value) (1 * (kInt .i64).size) p4 Xa fun b17 w5 z5 p5 => ?_
  refine Gg h fun g23 h => ?_
  refine On (K := (kInt .i64)) 263 23 25 26 263 257 3 (.i 0) 8 x0v.list.length uqc 1 x0v.list [x1] (x0v.list ++ [x1]) (Gp (some b17)) 1 rfl rfl rfl p5 rfl (uqe.ext (((z2.t z3).t z4).t z5)) Xa (f18.ext z5) (src_own p5 (q := 0) rfl) g23 fun w6 G24 c25 uqg z6 p6 f27 => ?_
  refine Gn 2 [(27, (pt gx0 0)), (28, (pt gx0 1))] (Zr Qxl [10] J15u) ?_
  refine So 263 28 26 0 1 gx0 1 (.slice (Gp G24) ((x0v.list ++ [x1]).length) c25) [.slice (Gp G24) ((x0v.list ++ [x1]).length) c25] p6 rfl Xd fun w7 z7 p7 => ?_
  refine Gn 5 [(4, .bool true)] (Ys 111111 B215 []) ?_
  obtain rfl := sj h
  have p7 := p7.dp 0
  exact Xc Tryz.f215 (.bool true) ⟨_, _, _, _, _, _, _, _, _, rfl, (((((z2.t z3).t z4).t z5).t z6).t z7), p7, (f15.ext ((z5.t z6).t z7)), l16, (f27.ext z7), rfl⟩
def Qxn := Yq 1100 B155
def J15z := Zl Qxn J7e
def J160 := Zc Qxn J15z
def J162 := Ys 110001 B155 (Ys 11001 B155 J15z)
def J163 := Zb 1 J15z
def J165 := Yt 1100100 B155 [4, 5, 6] (Ys 1100101 B155 J163)
def J167 := Yt 11001010 B155 [4, 5] (Ys 11001011 B155 J163)
def J169 := Ys 1100101101 B155 (Ys 110010111 B155 J163)
def J16a := Yt 1100101100 B155 [2, 3] J169
def J16b := Ys 1100101111 B155 J163
def Qxy := Yq 1100101110 B155
def J16c := Zr Qxy [3, 4, 5, 6, 7, 8] J16b
def J16d := Zr Qxy [5, 6, 7, 8] J16b
def J16f := Yt 11001011110 B155 [1] (Ys 11001011111 B155 J163)
def J16g := Zb 2 J163
def J16i := Zb 4 (Ys 1100101111101 B155 J16g)
def Qy2 := Yq 110010111110001 B155
def J16l := Ys 11001011111000001 B155 (Zb 3 (Zc Qy2 J16i))
def J16n := Ys 1100101111100000001 B155 (Ys 110010111110000001 B155 J16l)
def J16o := Zr Qy2 [2, 3, 4, 5] J16i
def J16q := Yt 11001011111010 B155 [2, 3, 4, 5] (Ys 11001011111011 B155 J16g)
def J16r := Ys 1100101111100000011 B155 J16l
def Post.z5x (gx0 : Nat) (ukk : Option Nat) (ukl : Nat) (ukm : Nat) (ukn : List Value) (upg : Nat) (upp : Nat) (upq : Option Nat) (upr : Nat) (ups : Nat) (upt : List Value) (upu : Option Nat) (upv : Nat) (upw : Nat) (upx : List Value) (x0v : T255) (r : T265) (v : Value) (w' : World) : Prop :=
 ∃ S' ue6 ue7 ue8 ue9 uqh uqi uqj uqk, v = .tuple #[] ∧ Ext S0 w0 S' w' ∧ Hp nz wz S' w' ((some gx0, .row 256 [.slice (Gp ukk) ukl ukm, (pt upg 0), (pt upp 0)] 3 0) :: (ukk, .row 175 ukn (ukm * kT174.size) 0) :: (some upg, .row 266 [.slice (Gp ue6) ue7 ue8, .slice (Gp uqh) uqi uqj] 2 0) :: (ue6, .row 3 ue9 (ue8 * (kInt .i64).size) 0) :: (uqh, .row 257 uqk (uqj * (kInt .i64).size) 0) :: (some upp, .row 266 [.slice (Gp upq) upr ups, .slice (Gp upu) upv upw] 2 0) :: (upq, .row 3 upt (ups * (kInt .i64).size) 0) :: (upu, .row 257 upx (upw * (kInt .i64).size) 0) :: Lr) ∧ Els (kInt .i64) S' w' ue9 r.place ∧ r.place.length = ue7 ∧ Els (kInt .i64) S' w' uqk r.list ∧ r.list.length = uqi
def L.z5y (gx0 : Nat) (ukk : Option Nat) (ukl : Nat) (ukm : Nat) (ukn : List Value) (upg : Nat) (upp : Nat) (upq : Option Nat) (upr : Nat) (ups : Nat) (upt : List Value) (upu : Option Nat) (upv : Nat) (upw : Nat) (upx : List Value) : (List Int) × T265 × T255 → T265 → Prop := fun ⟨x6, e1v, x0v⟩ r => ∀ S1 w1, Ext S0 w0 S1 w1 → ∀ Gx6 nx6 cx6 ubo ue6 ue7 ue8 ue9 uqh uqi uqj uqk (_ : Hp nz wz S1 w1 ((Gx6, .row 257 ubo (cx6 * (kInt .i64).size) 0) :: (some gx0, .row 256 [.slice (Gp ukk) ukl ukm, (pt upg 0), (pt upp 0)] 3 0) :: (ukk, .row 175 ukn (ukm * kT174.size) 0) :: (some upg, .row 266 [.slice (Gp ue6) ue7 ue8, .slice (Gp uqh) uqi uqj] 2 0) :: (ue6, .row 3 ue9 (ue8 * (kInt .i64).size) 0) :: (uqh, .row 257 uqk (uqj * (kInt .i64).size) 0) :: (some upp, .row 266 [.slice (Gp upq) upr ups, .slice (Gp upu) upv upw] 2 0) :: (upq, .row 3 upt (ups * (kInt .i64).size) 0) :: (upu, .row 257 upx (upw * (kInt .i64).size) 0) :: Lr)) (_ : Els (kInt .i64) S1 w1 ubo x6) (_ : x6.length = nx6) (_ : Els kT174 S1 w1 ukn x0v.l) (_ : x0v.l.length = ukl) (_ : Els (kInt .i64) S1 w1 ue9 e1v.place) (_ : e1v.place.length = ue7) (_ : Els (kInt .i64) S1 w1 uqk e1v.list) (_ : e1v.list.length = uqi) (_ : Els (kInt .i64) S1 w1 upt x0v.next.place) (_ : x0v.next.place.length = upr) (_ : Els (kInt .i64) S1 w1 upx x0v.next.list) (_ : x0v.next.list.length = upv) (junk : Nat → Value),
 Goes Tg (base 155) J160 ⟨lfr 52 [(0, (pt gx0 0)), (1, (pt upg 0)), (6, .slice (Gp Gx6) nx6 cx6)] junk, []⟩ w1 (Done Tg 155 (Rets (Post.z5x nz wz S0 w0 Lr gx0 ukk ukl ukm ukn upg upp upq upr ups upt upu upv upw upx x0v r)))
theorem W.z5y {nz wz S0 w0 Lr} (gx0 : Nat) (ukk : Option Nat) (ukl : Nat) (ukm : Nat) (ukn : List Value) (upg : Nat) (upp : Nat) (upq : Option Nat) (upr : Nat) (ups : Nat) (upt : List Value) (upu : Option Nat) (upv : Nat) (upw : Nat) (upx : List Value) : ∀ a r, M.a1y a = some r → (L.z5y nz wz S0 w0 Lr gx0 ukk ukl ukm ukn upg upp upq upr ups upt upu upv upw upx) a r := by
 refine M.a1y.partial_correctness (motive := (L.z5y nz wz S0 w0 Lr gx0 ukk ukl ukm ukn upg upp upq upr ups upt upu upv upw upx)) ?_
 intro uql uqm ⟨x6, e1v, x0v⟩ r h S1 w1 hx Gx6 nx6 cx6 ubo ue6 ue7 ue8 ue9 uqh uqi uqj uqk p1 fx6 lx6 fs2 ls2 uen ueo uqn uqo fs8 ls8 uqp uqq junk
 try dsimp only at h
 subst lx6
 subst ls2
 subst ueo
 subst uqo
 subst ls8
 subst uqq
 refine Gn 7 [(11, .slice (Gp Gx6) x6.length cx6), (12, .i (x6.length : Int)), (13, .bool (decide ((x6.length : Int) > 0)))] J162 ?_
 refine Gi h (fun h15 h => ?_) fun h15 h => ?_
 ·
  rw [dt h15]
  refine Gm 9 [([14, 15], .slice (Gp Gx6) x6.length cx6), ([16], .i (x6.length : Int)), ([17], .i (wr .i64 ((x6.length : Int) - 1)))] J165 ?_
  refine Gg h fun g16 h => ?_
  refine Gg h fun g17 h => ?_
  refine Xt 263 14 17 18 0 257 .i64 (wr .i64 ((x6.length : Int) - 1)) 0 x6.length cx6 (gi x6 (wr .i64 ((x6.length : Int) - 1))) rfl rfl p1 rfl fx6 Xa (by kernel_rfl) (by kernel_rfl) (by kernel_rfl) (by kernel_rfl) (by decide) g16 g17 ?_
  rintro b18 _ rfl q20 f19
  obtain rfl := q20
  refine Xb 257 18 19 257 ⟨b18, (wr .i64 ((x6.length : Int) - 1) : Int).toNat * (kInt .i64).size, none⟩ (.i (gi x6 (wr .i64 ((x6.length : Int) - 1)))) (f19 0 _ rfl) ?_
  refine Gm 8 [([7], .i (gi x6 (wr .i64 ((x6.length : Int) - 1)))), ([20, 21], .slice (Gp (some b18)) x6.length cx6), ([22], .i (x6.length : Int)), ([23], .i (wr .i64 ((x6.length : Int) - 1)))] J167 ?_
  refine Gg h fun g22 h => ?_
  refine Op_.slO (K := (kInt .i64)) 263 20 23 24 263 257 .i64 (wr .i64 ((x6.length : Int) - 1)) 0 (sl x6 0 (wr .i64 ((x6.length : Int) - 1))) rfl rfl p1 rfl rfl (by decide) fx6 Xa (by kernel_rfl) (by kernel_rfl) (by kernel_rfl) (by kernel_rfl) g16 g22 fun uqr p1 f24 => ?_
  refine Gn 7 [(6, .slice (Gp (some b18)) ((sl x6 0 (wr .i64 ((x6.length : Int) - 1))).length) cx6), (25, (pt upg 0)), (26, .i (gi x6 (wr .i64 ((x6.length : Int) - 1))))] J16a ?_
  have p1 := ((p1.fr 5).fr 5).fr 5
  refine Gb h fun y25 e26 h => ?_
  refine Gc (kc 215 [25, 26] #[254, 257]) 27 4 215 _ (W.z5w e1v (gi x6 (wr .i64 ((x6.length : Int) - 1))) y25 e26 _ _ _ _ _ _ _ _ _ p1 uen rfl uqn rfl) ?_
  rintro _ w3 ⟨S3, umf, umg, umh, umi, uqs, uqt, uqu, uqv, rfl, z3, p3, umj, rfl, uqw, rfl⟩
  refine Gn 2 [(28, .bool (!y25.1))] J169 ?_
  refine Gi h (fun h29 h => ?_) fun h29 h => ?_
  ·
   rw [h29]
   refine Gm 7 [([29, 30, 31], (pt gx0 0))] J16c ?_
   refine Xb 77 31 32 77 ⟨gx0, 0, none⟩ (.slice (Gp ukk) x0v.l.length ukm) (p3.c 4 0) ?_
   refine Gn 1 [(33, .i (gi x6 (wr .i64 ((x6.length : Int) - 1))))] J16d ?_
   refine Gg h fun g30 h => ?_
   refine Gg h fun g31 h => ?_
   refine Gl h fun v35 e36 h => ?_
   refine Xt 77 32 33 34 0 175 .i64 (gi x6 (wr .i64 ((x6.length : Int) - 1))) 5 x0v.l.length ukm v35 rfl e36 p3 rfl (fs2.ext z3) Xa (by kernel_rfl) (by kernel_rfl) (by kernel_rfl) (by kernel_rfl) (by decide) g30 g31 ?_
   rintro b32 _ rfl q34 f33
   obtain ⟨_, _, rfl, rfl, ⟨_, _, rfl, ⟨l37, f38⟩, ⟨_, _, rfl, rfl, rfl⟩⟩⟩ := q34
   obtain rfl := els_lit4' f38 l37
   refine Xf 175 34 35 175 ⟨b32, (gi x6 (wr .i64 ((x6.length : Int) - 1)) : Int).toNat * kT174.size, none⟩ ([.i v35.Op] ++ ((U4 v35.Set []) ++ ([.i v35.X] ++ [.i v35.Y]))) f33 ?_
   refine Oa 175 8 0 (.agg #[.i 0, .u 0, .u 0, .u 0, .u 0, .i 0, .i 0]) [.i 0, .u 0, .u 0, .u 0, .u 0, .i 0, .i 0] p3 Xa fun b40 w4 z4 p4 => ?_
   refine So 175 8 35 0 0 b40 0 (ag (vT174 v35)) (vT174 v35) p4 rfl Xd fun w5 z5 p5 => ?_
   refine Gn 4 [(36, (pt b40 0))] J16f ?_
   refine Xb 3 36 37 3 ⟨b40, 0, none⟩ (.i v35.Op) (p5.c 0 0) ?_
   refine Gm 13 [([39, 38], .bool (decide (v35.Op = 2)))] J16n ?_
   refine Gi h (fun h42 h => ?_) fun h42 h => ?_
   ·
    rw [dt h42]
    refine Gn 5 [(42, .slice (Gp (some b18)) ((sl x6 0 (wr .i64 ((x6.length : Int) - 1))).length) cx6), (43, (pt b40 6))] J16o ?_
    refine Xb 3 43 44 3 ⟨b40, 6, none⟩ (.i v35.Y) (p5.c 0 6) ?_
    have f44 : Els (kInt .i64) S3 w5 ([.i v35.Y] : List Value) [v35.Y] := by exact (Els.cons (K := (kInt .i64)) (vs := [.i v35.Y]) (x := v35.Y) rfl Els.nil)
    refine Om (.buildSlice 263 1 #[(0, 44)]) 45 263 (fun b => .slice (Gp (some b)) 1 1) 257 ([.i v35.Y] : List Value) (1 * (kInt .i64).size) p5 Xa fun b43 w6 z6 p6 => ?_
    refine Gl h fun v49 e50 h => ?_
    refine Gg h fun g51 h => ?_
    refine On (K := (kInt .i64)) 263 42 45 46 263 257 5 (.i 0) 8 ((sl x6 0 (wr .i64 ((x6.length : Int) - 1))).length) cx6 1 (sl x6 0 (wr .i64 ((x6.length : Int) - 1))) [v35.Y] v49 (Gp (some b43)) 1 rfl rfl e50 p6 rfl (f24.ext (((z3.t z4).t z5).t z6)) Xa (f44.ext z6) (src_own p6 (q := 0) rfl) g51 fun w7 G52 c53 uqx z7 p7 f55 => ?_
    refine Gm 7 [([6, 47], .slice (Gp G52) v49.length c53), ([48], (pt b40 5))] J16q ?_
    refine Xb 3 48 49 3 ⟨b40, 5, none⟩ (.i v35.X) (p7.c 1 5) ?_
    have f57 : Els (kInt .i64) S3 w7 ([.i v35.X] : List Value) [v35.X] := by exact (Els.cons (K := (kInt .i64)) (vs := [.i v35.X]) (x := v35.X) rfl Els.nil)
    refine Om (.buildSlice 263 1 #[(0, 49)]) 50 263 (fun b => .slice (Gp (some b)) 1 1) 257 ([.i v35.X] : List Value) (1 * (kInt .i64).size) p7 Xa fun b56 w8 z8 p8 => ?_
    refine Gg h fun g62 h => ?_
    refine On (K := (kInt .i64)) 263 47 50 51 263 257 6 (.i 0) 8 v49.length c53 1 v49 [v35.X] (v49 ++ [v35.X]) (Gp (some b56)) 1 rfl rfl rfl p8 rfl (f55.ext z8) Xa (f57.ext z8) (src_own p8 (q := 0) rfl) g62 fun w9 G63 c64 ulh z9 p9 f66 => ?_
    refine Gn 5 [(6, .slice (Gp G63) ((v49 ++ [v35.X]).length) c64)] J160 ?_
    have p9 := ((p9.dp 0).dp 0).dp 0
    have p9 := ((((((((p9.fr 8).fr 8).fr 8).fr 5).fr 5).fr 5).fr 8).fr 8).fr 8
    exact Gj 52 [(0, (pt gx0 0)), (1, (pt upg 0)), (6, .slice (Gp G63) ((v49 ++ [v35.X]).length) c64)] (uqm _ _ h _ _ (((((((hx.t z3).t z4).t z5).t z6).t z7).t z8).t z9) _ _ _ _ _ _ _ _ _ _ _ _ p9 f66 rfl (fs2.ext ((((((z3.t z4).t z5).t z6).t z7).t z8).t z9)) rfl (umj.ext (((((z4.t z5).t z6).t z7).t z8).t z9)) rfl (uqw.ext (((((z4.t z5).t z6).t z7).t z8).t z9)) rfl (fs8.ext ((((((z3.t z4).t z5).t z6).t z7).t z8).t z9)) rfl (uqp.ext ((((((z3.t z4).t z5).t z6).t z7).t z8).t z9)) rfl)
   ·
    rw [df h42]
    refine Gm 7 [([41, 40], .bool (decide (v35.Op = 4)))] J16r ?_
    refine Gi h (fun h67 h => ?_) fun h67 h => ?_
    ·
     rw [dt h67]
     refine Gn 6 [(47, .slice (Gp (some b18)) ((sl x6 0 (wr .i64 ((x6.length : Int) - 1))).length) cx6), (48, (pt b40 5))] J16q ?_
     refine Xb 3 48 49 3 ⟨b40, 5, none⟩ (.i v35.X) (p5.c 0 5) ?_
     have f69 : Els (kInt .i64) S3 w5 ([.i v35.X] : List Value) [v35.X] := by exact (Els.cons (K := (kInt .i64)) (vs := [.i v35.X]) (x := v35.X) rfl Els.nil)
     refine Om (.buildSlice 263 1 #[(0, 49)]) 50 263 (fun b => .slice (Gp (some b)) 1 1) 257 ([.i v35.X] : List Value) (1 * (kInt .i64).size) p5 Xa fun b68 w10 z10 p10 => ?_
     refine Gl h fun v74 e75 h => ?_
     refine Gg h fun g76 h => ?_
     refine On (K := (kInt .i64)) 263 47 50 51 263 257 5 (.i 0) 8 ((sl x6 0 (wr .i64 ((x6.length : Int) - 1))).length) cx6 1 (sl x6 0 (wr .i64 ((x6.length : Int) - 1))) [v35.X] v74 (Gp (some b68)) 1 rfl rfl e75 p10 rfl (f24.ext (((z3.t z4).t z5).t z10)) Xa (f69.ext z10) (src_own p10 (q := 0) rfl) g76 fun w11 G77 c78 ulk z11 p11 f80 => ?_
     refine Gn 5 [(6, .slice (Gp G77) v74.length c78)] J160 ?_
     have p11 := (p11.dp 0).dp 0
     have p11 := ((((((((p11.fr 8).fr 8).fr 8).fr 5).fr 5).fr 5).fr 8).fr 8).fr 8
     exact Gj 52 [(0, (pt gx0 0)), (1, (pt upg 0)), (6, .slice (Gp G77) v74.length c78)] (uqm _ _ h _ _ (((((hx.t z3).t z4).t z5).t z10).t z11) _ _ _ _ _ _ _ _ _ _ _ _ p11 f80 rfl (fs2.ext ((((z3.t z4).t z5).t z10).t z11)) rfl (umj.ext (((z4.t z5).t z10).t z11)) rfl (uqw.ext (((z4.t z5).t z10).t z11)) rfl (fs8.ext ((((z3.t z4).t z5).t z10).t z11)) rfl (uqp.ext ((((z3.t z4).t z5).t z10).t z11)) rfl)
    ·
     rw [df h67]
     refine Gn 5 [] J160 ?_
     have p5 := p5.dp 0
     have p5 := ((((((((p5.fr 8).fr 8).fr 8).fr 5).fr 5).fr 5).fr 8).fr 8).fr 8
     exact Gj 52 [(0, (pt gx0 0)), (1, (pt upg 0)), (6, .slice (Gp (some b18)) ((sl x6 0 (wr .i64 ((x6.length : Int) - 1))).length) cx6)] (uqm _ _ h _ _ (((hx.t z3).t z4).t z5) (some b18) _ _ _ _ _ _ _ _ _ _ _ p5 (f24.ext ((z3.t z4).t z5)) rfl (fs2.ext ((z3.t z4).t z5)) rfl (umj.ext (z4.t z5)) rfl (uqw.ext (z4.t z5)) rfl (fs8.ext ((z3.t z4).t z5)) rfl (uqp.ext ((z3.t z4).t z5)) rfl)
  ·
   rw [bf h29]
   refine Gn 3 [] J160 ?_
   have p3 := ((((((((p3.fr 8).fr 8).fr 8).fr 5).fr 5).fr 5).fr 8).fr 8).fr 8
   exact Gj 52 [(0, (pt gx0 0)), (1, (pt upg 0)), (6, .slice (Gp (some b18)) ((sl x6 0 (wr .i64 ((x6.length : Int) - 1))).length) cx6)] (uqm _ _ h _ _ (hx.t z3) (some b18) _ _ _ _ _ _ _ _ _ _ _ p3 (f24.ext z3) rfl (fs2.ext z3) rfl umj rfl uqw rfl (fs8.ext z3) rfl (uqp.ext z3) rfl)
 ·
  rw [df h15]
  refine Gn 2 [] [] ?_
  obtain rfl := sj h
  have p1 := p1.dp 0
  exact Xr (fn := Tryz.f155) (by kernel_rfl) (v := .tuple #[]) (by kernel_rfl) ⟨S1, ue6, e1v.place.length, ue8, ue9, uqh, e1v.list.length, uqj, uqk, rfl, hx, p1, uen, rfl, uqn, rfl⟩
def J16t := Yt 10 B155 [1, 2] (Ys 11 B155 [])
theorem W.z5x (x0v : T255) (x2 : Int) (r : T265) (h : M.a56 x0v x2 = some r) {nz wz S0 w0 Lr} (gx0 ukk ukl ukm ukn upg uph upi upj upk upl upm upn upo upp upq upr ups upt upu upv upw upx) (p0 : Hp nz wz S0 w0 ((some gx0, .row 256 [.slice (Gp ukk) ukl ukm, (pt upg 0), (pt upp 0)] 3 0) :: (ukk, .row 175 ukn (ukm * kT174.size) 0) :: (some upg, .row 266 [.slice (Gp uph) upi upj, .slice (Gp upl) upm upn] 2 0) :: (uph, .row 3 upk (upj * (kInt .i64).size) 0) :: (upl, .row 257 upo (upn * (kInt .i64).size) 0) :: (some upp, .row 266 [.slice (Gp upq) upr ups, .slice (Gp upu) upv upw] 2 0) :: (upq, .row 3 upt (ups * (kInt .i64).size) 0) :: (upu, .row 257 upx (upw * (kInt .i64).size) 0) :: Lr)) (uko : Els kT174 S0 w0 ukn x0v.l) (ukp : x0v.l.length = ukl) (upy : Els (kInt .i64) S0 w0 upk x0v.now.place) (upz : x0v.now.place.length = upi) (uq0 : Els (kInt .i64) S0 w0 upo x0v.now.list) (uq1 : x0v.now.list.length = upm) (uq2 : Els (kInt .i64) S0 w0 upt x0v.next.place) (uq3 : x0v.next.place.length = upr) (uq4 : Els (kInt .i64) S0 w0 upx x0v.next.list) (uq5 : x0v.next.list.length = upv) :
  Calls Tg 155 #[(pt gx0 0), (pt upg 0), .i x2] w0 (Rets (Post.z5x nz wz S0 w0 Lr gx0 ukk ukl ukm ukn upg upp upq upr ups upt upu upv upw upx x0v r)) := by
 subst ukp
 subst upz
 subst uq1
 subst uq3
 subst uq5
 refine Zf Tryz.f155 B155 49 ?_
 refine Gj 52 [(0, (pt gx0 0)), (1, (pt upg 0)), (2, .i x2)] fun junk => ?_
 delta M.a56 at h
 refine Gn 3 [(9, .i x2)] J16t ?_
 have f10 : Els (kInt .i64) S0 w0 ([.i x2] : List Value) [x2] := by exact (Els.cons (K := (kInt .i64)) (vs := [.i x2]) (x := x2) rfl Els.nil)
 refine Om (.buildSlice 263 1 #[(0, 9)]) 10 263 (fun b => .slice (Gp (some b)) 1 1) 257 ([.i x2] : List Value) (1 * (kInt .i64).size) p0 Xa fun b9 w2 z2 p2 => ?_
 refine Gn 4 [(6, .slice (Gp (some b9)) 1 1)] J160 ?_
 exact Gj 52 [(0, (pt gx0 0)), (1, (pt upg 0)), (6, .slice (Gp (some b9)) 1 1)] (W.z5y gx0 ukk x0v.l.length ukm ukn upg upp upq x0v.next.place.length ups upt upu x0v.next.list.length upw upx _ _ h _ _ z2 (some b9) _ _ _ _ _ _ _ _ _ _ _ p2 (f10.ext z2) rfl (uko.ext z2) rfl (upy.ext z2) rfl (uq0.ext z2) rfl (uq2.ext z2) rfl (uq4.ext z2) rfl)
def Qye := Yq 111 B212
def Post.z5z (gx0 : Nat) (ukk : Option Nat) (ukl : Nat) (ukm : Nat) (ukn : List Value) (upg : Nat) (upp : Nat) (upq : Option Nat) (upr : Nat) (ups : Nat) (upt : List Value) (upu : Option Nat) (upv : Nat) (upw : Nat) (upx : List Value) (x0v : T255) (r : T265) (v : Value) (w' : World) : Prop :=
 ∃ S' ue6 ue7 ue8 ue9 uqh uqi uqj uqk, v = .tuple #[] ∧ Ext S0 w0 S' w' ∧ Hp nz wz S' w' ((some gx0, .row 256 [.slice (Gp ukk) ukl ukm, (pt upg 0), (pt upp 0)] 3 0) :: (ukk, .row 175 ukn (ukm * kT174.size) 0) :: (some upg, .row 266 [.slice (Gp ue6) ue7 ue8, .slice (Gp uqh) uqi uqj] 2 0) :: (ue6, .row 3 ue9 (ue8 * (kInt .i64).size) 0) :: (uqh, .row 257 uqk (uqj * (kInt .i64).size) 0) :: (some upp, .row 266 [.slice (Gp upq) upr ups, .slice (Gp upu) upv upw] 2 0) :: (upq, .row 3 upt (ups * (kInt .i64).size) 0) :: (upu, .row 257 upx (upw * (kInt .i64).size) 0) :: Lr) ∧ Els (kInt .i64) S' w' ue9 r.place ∧ r.place.length = ue7 ∧ Els (kInt .i64) S' w' uqk r.list ∧ r.list.length = uqi
theorem W.z5z (x0v : T255) (r : T265) (h : M.a57 x0v = some r) {nz wz S0 w0 Lr} (gx0 ukk ukl ukm ukn upg uph upi upj upk upl upm upn upo upp upq upr ups upt upu upv upw upx) (p0 : Hp nz wz S0 w0 ((some gx0, .row 256 [.slice (Gp ukk) ukl ukm, (pt upg 0), (pt upp 0)] 3 0) :: (ukk, .row 175 ukn (ukm * kT174.size) 0) :: (some upg, .row 266 [.slice (Gp uph) upi upj, .slice (Gp upl) upm upn] 2 0) :: (uph, .row 3 upk (upj * (kInt .i64).size) 0) :: (upl, .row 257 upo (upn * (kInt .i64).size) 0) :: (some upp, .row 266 [.slice (Gp upq) upr ups, .slice (Gp upu) upv upw] 2 0) :: (upq, .row 3 upt (ups * (kInt .i64).size) 0) :: (upu, .row 257 upx (upw * (kInt .i64).size) 0) :: Lr)) (uko : Els kT174 S0 w0 ukn x0v.l) (ukp : x0v.l.length = ukl) (upy : Els (kInt .i64) S0 w0 upk x0v.now.place) (upz : x0v.now.place.length = upi) (uq0 : Els (kInt .i64) S0 w0 upo x0v.now.list) (uq1 : x0v.now.list.length = upm) (uq2 : Els (kInt .i64) S0 w0 upt x0v.next.place) (uq3 : x0v.next.place.length = upr) (uq4 : Els (kInt .i64) S0 w0 upx x0v.next.list) (uq5 : x0v.next.list.length = upv) :
  Calls Tg 212 #[(pt gx0 0)] w0 (Rets (Post.z5z nz wz S0 w0 Lr gx0 ukk ukl ukm ukn upg upp upq upr ups upt upu upv upw upx x0v r)) := by
 subst ukp
 subst upz
 subst uq1
 subst uq3
 subst uq5
 refine Zf Tryz.f212 B212 15 ?_
 refine Gj 16 [(0, (pt gx0 0))] fun junk => ?_
 delta M.a57 at h
 refine Gn 4 [(2, (pt gx0 0))] (Yt 100 B212 [1, 2] (Ys 101 B212 (Ys 11 B212 []))) ?_
 refine Gb h fun y9 e10 h => ?_
 refine Gc (kc 152 [2] #[176]) 3 4 152 _ (W.z5t x0v y9 e10 _ _ _ _ _ _ _ _ _ _ _ _ _ _ _ _ _ _ _ _ _ _ _ p0 uko rfl upy rfl uq0 rfl uq2 rfl uq4 rfl) ?_
 rintro _ w2 ⟨S2, rfl, z2, p2⟩
 refine Gm 9 [([4], .bool (!true)), ([5, 6], (pt gx0 0)), ([7], (pt gx0 1))] (Yt 110 B212 [3, 4] (Zc Qye [])) ?_
 refine Xb 254 7 8 254 ⟨gx0, 1, none⟩ ((pt upg 0)) (p2.c 0 1) ?_
 have p2 := ((p2.fr 4).fr 4).fr 4
 refine Gb h fun y11 e12 h => ?_
 refine Gc (kc 153 [8] #[254]) 9 0 153 _ (W.z5u x0v.now y11 e12 _ _ _ _ _ _ _ _ _ p2 (upy.ext z2) rfl (uq0.ext z2) rfl) ?_
 rintro _ w3 ⟨S3, umf, umg, umh, umi, uqs, uqt, uqu, uqv, rfl, z3, p3, umj, rfl, uqw, rfl⟩
 refine Gm 6 [([10, 11, 12], (pt gx0 0)), ([13], (pt gx0 1))] (Zr Qye [4, 5] []) ?_
 refine Xb 254 13 14 254 ⟨gx0, 1, none⟩ ((pt upg 0)) (p3.c 3 1) ?_
 have p3 := (((((((p3.fr 7).fr 7).fr 7).fr 5).fr 5).fr 5).fr 7).fr 7
 refine Gb h fun y15 e16 h => ?_
 refine Gc (.call { callee := .value (.func 155), args := #[10, 14, (.const (.int .i64 0))], argTypes := #[176, 254, 257] }) 15 0 155 _ (W.z5x (⟨x0v.l, y11, x0v.next⟩ : T255) 0 y15 e16 _ _ _ _ _ _ _ _ _ _ _ _ _ _ _ _ _ _ _ _ _ _ _ p3 (uko.ext (z2.t z3)) rfl umj rfl uqw rfl (uq2.ext (z2.t z3)) rfl (uq4.ext (z2.t z3)) rfl) ?_
 rintro _ w4 ⟨S4, uf4, uf5, uf6, uf7, uqy, uqz, ur0, ur1, rfl, z4, p4, uf8, rfl, ur2, rfl⟩
 refine Gn 1 [] [] ?_
 obtain rfl := sj h
 exact Xr (fn := Tryz.f212) (by kernel_rfl) (v := .tuple #[]) (by kernel_rfl) ⟨S4, uf4, y15.place.length, uf6, uf7, uqy, y15.list.length, ur0, ur1, rfl, ((z2.t z3).t z4), p4, uf8, rfl, ur2, rfl⟩
def J170 := Ys 111 B151 []
def J174 := Ys 1111 B151 []
def Qyl := Yq 1110 B151
def Post.z60 (r : (T255 × Int) ⊕ Int) (v : Value) (w' : World) : Prop :=
 match r with
 | .inl r => ∃ S' ur3 ur4 ur5 ur6 ur7 ur8 ur9 ura urb urc urd ure urf urg urh uri urj urk url urm urn uro urp, v = .tuple #[(pt ur3 0), .i r.2] ∧ Ext S0 w0 S' w' ∧ Hp nz wz S' w' ((some ur3, .row 256 [.slice (Gp ur4) ur5 ur6, (pt ur8 0), (pt urh 0)] 3 0) :: (ur4, .row 175 ur7 (ur6 * kT174.size) 0) :: (some ur8, .row 266 [.slice (Gp ur9) ura urb, .slice (Gp urd) ure urf] 2 0) :: (ur9, .row 3 urc (urb * (kInt .i64).size) 0) :: (urd, .row 257 urg (urf * (kInt .i64).size) 0) :: (some urh, .row 266 [.slice (Gp uri) urj urk, .slice (Gp urm) urn uro] 2 0) :: (uri, .row 3 url (urk * (kInt .i64).size) 0) :: (urm, .row 257 urp (uro * (kInt .i64).size) 0) :: Lr) ∧ Els kT174 S' w' ur7 r.1.l ∧ r.1.l.length = ur5 ∧ Els (kInt .i64) S' w' urc r.1.now.place ∧ r.1.now.place.length = ura ∧ Els (kInt .i64) S' w' urg r.1.now.list ∧ r.1.now.list.length = ure ∧ Els (kInt .i64) S' w' url r.1.next.place ∧ r.1.next.place.length = urj ∧ Els (kInt .i64) S' w' urp r.1.next.list ∧ r.1.next.list.length = urn
 | .inr (r) => ∃ S', v = .tuple #[.pointer none, .i r] ∧ Ext S0 w0 S' w' ∧ Hp nz wz S' w' (Lr)
theorem W.z60 (x0 : List T174) (r : (T255 × Int) ⊕ Int) (h : M.a4f x0 = some r) {nz wz S0 w0 Lr} (Ax0 nx0 cx0) (p0 : Hp nz wz S0 w0 (Lr)) (fx0 : Rd kT174 S0 w0 Ax0 cx0 x0) (lx0 : x0.length = nx0) :
  Calls Tg 151 #[.slice Ax0 nx0 cx0] w0 (Rets (Post.z60 nz wz S0 w0 Lr r)) := by
 subst lx0
 refine Zf Tryz.f151 B151 23 ?_
 refine Gj 24 [(0, .slice Ax0 x0.length cx0)] fun junk => ?_
 delta M.a4f at h
 refine Gn 9 [(2, .pointer none), (3, .i 0), (6, .slice Ax0 x0.length cx0)] (Yt 1100 B151 [1, 2] (Ys 1101 B151 J170)) ?_
 refine Gb h fun y1 e2 h => ?_
 refine Gc (kc 209 [6] #[77]) 7 34 209 _ (W.z5o x0 y1 e2 _ _ _ p0 fx0 rfl) ?_
 rintro _ w2 ⟨S2, rfl, z2, p2⟩
 refine Gm 7 [([4, 8], .i y1), ([9], .bool (!(decide (y1 = 0))))] (Ys 11011 B151 J170) ?_
 refine Gi h (fun h3 h => ?_) fun h3 h => ?_
 ·
  rw [dt h3]
  refine Gn 5 [(11, .slice Ax0 x0.length cx0)] (Zr Qyl [1, 2, 3, 4, 5, 6, 7, 8, 9, 10] J174) ?_
  refine Gb h fun y4 e5 h => ?_
  refine Gc (kc 210 [11] #[77]) 12 77 210 _ (W.z5r x0 y4 e5 _ _ _ p2 (fx0.ext z2) rfl) ?_
  rintro _ w3 ⟨S3, ufc, ufd, ufe, uff, rfl, z3, p3, u2d, rfl⟩
  refine Gn 2 [(13, .slice Ax0 x0.length cx0), (14, .i (x0.length : Int))] (Zr Qyl [4, 5, 6, 7, 8, 9, 10] J174) ?_
  refine Gb h fun y7 e8 h => ?_
  refine Gc (kc 211 [14] #[3]) 15 254 211 _ (W.z5s (x0.length : Int) y7 e8  p3 ) ?_
  rintro _ w4 ⟨S4, urq, urr, urs, urt, uru, rfl, z4, p4, urv, rfl⟩
  refine Gn 2 [(16, .slice Ax0 x0.length cx0), (17, .i (x0.length : Int))] (Zr Qyl [7, 8, 9, 10] J174) ?_
  refine Gb h fun y11 e12 h => ?_
  refine Gc (kc 211 [17] #[3]) 18 254 211 _ (W.z5s (x0.length : Int) y11 e12  p4 ) ?_
  rintro _ w5 ⟨S5, urw, urx, ury, urz, us0, rfl, z5, p5, us1, rfl⟩
  refine Gn 1 [(19, .agg #[.slice (Gp ufc) y4.length ufe, (pt urq 0), (pt urw 0)])] (Zr Qyl [9, 10] J174) ?_
  refine Ob 256 19 20 176 (.agg #[.slice (Gp ufc) y4.length ufe, (pt urq 0), (pt urw 0)]) [.slice (Gp ufc) y4.length ufe, (pt urq 0), (pt urw 0)] p5 Xa fun b15 w6 z6 p6 => ?_
  refine Gm 5 [([5, 21], (pt b15 0))] (Yt 11110 B151 [1] (Ys 11111 B151 [])) ?_
  have p6 : Hp nz wz S5 w6 ((none, .row 257 [] (0 * (kInt .i64).size) 0) :: (some b15, .row 256 [.slice (Gp ufc) y4.length ufe, (pt urq 0), (pt urw 0)] 3 0) :: (some urw, .row 266 [.slice (Gp urx) y11.length urz, .slice none 0 0] 2 0) :: (urx, .row 3 us0 (urz * (kInt .i64).size) 0) :: (some urq, .row 266 [.slice (Gp urr) y7.length urt, .slice none 0 0] 2 0) :: (urr, .row 3 uru (urt * (kInt .i64).size) 0) :: (ufc, .row 175 uff (ufe * kT174.size) 0) :: Lr) := p6.nilRow' 257
  have p6 : Hp nz wz S5 w6 ((none, .row 257 [] (0 * (kInt .i64).size) 0) :: (none, .row 257 [] (0 * (kInt .i64).size) 0) :: (some b15, .row 256 [.slice (Gp ufc) y4.length ufe, (pt urq 0), (pt urw 0)] 3 0) :: (some urw, .row 266 [.slice (Gp urx) y11.length urz, .slice none 0 0] 2 0) :: (urx, .row 3 us0 (urz * (kInt .i64).size) 0) :: (some urq, .row 266 [.slice (Gp urr) y7.length urt, .slice (Gp none) 0 0] 2 0) :: (urr, .row 3 uru (urt * (kInt .i64).size) 0) :: (ufc, .row 175 uff (ufe * kT174.size) 0) :: Lr) := p6.nilRow' 257
  have p6 := (((((((p6.fr 0).fr 4).fr 4).fr 3).fr 6).fr 6).fr 7).fr 7
  refine Gb h fun y19 e20 h => ?_
  refine Gc (kc 212 [21] #[176]) 22 0 212 _ (W.z5z (⟨y4, (⟨y7, ([] : List Int)⟩ : T265), (⟨y11, ([] : List Int)⟩ : T265)⟩ : T255) y19 e20 _ _ _ _ _ _ _ _ _ _ none 0 0 [] _ _ _ _ _ none 0 0 [] p6 (u2d.ext ((z4.t z5).t z6)) rfl (urv.ext (z5.t z6)) rfl (Els.nil (K := (kInt .i64))) rfl (us1.ext z6) rfl (Els.nil (K := (kInt .i64))) rfl) ?_
  rintro _ w7 ⟨S7, us2, us3, us4, us5, us6, us7, us8, us9, rfl, z7, p7, usa, rfl, usb, rfl⟩
  refine Gm 7 [([23, 2], (pt b15 0)), ([3], .i 0)] (Ys 111111 B151 []) ?_
  obtain rfl := sj h
  exact Xc Tryz.f151 (.tuple #[(pt b15 0), .i 0]) ⟨_, _, _, _, _, _, _, _, _, _, _, _, _, _, _, _, _, _, _, _, _, _, _, _, rfl, (((((z2.t z3).t z4).t z5).t z6).t z7), p7, (u2d.ext (((z4.t z5).t z6).t z7)), rfl, usa, rfl, usb, rfl, (us1.ext (z6.t z7)), rfl, (Els.nil (K := (kInt .i64))), rfl⟩
 ·
  rw [df h3]
  refine Gm 7 [([10, 3], .i y1), ([2], .pointer none)] (Ys 1101101 B151 J170) ?_
  obtain rfl := sj h
  exact Xc Tryz.f151 (.tuple #[.pointer none, .i y1]) ⟨_, rfl, z2, p2⟩
def J17g := Ys 11101 B90 (Ys 1111 B90 [])
def J17h := Yt 11100 B90 [3, 4, 5, 6] J17g
def J17i := Ys 11111 B90 []
def Post.z61 (r : (T255 × Int) ⊕ Int) (v : Value) (w' : World) : Prop :=
 match r with
 | .inl r => ∃ S' ur3 ur4 ur5 ur6 ur7 ur8 ur9 ura urb urc urd ure urf urg urh uri urj urk url urm urn uro urp, v = .tuple #[(pt ur3 0), .i r.2] ∧ Ext S0 w0 S' w' ∧ Hp nz wz S' w' ((some ur3, .row 256 [.slice (Gp ur4) ur5 ur6, (pt ur8 0), (pt urh 0)] 3 0) :: (ur4, .row 175 ur7 (ur6 * kT174.size) 0) :: (some ur8, .row 266 [.slice (Gp ur9) ura urb, .slice (Gp urd) ure urf] 2 0) :: (ur9, .row 3 urc (urb * (kInt .i64).size) 0) :: (urd, .row 257 urg (urf * (kInt .i64).size) 0) :: (some urh, .row 266 [.slice (Gp uri) urj urk, .slice (Gp urm) urn uro] 2 0) :: (uri, .row 3 url (urk * (kInt .i64).size) 0) :: (urm, .row 257 urp (uro * (kInt .i64).size) 0) :: Lr) ∧ Els kT174 S' w' ur7 r.1.l ∧ r.1.l.length = ur5 ∧ Els (kInt .i64) S' w' urc r.1.now.place ∧ r.1.now.place.length = ura ∧ Els (kInt .i64) S' w' urg r.1.now.list ∧ r.1.now.list.length = ure ∧ Els (kInt .i64) S' w' url r.1.next.place ∧ r.1.next.place.length = urj ∧ Els (kInt .i64) S' w' urp r.1.next.list ∧ r.1.next.list.length = urn
 | .inr (r) => ∃ S', v = .tuple #[.pointer none, .i r] ∧ Ext S0 w0 S' w' ∧ Hp nz wz S' w' (Lr)
theorem W.z61 (x0 : List T174) (x1 : ByteArray) (r : (T255 × Int) ⊕ Int) (h : M.a58 x0 x1 = some r) {nz wz S0 w0 Lr} (Ax0 nx0 cx0) (p0 : Hp nz wz S0 w0 (Lr)) (fx0 : Rd kT174 S0 w0 Ax0 cx0 x0) (lx0 : x0.length = nx0) :
  Calls Tg 90 #[.slice Ax0 nx0 cx0, .string x1] w0 (Rets (Post.z61 nz wz S0 w0 Lr r)) := by
 subst lx0
 refine Zf Tryz.f90 B90 20 ?_
 refine Gj 22 [(0, .slice Ax0 x0.length cx0), (1, .string x1)] fun junk => ?_
 delta M.a58 at h
 refine Gn 8 [(4, .pointer none), (5, .i 0), (9, .slice Ax0 x0.length cx0)] (Yt 110 B90 [1, 2, 3, 4, 5, 6] (Ys 111 B90 [])) ?_
 refine Gb h fun y1 e2 h => ?_
 rcases y1 with usc | usd
 ·
  try dsimp only at h
  refine Gc (kc 151 [9] #[77]) 10 177 151 _ (W.z60 x0 (Sum.inl usc) e2 _ _ _ p0 fx0 rfl) ?_
  rintro _ w2 ⟨S2, use, usf, usg, ush, usi, usj, usk, usl, usm, usn, uso, usp, usq, usr, uss, ust, usu, usv, usw, usx, usy, usz, ut0, rfl, z2, p2, ut1, rfl, ut2, rfl, ut3, rfl, ut4, rfl, ut5, rfl⟩
  refine Gm 12 [([8], .tuple #[(pt use 0), .i usc.2]), ([11, 6], (pt use 0)), ([12, 7, 13], .i usc.2), ([14, 15], .bool (decide (usc.2 = 0)))] J17h ?_
  refine Gi h (fun h11 h => ?_) fun h11 h => ?_
  ·
   rw [dt h11]
   refine Gm 5 [([16], .string x1), ([17], .i (x1.size : Int)), ([18, 19], .bool (decide ((x1.size : Int) > 65536)))] J17g ?_
   refine Gi h (fun h12 h => ?_) fun h12 h => ?_
   ·
    rw [dt h12]
    refine Gm 11 [([7, 21, 5], .i 3), ([20, 4], (pt use 0))] J17i ?_
    obtain rfl := sj h
    exact Xc Tryz.f90 (.tuple #[(pt use 0), .i 3]) ⟨_, _, _, _, _, _, _, _, _, _, _, _, _, _, _, _, _, _, _, _, _, _, _, _, rfl, z2, p2, ut1, rfl, ut2, rfl, ut3, rfl, ut4, rfl, ut5, rfl⟩
   ·
    rw [df h12]
    refine Gm 9 [([20, 4], (pt use 0)), ([21, 5], .i usc.2)] J17i ?_
    obtain rfl := sj h
    exact Xc Tryz.f90 (.tuple #[(pt use 0), .i usc.2]) ⟨_, _, _, _, _, _, _, _, _, _, _, _, _, _, _, _, _, _, _, _, _, _, _, _, rfl, z2, p2, ut1, rfl, ut2, rfl, ut3, rfl, ut4, rfl, ut5, rfl⟩
  ·
   rw [df h11]
   refine Gm 14 [([16, 17, 18], undef), ([19], .bool false), ([20, 4], (pt use 0)), ([21, 5], .i usc.2)] J17i ?_
   obtain rfl := sj h
   exact Xc Tryz.f90 (.tuple #[(pt use 0), .i usc.2]) ⟨_, _, _, _, _, _, _, _, _, _, _, _, _, _, _, _, _, _, _, _, _, _, _, _, rfl, z2, p2, ut1, rfl, ut2, rfl, ut3, rfl, ut4, rfl, ut5, rfl⟩
 ·
  try dsimp only at h
  refine Gc (kc 151 [9] #[77]) 10 177 151 _ (W.z60 x0 (Sum.inr usd) e2 _ _ _ p0 fx0 rfl) ?_
  rintro _ w3 ⟨S3, rfl, z3, p3⟩
  refine Gm 12 [([8], .tuple #[.pointer none, .i usd]), ([11, 6], .pointer none), ([12, 7, 13], .i usd), ([14, 15], .bool (decide (usd = 0)))] J17h ?_
  refine Gi h (fun h13 h => ?_) fun h13 h => ?_
  ·
   rw [dt h13]
   refine Gm 5 [([16], .string x1), ([17], .i (x1.size : Int)), ([18, 19], .bool (decide ((x1.size : Int) > 65536)))] J17g ?_
   refine Gi h (fun h14 h => ?_) fun h14 h => ?_
   ·
    rw [dt h14]
    refine Gm 11 [([7, 21, 5], .i 3), ([20, 4], .pointer none)] J17i ?_
    obtain rfl := sj h
    exact Xc Tryz.f90 (.tuple #[.pointer none, .i 3]) ⟨_, rfl, z3, p3⟩
   ·
    rw [df h14]
    refine Gm 9 [([20, 4], .pointer none), ([21, 5], .i usd)] J17i ?_
    obtain rfl := sj h
    exact Xc Tryz.f90 (.tuple #[.pointer none, .i usd]) ⟨_, rfl, z3, p3⟩
  ·
   rw [df h13]
   refine Gm 14 [([16, 17, 18], undef), ([19], .bool false), ([20, 4], .pointer none), ([21, 5], .i usd)] J17i ?_
   obtain rfl := sj h
   exact Xc Tryz.f90 (.tuple #[.pointer none, .i usd]) ⟨_, rfl, z3, p3⟩
def Post.z62 (gx0 : Nat) (ukk : Option Nat) (ukl : Nat) (ukm : Nat) (ukn : List Value) (upg : Nat) (uph : Option Nat) (upi : Nat) (upj : Nat) (upk : List Value) (upl : Option Nat) (upm : Nat) (upn : Nat) (upo : List Value) (upp : Nat) (upq : Option Nat) (upr : Nat) (ups : Nat) (upt : List Value) (upu : Option Nat) (upv : Nat) (upw : Nat) (upx : List Value) (x0v : T255) (r : Int) (v : Value) (w' : World) : Prop :=
 ∃ S' uh ut6, v = .func (.func 213) #[] #[(pt uh 0), (pt ut6 0)] ∧ Ext S0 w0 S' w' ∧ Hp nz wz S' w' ((some uh, .row 176 [(pt gx0 0)] 1 0) :: (some ut6, .row 5 [.int .u8 r] 1 0) :: (some gx0, .row 256 [.slice (Gp ukk) ukl ukm, (pt upg 0), (pt upp 0)] 3 0) :: (ukk, .row 175 ukn (ukm * kT174.size) 0) :: (some upg, .row 266 [.slice (Gp uph) upi upj, .slice (Gp upl) upm upn] 2 0) :: (uph, .row 3 upk (upj * (kInt .i64).size) 0) :: (upl, .row 257 upo (upn * (kInt .i64).size) 0) :: (some upp, .row 266 [.slice (Gp upq) upr ups, .slice (Gp upu) upv upw] 2 0) :: (upq, .row 3 upt (ups * (kInt .i64).size) 0) :: (upu, .row 257 upx (upw * (kInt .i64).size) 0) :: Lr)
theorem W.z62 (x0v : T255) (x1 : Int) (r : Int) (h : M.a6d x0v x1 = some r) {nz wz S0 w0 Lr} (gx0 ukk ukl ukm ukn upg uph upi upj upk upl upm upn upo upp upq upr ups upt upu upv upw upx) (p0 : Hp nz wz S0 w0 ((some gx0, .row 256 [.slice (Gp ukk) ukl ukm, (pt upg 0), (pt upp 0)] 3 0) :: (ukk, .row 175 ukn (ukm * kT174.size) 0) :: (some upg, .row 266 [.slice (Gp uph) upi upj, .slice (Gp upl) upm upn] 2 0) :: (uph, .row 3 upk (upj * (kInt .i64).size) 0) :: (upl, .row 257 upo (upn * (kInt .i64).size) 0) :: (some upp, .row 266 [.slice (Gp upq) upr ups, .slice (Gp upu) upv upw] 2 0) :: (upq, .row 3 upt (ups * (kInt .i64).size) 0) :: (upu, .row 257 upx (upw * (kInt .i64).size) 0) :: Lr)) (uko : Els kT174 S0 w0 ukn x0v.l) (ukp : x0v.l.length = ukl) (upy : Els (kInt .i64) S0 w0 upk x0v.now.place) (upz : x0v.now.place.length = upi) (uq0 : Els (kInt .i64) S0 w0 upo x0v.now.list) (uq1 : x0v.now.list.length = upm) (uq2 : Els (kInt .i64) S0 w0 upt x0v.next.place) (uq3 : x0v.next.place.length = upr) (uq4 : Els (kInt .i64) S0 w0 upx x0v.next.list) (uq5 : x0v.next.list.length = upv) :
  Calls Tg 154 #[(pt gx0 0), .int .u8 x1] w0 (Rets (Post.z62 nz wz S0 w0 Lr gx0 ukk ukl ukm ukn upg uph upi upj upk upl upm upn upo upp upq upr ups upt upu upv upw upx x0v r)) := by
 subst ukp
 subst upz
 subst uq1
 subst uq3
 subst uq5
 refine Zf Tryz.f154 B154 4 ?_
 refine Gj 6 [(0, (pt gx0 0)), (1, .int .u8 x1)] fun junk => ?_
 delta M.a6d at h
 refine Gn 2 [] (Yt 10 B154 [0, 1, 2] (Ys 11 B154 [])) ?_
 refine Ob 176 0 2 0 ((pt gx0 0)) [(pt gx0 0)] p0 Xa fun b9 w2 z2 p2 => ?_
 refine Ob 5 1 3 0 (.int .u8 x1) [.int .u8 x1] p2 Xa fun b11 w3 z3 p3 => ?_
 refine Gm 7 [([4, 5], .func (.func 213) #[] #[(pt b9 0), (pt b11 0)])] (Ys 111 B154 []) ?_
 obtain rfl := sj h
 have p3 := (((((((((p3.fr 9).fr 9).fr 9).fr 9).fr 9).fr 9).fr 9).fr 9).fr 8).fr 9
 exact Xc Tryz.f154 (.func (.func 213) #[] #[(pt b9 0), (pt b11 0)]) ⟨_, _, _, rfl, (z2.t z3), p3⟩
def Post.z63 (gx0 : Nat) (ukk : Option Nat) (ukl : Nat) (ukm : Nat) (ukn : List Value) (upg : Nat) (uph : Option Nat) (upi : Nat) (upj : Nat) (upk : List Value) (upl : Option Nat) (upm : Nat) (upn : Nat) (upo : List Value) (upp : Nat) (x0v : T255) (r : T265) (v : Value) (w' : World) : Prop :=
 ∃ S' ut7 ut8 ut9 uta utb utc utd ute, v = .tuple #[] ∧ Ext S0 w0 S' w' ∧ Hp nz wz S' w' ((some gx0, .row 256 [.slice (Gp ukk) ukl ukm, (pt upg 0), (pt upp 0)] 3 0) :: (ukk, .row 175 ukn (ukm * kT174.size) 0) :: (some upg, .row 266 [.slice (Gp uph) upi upj, .slice (Gp upl) upm upn] 2 0) :: (uph, .row 3 upk (upj * (kInt .i64).size) 0) :: (upl, .row 257 upo (upn * (kInt .i64).size) 0) :: (some upp, .row 266 [.slice (Gp ut7) ut8 ut9, .slice (Gp utb) utc utd] 2 0) :: (ut7, .row 3 uta (ut9 * (kInt .i64).size) 0) :: (utb, .row 257 ute (utd * (kInt .i64).size) 0) :: Lr) ∧ Els (kInt .i64) S' w' uta r.place ∧ r.place.length = ut8 ∧ Els (kInt .i64) S' w' ute r.list ∧ r.list.length = utc
def L.z64 (gx0 : Nat) (ukk : Option Nat) (ukl : Nat) (ukm : Nat) (ukn : List Value) (upg : Nat) (uph : Option Nat) (upi : Nat) (upj : Nat) (upk : List Value) (upl : Option Nat) (upm : Nat) (upn : Nat) (upo : List Value) (upp : Nat) : (List Int) × T265 × T255 → T265 → Prop := fun ⟨x6, e2v, x0v⟩ r => ∀ S1 w1, Ext S0 w0 S1 w1 → ∀ Gx6 nx6 cx6 ubo ut7 ut8 ut9 uta utb utc utd ute (_ : Hp nz wz S1 w1 ((Gx6, .row 257 ubo (cx6 * (kInt .i64).size) 0) :: (some gx0, .row 256 [.slice (Gp ukk) ukl ukm, (pt upg 0), (pt upp 0)] 3 0) :: (ukk, .row 175 ukn (ukm * kT174.size) 0) :: (some upg, .row 266 [.slice (Gp uph) upi upj, .slice (Gp upl) upm upn] 2 0) :: (uph, .row 3 upk (upj * (kInt .i64).size) 0) :: (upl, .row 257 upo (upn * (kInt .i64).size) 0) :: (some upp, .row 266 [.slice (Gp ut7) ut8 ut9, .slice (Gp utb) utc utd] 2 0) :: (ut7, .row 3 uta (ut9 * (kInt .i64).size) 0) :: (utb, .row 257 ute (utd * (kInt .i64).size) 0) :: Lr)) (_ : Els (kInt .i64) S1 w1 ubo x6) (_ : x6.length = nx6) (_ : Els kT174 S1 w1 ukn x0v.l) (_ : x0v.l.length = ukl) (_ : Els (kInt .i64) S1 w1 upk x0v.now.place) (_ : x0v.now.place.length = upi) (_ : Els (kInt .i64) S1 w1 upo x0v.now.list) (_ : x0v.now.list.length = upm) (_ : Els (kInt .i64) S1 w1 uta e2v.place) (_ : e2v.place.length = ut8) (_ : Els (kInt .i64) S1 w1 ute e2v.list) (_ : e2v.list.length = utc) (junk : Nat → Value),
 Goes Tg (base 155) J160 ⟨lfr 52 [(0, (pt gx0 0)), (1, (pt upp 0)), (6, .slice (Gp Gx6) nx6 cx6)] junk, []⟩ w1 (Done Tg 155 (Rets (Post.z63 nz wz S0 w0 Lr gx0 ukk ukl ukm ukn upg uph upi upj upk upl upm upn upo upp x0v r)))
theorem W.z64 {nz wz S0 w0 Lr} (gx0 : Nat) (ukk : Option Nat) (ukl : Nat) (ukm : Nat) (ukn : List Value) (upg : Nat) (uph : Option Nat) (upi : Nat) (upj : Nat) (upk : List Value) (upl : Option Nat) (upm : Nat) (upn : Nat) (upo : List Value) (upp : Nat) : ∀ a r, M.a1z a = some r → (L.z64 nz wz S0 w0 Lr gx0 ukk ukl ukm ukn upg uph upi upj upk upl upm upn upo upp) a r := by
 refine M.a1z.partial_correctness (motive := (L.z64 nz wz S0 w0 Lr gx0 ukk ukl ukm ukn upg uph upi upj upk upl upm upn upo upp)) ?_
 intro utf utg ⟨x6, e2v, x0v⟩ r h S1 w1 hx Gx6 nx6 cx6 ubo ut7 ut8 ut9 uta utb utc utd ute p1 fx6 lx6 fs2 ls2 fs4 ls4 fs6 ls6 uth uti utj utk junk
 try dsimp only at h
 subst lx6
 subst ls2
 subst ls4
 subst ls6
 subst uti
 subst utk
 refine Gn 7 [(11, .slice (Gp Gx6) x6.length cx6), (12, .i (x6.length : Int)), (13, .bool (decide ((x6.length : Int) > 0)))] J162 ?_
 refine Gi h (fun h15 h => ?_) fun h15 h => ?_
 ·
  rw [dt h15]
  refine Gm 9 [([14, 15], .slice (Gp Gx6) x6.length cx6), ([16], .i (x6.length : Int)), ([17], .i (wr .i64 ((x6.length : Int) - 1)))] J165 ?_
  refine Gg h fun g16 h => ?_
  refine Gg h fun g17 h => ?_
  refine Xt 263 14 17 18 0 257 .i64 (wr .i64 ((x6.length : Int) - 1)) 0 x6.length cx6 (gi x6 (wr .i64 ((x6.length : Int) - 1))) rfl rfl p1 rfl fx6 Xa (by kernel_rfl) (by kernel_rfl) (by kernel_rfl) (by kernel_rfl) (by decide) g16 g17 ?_
  rintro b18 _ rfl q20 f19
  obtain rfl := q20
  refine Xb 257 18 19 257 ⟨b18, (wr .i64 ((x6.length : Int) - 1) : Int).toNat * (kInt .i64).size, none⟩ (.i (gi x6 (wr .i64 ((x6.length : Int) - 1)))) (f19 0 _ rfl) ?_
  refine Gm 8 [([7], .i (gi x6 (wr .i64 ((x6.length : Int) - 1)))), ([20, 21], .slice (Gp (some b18)) x6.length cx6), ([22], .i (x6.length : Int)), ([23], .i (wr .i64 ((x6.length : Int) - 1)))] J167 ?_
  refine Gg h fun g22 h => ?_
  refine Op_.slO (K := (kInt .i64)) 263 20 23 24 263 257 .i64 (wr .i64 ((x6.length : Int) - 1)) 0 (sl x6 0 (wr .i64 ((x6.length : Int) - 1))) rfl rfl p1 rfl rfl (by decide) fx6 Xa (by kernel_rfl) (by kernel_rfl) (by kernel_rfl) (by kernel_rfl) g16 g22 fun uqr p1 f24 => ?_
  refine Gn 7 [(6, .slice (Gp (some b18)) ((sl x6 0 (wr .i64 ((x6.length : Int) - 1))).length) cx6), (25, (pt upp 0)), (26, .i (gi x6 (wr .i64 ((x6.length : Int) - 1))))] J16a ?_
  have p1 := ((p1.fr 8).fr 8).fr 8
  refine Gb h fun y25 e26 h => ?_
  refine Gc (kc 215 [25, 26] #[254, 257]) 27 4 215 _ (W.z5w e2v (gi x6 (wr .i64 ((x6.length : Int) - 1))) y25 e26 _ _ _ _ _ _ _ _ _ p1 uth rfl utj rfl) ?_
  rintro _ w3 ⟨S3, umf, umg, umh, umi, uqs, uqt, uqu, uqv, rfl, z3, p3, umj, rfl, uqw, rfl⟩
  refine Gn 2 [(28, .bool (!y25.1))] J169 ?_
  refine Gi h (fun h29 h => ?_) fun h29 h => ?_
  ·
   rw [h29]
   refine Gm 7 [([29, 30, 31], (pt gx0 0))] J16c ?_
   refine Xb 77 31 32 77 ⟨gx0, 0, none⟩ (.slice (Gp ukk) x0v.l.length ukm) (p3.c 4 0) ?_
   refine Gn 1 [(33, .i (gi x6 (wr .i64 ((x6.length : Int) - 1))))] J16d ?_
   refine Gg h fun g30 h => ?_
   refine Gg h fun g31 h => ?_
   refine Gl h fun v35 e36 h => ?_
   refine Xt 77 32 33 34 0 175 .i64 (gi x6 (wr .i64 ((x6.length : Int) - 1))) 5 x0v.l.length ukm v35 rfl e36 p3 rfl (fs2.ext z3) Xa (by kernel_rfl) (by kernel_rfl) (by kernel_rfl) (by kernel_rfl) (by decide) g30 g31 ?_
   rintro b32 _ rfl q34 f33
   obtain ⟨_, _, rfl, rfl, ⟨_, _, rfl, ⟨l37, f38⟩, ⟨_, _, rfl, rfl, rfl⟩⟩⟩ := q34
   obtain rfl := els_lit4' f38 l37
   refine Xf 175 34 35 175 ⟨b32, (gi x6 (wr .i64 ((x6.length : Int) - 1)) : Int).toNat * kT174.size, none⟩ ([.i v35.Op] ++ ((U4 v35.Set []) ++ ([.i v35.X] ++ [.i v35.Y]))) f33 ?_
   refine Oa 175 8 0 (.agg #[.i 0, .u 0, .u 0, .u 0, .u 0, .i 0, .i 0]) [.i 0, .u 0, .u 0, .u 0, .u 0, .i 0, .i 0] p3 Xa fun b40 w4 z4 p4 => ?_
   refine So 175 8 35 0 0 b40 0 (ag (vT174 v35)) (vT174 v35) p4 rfl Xd fun w5 z5 p5 => ?_
   refine Gn 4 [(36, (pt b40 0))] J16f ?_
   refine Xb 3 36 37 3 ⟨b40, 0, none⟩ (.i v35.Op) (p5.c 0 0) ?_
   refine Gm 13 [([39, 38], .bool (decide (v35.Op = 2)))] J16n ?_
   refine Gi h (fun h42 h => ?_) fun h42 h => ?_
   ·
    rw [dt h42]
    refine Gn 5 [(42, .slice (Gp (some b18)) ((sl x6 0 (wr .i64 ((x6.length : Int) - 1))).length) cx6), (43, (pt b40 6))] J16o ?_
    refine Xb 3 43 44 3 ⟨b40, 6, none⟩ (.i v35.Y) (p5.c 0 6) ?_
    have f44 : Els (kInt .i64) S3 w5 ([.i v35.Y] : List Value) [v35.Y] := by exact (Els.cons (K := (kInt .i64)) (vs := [.i v35.Y]) (x := v35.Y) rfl Els.nil)
    refine Om (.buildSlice 263 1 #[(0, 44)]) 45 263 (fun b => .slice (Gp (some b)) 1 1) 257 ([.i v35.Y] : List Value) (1 * (kInt .i64).size) p5 Xa fun b43 w6 z6 p6 => ?_
    refine Gl h fun v49 e50 h => ?_
    refine Gg h fun g51 h => ?_
    refine On (K := (kInt .i64)) 263 42 45 46 263 257 5 (.i 0) 8 ((sl x6 0 (wr .i64 ((x6.length : Int) - 1))).length) cx6 1 (sl x6 0 (wr .i64 ((x6.length : Int) - 1))) [v35.Y] v49 (Gp (some b43)) 1 rfl rfl e50 p6 rfl (f24.ext (((z3.t z4).t z5).t z6)) Xa (f44.ext z6) (src_own p6 (q := 0) rfl) g51 fun w7 G52 c53 uqx z7 p7 f55 => ?_
    refine Gm 7 [([6, 47], .slice (Gp G52) v49.length c53), ([48], (pt b40 5))] J16q ?_
    refine Xb 3 48 49 3 ⟨b40, 5, none⟩ (.i v35.X) (p7.c 1 5) ?_
    have f57 : Els (kInt .i64) S3 w7 ([.i v35.X] : List Value) [v35.X] := by exact (Els.cons (K := (kInt .i64)) (vs := [.i v35.X]) (x := v35.X) rfl Els.nil)
    refine Om (.buildSlice 263 1 #[(0, 49)]) 50 263 (fun b => .slice (Gp (some b)) 1 1) 257 ([.i v35.X] : List Value) (1 * (kInt .i64).size) p7 Xa fun b56 w8 z8 p8 => ?_
    refine Gg h fun g62 h => ?_
    refine On (K := (kInt .i64)) 263 47 50 51 263 257 6 (.i 0) 8 v49.length c53 1 v49 [v35.X] (v49 ++ [v35.X]) (Gp (some b56)) 1 rfl rfl rfl p8 rfl (f55.ext z8) Xa (f57.ext z8) (src_own p8 (q := 0) rfl) g62 fun w9 G63 c64 ulh z9 p9 f66 => ?_
    refine Gn 5 [(6, .slice (Gp G63) ((v49 ++ [v35.X]).length) c64)] J160 ?_
    have p9 := ((p9.dp 0).dp 0).dp 0
    have p9 := ((((((((p9.fr 2).fr 2).fr 2).fr 8).fr 8).fr 8).fr 8).fr 8).fr 8
    exact Gj 52 [(0, (pt gx0 0)), (1, (pt upp 0)), (6, .slice (Gp G63) ((v49 ++ [v35.X]).length) c64)] (utg _ _ h _ _ (((((((hx.t z3).t z4).t z5).t z6).t z7).t z8).t z9) _ _ _ _ _ _ _ _ _ _ _ _ p9 f66 rfl (fs2.ext ((((((z3.t z4).t z5).t z6).t z7).t z8).t z9)) rfl (fs4.ext ((((((z3.t z4).t z5).t z6).t z7).t z8).t z9)) rfl (fs6.ext ((((((z3.t z4).t z5).t z6).t z7).t z8).t z9)) rfl (umj.ext (((((z4.t z5).t z6).t z7).t z8).t z9)) rfl (uqw.ext (((((z4.t z5).t z6).t z7).t z8).t z9)) rfl)
   ·
    rw [df h42]
    refine Gm 7 [([41, 40], .bool (decide (v35.Op = 4)))] J16r ?_
    refine Gi h (fun h67 h => ?_) fun h67 h => ?_
    ·
     rw [dt h67]
     refine Gn 6 [(47, .slice (Gp (some b18)) ((sl x6 0 (wr .i64 ((x6.length : Int) - 1))).length) cx6), (48, (pt b40 5))] J16q ?_
     refine Xb 3 48 49 3 ⟨b40, 5, none⟩ (.i v35.X) (p5.c 0 5) ?_
     have f69 : Els (kInt .i64) S3 w5 ([.i v35.X] : List Value) [v35.X] := by exact (Els.cons (K := (kInt .i64)) (vs := [.i v35.X]) (x := v35.X) rfl Els.nil)
     refine Om (.buildSlice 263 1 #[(0, 49)]) 50 263 (fun b => .slice (Gp (some b)) 1 1) 257 ([.i v35.X] : List Value) (1 * (kInt .i64).size) p5 Xa fun b68 w10 z10 p10 => ?_
     refine Gl h fun v74 e75 h => ?_
     refine Gg h fun g76 h => ?_
     refine On (K := (kInt .i64)) 263 47 50 51 263 257 5 (.i 0) 8 ((sl x6 0 (wr .i64 ((x6.length : Int) - 1))).length) cx6 1 (sl x6 0 (wr .i64 ((x6.length : Int) - 1))) [v35.X] v74 (Gp (some b68)) 1 rfl rfl e75 p10 rfl (f24.ext (((z3.t z4).t z5).t z10)) Xa (f69.ext z10) (src_own p10 (q := 0) rfl) g76 fun w11 G77 c78 ulk z11 p11 f80 => ?_
     refine Gn 5 [(6, .slice (Gp G77) v74.length c78)] J160 ?_
     have p11 := (p11.dp 0).dp 0
     have p11 := ((((((((p11.fr 2).fr 2).fr 2).fr 8).fr 8).fr 8).fr 8).fr 8).fr 8
     exact Gj 52 [(0, (pt gx0 0)), (1, (pt upp 0)), (6, .slice (Gp G77) v74.length c78)] (utg _ _ h _ _ (((((hx.t z3).t z4).t z5).t z10).t z11) _ _ _ _ _ _ _ _ _ _ _ _ p11 f80 rfl (fs2.ext ((((z3.t z4).t z5).t z10).t z11)) rfl (fs4.ext ((((z3.t z4).t z5).t z10).t z11)) rfl (fs6.ext ((((z3.t z4).t z5).t z10).t z11)) rfl (umj.ext (((z4.t z5).t z10).t z11)) rfl (uqw.ext (((z4.t z5).t z10).t z11)) rfl)
    ·
     rw [df h67]
     refine Gn 5 [] J160 ?_
     have p5 := p5.dp 0
     have p5 := ((((((((p5.fr 2).fr 2).fr 2).fr 8).fr 8).fr 8).fr 8).fr 8).fr 8
     exact Gj 52 [(0, (pt gx0 0)), (1, (pt upp 0)), (6, .slice (Gp (some b18)) ((sl x6 0 (wr .i64 ((x6.length : Int) - 1))).length) cx6)] (utg _ _ h _ _ (((hx.t z3).t z4).t z5) (some b18) _ _ _ _ _ _ _ _ _ _ _ p5 (f24.ext ((z3.t z4).t z5)) rfl (fs2.ext ((z3.t z4).t z5)) rfl (fs4.ext ((z3.t z4).t z5)) rfl (fs6.ext ((z3.t z4).t z5)) rfl (umj.ext (z4.t z5)) rfl (uqw.ext (z4.t z5)) rfl)
  ·
   rw [bf h29]
   refine Gn 3 [] J160 ?_
   have p3 := ((((((((p3.fr 2).fr 2).fr 2).fr 8).fr 8).fr 8).fr 8).fr 8).fr 8
   exact Gj 52 [(0, (pt gx0 0)), (1, (pt upp 0)), (6, .slice (Gp (some b18)) ((sl x6 0 (wr .i64 ((x6.length : Int) - 1))).length) cx6)] (utg _ _ h _ _ (hx.t z3) (some b18) _ _ _ _ _ _ _ _ _ _ _ p3 (f24.ext z3) rfl (fs2.ext z3) rfl (fs4.ext z3) rfl (fs6.ext z3) rfl umj rfl uqw rfl)
 ·
  rw [df h15]
  refine Gn 2 [] [] ?_
  obtain rfl := sj h
  have p1 := p1.dp 0
  exact Xr (fn := Tryz.f155) (by kernel_rfl) (v := .tuple #[]) (by kernel_rfl) ⟨S1, ut7, e2v.place.length, ut9, uta, utb, e2v.list.length, utd, ute, rfl, hx, p1, uth, rfl, utj, rfl⟩
theorem W.z63 (x0v : T255) (x2 : Int) (r : T265) (h : M.a59 x0v x2 = some r) {nz wz S0 w0 Lr} (gx0 ukk ukl ukm ukn upg uph upi upj upk upl upm upn upo upp upq upr ups upt upu upv upw upx) (p0 : Hp nz wz S0 w0 ((some gx0, .row 256 [.slice (Gp ukk) ukl ukm, (pt upg 0), (pt upp 0)] 3 0) :: (ukk, .row 175 ukn (ukm * kT174.size) 0) :: (some upg, .row 266 [.slice (Gp uph) upi upj, .slice (Gp upl) upm upn] 2 0) :: (uph, .row 3 upk (upj * (kInt .i64).size) 0) :: (upl, .row 257 upo (upn * (kInt .i64).size) 0) :: (some upp, .row 266 [.slice (Gp upq) upr ups, .slice (Gp upu) upv upw] 2 0) :: (upq, .row 3 upt (ups * (kInt .i64).size) 0) :: (upu, .row 257 upx (upw * (kInt .i64).size) 0) :: Lr)) (uko : Els kT174 S0 w0 ukn x0v.l) (ukp : x0v.l.length = ukl) (upy : Els (kInt .i64) S0 w0 upk x0v.now.place) (upz : x0v.now.place.length = upi) (uq0 : Els (kInt .i64) S0 w0 upo x0v.now.list) (uq1 : x0v.now.list.length = upm) (uq2 : Els (kInt .i64) S0 w0 upt x0v.next.place) (uq3 : x0v.next.place.length = upr) (uq4 : Els (kInt .i64) S0 w0 upx x0v.next.list) (uq5 : x0v.next.list.length = upv) :
  Calls Tg 155 #[(pt gx0 0), (pt upp 0), .i x2] w0 (Rets (Post.z63 nz wz S0 w0 Lr gx0 ukk ukl ukm ukn upg uph upi upj upk upl upm upn upo upp x0v r)) := by
 subst ukp
 subst upz
 subst uq1
 subst uq3
 subst uq5
 refine Zf Tryz.f155 B155 49 ?_
 refine Gj 52 [(0, (pt gx0 0)), (1, (pt upp 0)), (2, .i x2)] fun junk => ?_
 delta M.a59 at h
 refine Gn 3 [(9, .i x2)] J16t ?_
 have f10 : Els (kInt .i64) S0 w0 ([.i x2] : List Value) [x2] := by exact (Els.cons (K := (kInt .i64)) (vs := [.i x2]) (x := x2) rfl Els.nil)
 refine Om (.buildSlice 263 1 #[(0, 9)]) 10 263 (fun b => .slice (Gp (some b)) 1 1) 257 ([.i x2] : List Value) (1 * (kInt .i64).size) p0 Xa fun b9 w2 z2 p2 => ?_
 refine Gn 4 [(6, .slice (Gp (some b9)) 1 1)] J160 ?_
 exact Gj 52 [(0, (pt gx0 0)), (1, (pt upp 0)), (6, .slice (Gp (some b9)) 1 1)] (W.z64 gx0 ukk x0v.l.length ukm ukn upg uph x0v.now.place.length upj upk upl x0v.now.list.length upn upo upp _ _ h _ _ z2 (some b9) _ _ _ _ _ _ _ _ _ _ _ p2 (f10.ext z2) rfl (uko.ext z2) rfl (upy.ext z2) rfl (uq0.ext z2) rfl (uq2.ext z2) rfl (uq4.ext z2) rfl)
def Qz0 := Yq 1111010 B91
def Qz1 := Yq 11110101 B91
def Post.z65 (lk : Nat) (rk : Nat) (jkk : Nat → Value) (u46 : Nat) (utl : Nat) (utm : Option Nat) (utn : Nat) (uto : Nat) (utp : List Value) (utq : Nat) (utr : Option Nat) (uts : Nat) (utt : Nat) (utu : List Value) (utv : Option Nat) (utw : Nat) (utx : Nat) (uty : List Value) (utz : Nat) (uu0 : Nat) (uu1 : Nat) (uu2 : T255) (uu3 : Int) (r : T265) (v : Value) (w' : World) : Prop :=
 ∃ S' uu4 uu5 uu6 uu7 uu8 uu9 uua uub, v = .bool true ∧ Ext S0 w0 S' w' ∧ Hp nz wz S' w' ((some lk, .obj (lpst 91 (lfr 42 [(2, (pt u46 0)), (16, .func (.func 213) #[] #[(pt uu0 0), (pt uu1 0)])] jkk) #[17] (rfAssign (Qz0)) (rfBody (Qz0)) rk .ready none)) :: (some u46, .row 176 [(pt utl 0)] 1 0) :: (some utl, .row 256 [.slice (Gp utm) utn uto, (pt utq 0), (pt utz 0)] 3 0) :: (utm, .row 175 utp (uto * kT174.size) 0) :: (some utq, .row 266 [.slice (Gp utr) uts utt, .slice (Gp utv) utw utx] 2 0) :: (utr, .row 3 utu (utt * (kInt .i64).size) 0) :: (utv, .row 257 uty (utx * (kInt .i64).size) 0) :: (some utz, .row 266 [.slice (Gp uu4) uu5 uu6, .slice (Gp uu8) uu9 uua] 2 0) :: (uu4, .row 3 uu7 (uu6 * (kInt .i64).size) 0) :: (uu8, .row 257 uub (uua * (kInt .i64).size) 0) :: (some uu0, .row 176 [(pt utl 0)] 1 0) :: (some uu1, .row 5 [.int .u8 uu3] 1 0) :: Lr) ∧ Els (kInt .i64) S' w' uu7 r.place ∧ r.place.length = uu5 ∧ Els (kInt .i64) S' w' uub r.list ∧ r.list.length = uu9
theorem W.z65 (uu2 : T255) (uu3 : Int) (a0 : Int) (r : T265) (h : M.a60 uu2 uu3 a0 = some r) {nz wz S0 w0 Lr} (lk rk jkk u46 utl utm utn uto utp utq utr uts utt utu utv utw utx uty utz uuc uud uue uuf uug uuh uui uuj uu0 uu1) (p0 : Hp nz wz S0 w0 ((some lk, .obj (lpst 91 (lfr 42 [(2, (pt u46 0)), (16, .func (.func 213) #[] #[(pt uu0 0), (pt uu1 0)])] jkk) #[17] (rfAssign (Qz0)) (rfBody (Qz0)) rk .ready none)) :: (some u46, .row 176 [(pt utl 0)] 1 0) :: (some utl, .row 256 [.slice (Gp utm) utn uto, (pt utq 0), (pt utz 0)] 3 0) :: (utm, .row 175 utp (uto * kT174.size) 0) :: (some utq, .row 266 [.slice (Gp utr) uts utt, .slice (Gp utv) utw utx] 2 0) :: (utr, .row 3 utu (utt * (kInt .i64).size) 0) :: (utv, .row 257 uty (utx * (kInt .i64).size) 0) :: (some utz, .row 266 [.slice (Gp uuc) uud uue, .slice (Gp uug) uuh uui] 2 0) :: (uuc, .row 3 uuf (uue * (kInt .i64).size) 0) :: (uug, .row 257 uuj (uui * (kInt .i64).size) 0) :: (some uu0, .row 176 [(pt utl 0)] 1 0) :: (some uu1, .row 5 [.int .u8 uu3] 1 0) :: Lr)) (uuk : Els kT174 S0 w0 utp uu2.l) (uul : uu2.l.length = utn) (uum : Els (kInt .i64) S0 w0 utu uu2.now.place) (uun : uu2.now.place.length = uts) (uuo : Els (kInt .i64) S0 w0 uty uu2.now.list) (uup : uu2.now.list.length = utw) (uuq : Els (kInt .i64) S0 w0 uuf uu2.next.place) (uur : uu2.next.place.length = uud) (uus : Els (kInt .i64) S0 w0 uuj uu2.next.list) (uut : uu2.next.list.length = uuh) :
  Goes Tg (rbase 91 lk) [.code (rfAssign (Qz0)), .beginRound, .code (rfBody (Qz0))] ⟨setp (lfr 42 [(2, (pt u46 0)), (16, .func (.func 213) #[] #[(pt uu0 0), (pt uu1 0)])] jkk) #[17] #[.i a0], []⟩ w0 (DoneR (Post.z65 nz wz S0 w0 Lr lk rk jkk u46 utl utm utn uto utp utq utr uts utt utu utv utw utx uty utz uu0 uu1 uu2 uu3 r)) := by
 subst uul
 subst uun
 subst uup
 subst uur
 subst uut
 refine Gj 42 [(2, (pt u46 0)), (16, .func (.func 213) #[] #[(pt uu0 0), (pt uu1 0)]), (17, .i a0)] fun junk => ?_
 delta M.a60 at h
 refine Gn 3 [(5, .i a0)] [.beginRound, .code (Qz1)] ?_
 refine Goes.beginR 0 rfl p0 rfl fun w2 z2 p2 => ?_
 refine Gn 1 [] (Ys 111101010 B91 J7c) ?_
 have z3 : Ext S0 w2 S0 (w2).drew := Xm
 have p3 := p2.draw
 refine Gd [6] (Fc S0 (w2).drew [(⟨u46, 0, none⟩, (pt utl 0)), (⟨utl, 2, none⟩, (pt utz 0))]) 6 7 ?_
 generalize (w2).drew = w3 at z3 p3 ⊢
 refine Al 0 176 2 18 176 ⟨u46, 0, none⟩ ((pt utl 0)) (p3.k [(1, 0, 1), (2, 2, 1)]) (fun _ h => h.2.at_ 0 rfl) ?_
 refine Al 1 176 2 19 176 ⟨u46, 0, none⟩ ((pt utl 0)) (p3.k [(1, 0, 1), (2, 2, 1)]) (fun _ h => h.2.at_ 0 rfl) ?_
 refine Xe 2 (.nilCheck 19) 20 0 ((pt utl 0)) (p3.k [(1, 0, 1), (2, 2, 1)]) ?_
 refine Xe 3 (.fieldAddr 256 20 2) 21 0 ((pt utl 2)) (p3.k [(1, 0, 1), (2, 2, 1)]) ?_
 refine Al 4 254 21 22 254 ⟨utl, 2, none⟩ ((pt utz 0)) (p3.k [(1, 0, 1), (2, 2, 1)]) (fun _ h => h.2.at_ 1 rfl) ?_
 refine Xe 5 (.move 5) 23 257 (.i a0) (p3.k [(1, 0, 1), (2, 2, 1)]) ?_
 have p3 := (((((((p3.fr 9).fr 9).fr 9).fr 9).fr 9).fr 9).fr 9).fr 9
 refine Gb h fun y13 e14 h => ?_
 refine Oc (kc 155 [18, 22, 23] #[176, 254, 257]) 24 0 155 #[(pt utl 0), (pt utz 0), .i a0] (Ac 6) (W.z63 uu2 a0 y13 e14 _ _ _ _ _ _ _ _ _ _ _ _ _ _ _ _ _ _ _ _ _ _ _ p3 (uuk.ext (z2.t z3)) rfl (uum.ext (z2.t z3)) rfl (uuo.ext (z2.t z3)) rfl (uuq.ext (z2.t z3)) rfl (uus.ext (z2.t z3)) rfl) ?_
 rintro _ w4 ⟨S4, uuu, uuv, uuw, uux, uuy, uuz, uv0, uv1, rfl, z4, p4, uv2, rfl, uv3, rfl⟩
 refine Xi [] (Fc S4 w4 []) (by decide) ?_
 refine Ad ?_
 refine Gn 1 [] [] ?_
 have p4 := (((((((((((p4.fr 11).fr 11).fr 9).fr 9).fr 9).fr 9).fr 9).fr 9).fr 9).fr 9).fr 11).fr 11
 obtain rfl := sj h
 refine Goes.endR 0 p4 rfl fun w5 z5 p5 => ?_
 exact ⟨S4, uuu, y13.place.length, uuw, uux, uuy, y13.list.length, uv0, uv1, rfl, (((z2.t z3).t z4).t z5), p5, (uv2.ext z5), rfl, (uv3.ext z5), rfl⟩
def Qz2 := Yq 1100 B213
def J17n := Zl Qz2 J7e
def J17o := Zc Qz2 J17n
def J17q := Zb 1 (Ys 1100111 B213 J17n)
def J17r := Ys 11001100111 B213 J17q
def J17w := Ys 1100110011 B213 J17q
def Qza := Yq 1100110010 B213
def Qzb := Yq 11001100110 B213
def Post.z66 (lx0 : Nat) (rx0 : Nat) (u4q : Nat → Value) (u4r : Nat) (uv4 : Nat) (uv5 : Option Nat) (uv6 : Nat) (uv7 : Nat) (uv8 : List Value) (uv9 : Nat) (uva : Option Nat) (uvb : Nat) (uvc : Nat) (uvd : List Value) (uve : Option Nat) (uvf : Nat) (uvg : Nat) (uvh : List Value) (uvi : Nat) (uvj : Nat) (uvk : Nat) (uvl : T255) (uvm : Int) (r : T265) (v : Value) (w' : World) : Prop :=
 ∃ S' uu4 uu5 uu6 uu7 uu8 uu9 uua uub, v = .tuple #[] ∧ Ext S0 w0 S' w' ∧ Hp nz wz S' w' ((some lx0, .obj (lpst 91 (lfr 42 [(2, (pt u4r 0)), (16, .func (.func 213) #[] #[(pt uvj 0), (pt uvk 0)])] u4q) #[17] (rfAssign (Qz0)) (rfBody (Qz0)) rx0 .ready none)) :: (some u4r, .row 176 [(pt uv4 0)] 1 0) :: (some uv4, .row 256 [.slice (Gp uv5) uv6 uv7, (pt uv9 0), (pt uvi 0)] 3 0) :: (uv5, .row 175 uv8 (uv7 * kT174.size) 0) :: (some uv9, .row 266 [.slice (Gp uva) uvb uvc, .slice (Gp uve) uvf uvg] 2 0) :: (uva, .row 3 uvd (uvc * (kInt .i64).size) 0) :: (uve, .row 257 uvh (uvg * (kInt .i64).size) 0) :: (some uvi, .row 266 [.slice (Gp uu4) uu5 uu6, .slice (Gp uu8) uu9 uua] 2 0) :: (uu4, .row 3 uu7 (uu6 * (kInt .i64).size) 0) :: (uu8, .row 257 uub (uua * (kInt .i64).size) 0) :: (some uvj, .row 176 [(pt uv4 0)] 1 0) :: (some uvk, .row 5 [.int .u8 uvm] 1 0) :: Lr) ∧ Els (kInt .i64) S' w' uu7 r.place ∧ r.place.length = uu5 ∧ Els (kInt .i64) S' w' uub r.list ∧ r.list.length = uu9
def L.z67 (lx0 : Nat) (rx0 : Nat) (u4q : Nat → Value) (u4r : Nat) (uv4 : Nat) (uv5 : Option Nat) (uv6 : Nat) (uv7 : Nat) (uv8 : List Value) (uv9 : Nat) (uva : Option Nat) (uvb : Nat) (uvc : Nat) (uvd : List Value) (uve : Option Nat) (uvf : Nat) (uvg : Nat) (uvh : List Value) (uvi : Nat) (uvj : Nat) (uvk : Nat) : Int × Int × T265 × T255 × Int → T265 → Prop := fun ⟨x14, x15, e4v, uvl, uvm⟩ r => ∀ S1 w1, Ext S0 w0 S1 w1 → ∀ uu4 uu5 uu6 uu7 uu8 uu9 uua uub (_ : Hp nz wz S1 w1 ((some lx0, .obj (lpst 91 (lfr 42 [(2, (pt u4r 0)), (16, .func (.func 213) #[] #[(pt uvj 0), (pt uvk 0)])] u4q) #[17] (rfAssign (Qz0)) (rfBody (Qz0)) rx0 .ready none)) :: (some u4r, .row 176 [(pt uv4 0)] 1 0) :: (some uv4, .row 256 [.slice (Gp uv5) uv6 uv7, (pt uv9 0), (pt uvi 0)] 3 0) :: (uv5, .row 175 uv8 (uv7 * kT174.size) 0) :: (some uv9, .row 266 [.slice (Gp uva) uvb uvc, .slice (Gp uve) uvf uvg] 2 0) :: (uva, .row 3 uvd (uvc * (kInt .i64).size) 0) :: (uve, .row 257 uvh (uvg * (kInt .i64).size) 0) :: (some uvi, .row 266 [.slice (Gp uu4) uu5 uu6, .slice (Gp uu8) uu9 uua] 2 0) :: (uu4, .row 3 uu7 (uu6 * (kInt .i64).size) 0) :: (uu8, .row 257 uub (uua * (kInt .i64).size) 0) :: (some uvj, .row 176 [(pt uv4 0)] 1 0) :: (some uvk, .row 5 [.int .u8 uvm] 1 0) :: Lr)) (_ : Els kT174 S1 w1 uv8 uvl.l) (_ : uvl.l.length = uv6) (_ : Els (kInt .i64) S1 w1 uvd uvl.now.place) (_ : uvl.now.place.length = uvb) (_ : Els (kInt .i64) S1 w1 uvh uvl.now.list) (_ : uvl.now.list.length = uvf) (_ : Els (kInt .i64) S1 w1 uu7 e4v.place) (_ : e4v.place.length = uu5) (_ : Els (kInt .i64) S1 w1 uub e4v.list) (_ : e4v.list.length = uu9) (junk : Nat → Value),
 Goes Tg (base 213) J17o ⟨lfr 43 [(0, yieldV lx0), (1, (pt uvj 0)), (2, (pt uvk 0)), (13, .slice (Gp uve) uvf uvg), (14, .i x14), (15, .i x15)] junk, []⟩ w1 (Done Tg 213 (Rets (Post.z66 nz wz S0 w0 Lr lx0 rx0 u4q u4r uv4 uv5 uv6 uv7 uv8 uv9 uva uvb uvc uvd uve uvf uvg uvh uvi uvj uvk uvl uvm r)))
def L.z68 (lx0 : Nat) (rx0 : Nat) (u4q : Nat → Value) (u4r : Nat) (uv4 : Nat) (uv5 : Option Nat) (uv6 : Nat) (uv7 : Nat) (uv8 : List Value) (uv9 : Nat) (uva : Option Nat) (uvb : Nat) (uvc : Nat) (uvd : List Value) (uve : Option Nat) (uvf : Nat) (uvg : Nat) (uvh : List Value) (uvi : Nat) (uvj : Nat) (uvk : Nat) : Int × Int × Bool × T265 × T255 × Int → T265 → Prop := fun ⟨x14, x15, x41, e4v, uvl, uvm⟩ r => ∀ S1 w1, Ext S0 w0 S1 w1 → ∀ uu4 uu5 uu6 uu7 uu8 uu9 uua uub (_ : Hp nz wz S1 w1 ((some lx0, .obj (lpst 91 (lfr 42 [(2, (pt u4r 0)), (16, .func (.func 213) #[] #[(pt uvj 0), (pt uvk 0)])] u4q) #[17] (rfAssign (Qz0)) (rfBody (Qz0)) rx0 .ready none)) :: (some u4r, .row 176 [(pt uv4 0)] 1 0) :: (some uv4, .row 256 [.slice (Gp uv5) uv6 uv7, (pt uv9 0), (pt uvi 0)] 3 0) :: (uv5, .row 175 uv8 (uv7 * kT174.size) 0) :: (some uv9, .row 266 [.slice (Gp uva) uvb uvc, .slice (Gp uve) uvf uvg] 2 0) :: (uva, .row 3 uvd (uvc * (kInt .i64).size) 0) :: (uve, .row 257 uvh (uvg * (kInt .i64).size) 0) :: (some uvi, .row 266 [.slice (Gp uu4) uu5 uu6, .slice (Gp uu8) uu9 uua] 2 0) :: (uu4, .row 3 uu7 (uu6 * (kInt .i64).size) 0) :: (uu8, .row 257 uub (uua * (kInt .i64).size) 0) :: (some uvj, .row 176 [(pt uv4 0)] 1 0) :: (some uvk, .row 5 [.int .u8 uvm] 1 0) :: Lr)) (_ : Els kT174 S1 w1 uv8 uvl.l) (_ : uvl.l.length = uv6) (_ : Els (kInt .i64) S1 w1 uvd uvl.now.place) (_ : uvl.now.place.length = uvb) (_ : Els (kInt .i64) S1 w1 uvh uvl.now.list) (_ : uvl.now.list.length = uvf) (_ : Els (kInt .i64) S1 w1 uu7 e4v.place) (_ : e4v.place.length = uu5) (_ : Els (kInt .i64) S1 w1 uub e4v.list) (_ : e4v.list.length = uu9) (junk : Nat → Value),
 Goes Tg (base 213) J17r ⟨lfr 43 [(0, yieldV lx0), (1, (pt uvj 0)), (2, (pt uvk 0)), (13, .slice (Gp uve) uvf uvg), (14, .i x14), (15, .i x15), (41, .bool x41)] junk, []⟩ w1 (Done Tg 213 (Rets (Post.z66 nz wz S0 w0 Lr lx0 rx0 u4q u4r uv4 uv5 uv6 uv7 uv8 uv9 uva uvb uvc uvd uve uvf uvg uvh uvi uvj uvk uvl uvm r)))
theorem W.z69 {nz wz S0 w0 Lr} (lx0 : Nat) (rx0 : Nat) (u4q : Nat → Value) (u4r : Nat) (uv4 : Nat) (uv5 : Option Nat) (uv6 : Nat) (uv7 : Nat) (uv8 : List Value) (uv9 : Nat) (uva : Option Nat) (uvb : Nat) (uvc : Nat) (uvd : List Value) (uve : Option Nat) (uvf : Nat) (uvg : Nat) (uvh : List Value) (uvi : Nat) (uvj : Nat) (uvk : Nat) : (∀ a r, M.a2m a = some r → (L.z67 nz wz S0 w0 Lr lx0 rx0 u4q u4r uv4 uv5 uv6 uv7 uv8 uv9 uva uvb uvc uvd uve uvf uvg uvh uvi uvj uvk) a r) ∧ (∀ a r, M.a3k a = some r → (L.z68 nz wz S0 w0 Lr lx0 rx0 u4q u4r uv4 uv5 uv6 uv7 uv8 uv9 uva uvb uvc uvd uve uvf uvg uvh uvi uvj uvk) a r) := by
 refine M.a2m.mutual_partial_correctness (L.z67 nz wz S0 w0 Lr lx0 rx0 u4q u4r uv4 uv5 uv6 uv7 uv8 uv9 uva uvb uvc uvd uve uvf uvg uvh uvi uvj uvk) (L.z68 nz wz S0 w0 Lr lx0 rx0 u4q u4r uv4 uv5 uv6 uv7 uv8 uv9 uva uvb uvc uvd uve uvf uvg uvh uvi uvj uvk) ?_ ?_
 ·
  intro uvn uvo ⟨x14, x15, e4v, uvl, uvm⟩ r h S1 w1 hx uu4 uu5 uu6 uu7 uu8 uu9 uua uub p1 fs0 ls0 fs2 ls2 fs4 ls4 uvp uvq uvr uvs junk
  try dsimp only at h
  subst ls0
  subst ls2
  subst ls4
  subst uvq
  subst uvs
  refine Gn 5 [(16, .bool (decide (x15 < x14)))] (Ys 110010 B213 (Ys 110011 B213 J17n)) ?_
  refine Gi h (fun h15 h => ?_) fun h15 h => ?_
  ·
   rw [dt h15]
   refine Gn 6 [] (Yt 110011000 B213 [0, 1, 2] (Ys 110011001 B213 J17q)) ?_
   refine Gg h fun g16 h => ?_
   refine Gg h fun g17 h => ?_
   refine Xt 263 13 15 17 0 257 .i64 x15 6 uvl.now.list.length uvg (gi uvl.now.list x15) rfl rfl p1 rfl fs4 Xa (by kernel_rfl) (by kernel_rfl) (by kernel_rfl) (by kernel_rfl) (by decide) g16 g17 ?_
   rintro b18 _ rfl q20 f19
   obtain rfl := q20
   refine Xb 257 17 18 257 ⟨b18, (x15 : Int).toNat * (kInt .i64).size, none⟩ (.i (gi uvl.now.list x15)) (f19 0 _ rfl) ?_
   refine Gn 4 [(5, .i (gi uvl.now.list x15))] (Zr Qza [0, 1, 2, 3, 4, 5, 6, 7, 8] J17w) ?_
   refine Xb 176 1 19 176 ⟨uvj, 0, none⟩ ((pt uv4 0)) (p1.c 10 0) ?_
   refine Gm 2 [([20, 21], (pt uv4 0))] (Zr Qza [3, 4, 5, 6, 7, 8] J17w) ?_
   refine Xb 77 21 22 77 ⟨uv4, 0, none⟩ (.slice (Gp uv5) uvl.l.length uv7) (p1.c 2 0) ?_
   refine Gn 1 [(23, .i (gi uvl.now.list x15))] (Zr Qza [5, 6, 7, 8] J17w) ?_
   refine Gg h fun g22 h => ?_
   refine Gg h fun g23 h => ?_
   refine Xt 77 22 23 24 0 175 .i64 (gi uvl.now.list x15) 3 uvl.l.length uv7 (gi uvl.l (gi uvl.now.list x15)) rfl rfl p1 rfl fs0 Xa (by kernel_rfl) (by kernel_rfl) (by kernel_rfl) (by kernel_rfl) (by decide) g22 g23 ?_
   rintro b24 _ rfl q26 f25
   obtain ⟨_, _, rfl, rfl, ⟨_, _, rfl, ⟨l27, f28⟩, ⟨_, _, rfl, rfl, rfl⟩⟩⟩ := q26
   obtain rfl := els_lit4' f28 l27
   refine Xf 175 24 25 175 ⟨b24, (gi uvl.now.list x15 : Int).toNat * kT174.size, none⟩ ([.i ((gi uvl.l (gi uvl.now.list x15)).Op)] ++ ((U4 ((gi uvl.l (gi uvl.now.list x15)).Set) []) ++ ([.i ((gi uvl.l (gi uvl.now.list x15)).X)] ++ [.i ((gi uvl.l (gi uvl.now.list x15)).Y)]))) f25 ?_
   refine Oa 175 6 0 (.agg #[.i 0, .u 0, .u 0, .u 0, .u 0, .i 0, .i 0]) [.i 0, .u 0, .u 0, .u 0, .u 0, .i 0, .i 0] p1 Xa fun b30 w2 z2 p2 => ?_
   refine So 175 6 25 0 0 b30 0 (ag (.i ((gi uvl.l (gi uvl.now.list x15)).Op) :: U4 ((gi uvl.l (gi uvl.now.list x15)).Set) [.i ((gi uvl.l (gi uvl.now.list x15)).X), .i ((gi uvl.l (gi uvl.now.list x15)).Y)])) (.i ((gi uvl.l (gi uvl.now.list x15)).Op) :: U4 ((gi uvl.l (gi uvl.now.list x15)).Set) [.i ((gi uvl.l (gi uvl.now.list x15)).X), .i ((gi uvl.l (gi uvl.now.list x15)).Y)]) p2 rfl Xd fun w3 z3 p3 => ?_
   refine Gn 4 [(26, (pt b30 0))] (Zr Qzb [1, 2, 3, 4, 5, 6, 7, 8, 9, 10, 11, 12, 13, 14, 15] J17r) ?_
   refine Xb 3 26 27 3 ⟨b30, 0, none⟩ (.i ((gi uvl.l (gi uvl.now.list x15)).Op)) (p3.c 0 0) ?_
   refine Gm 2 [([28, 29], .bool (decide ((gi uvl.l (gi uvl.now.list x15)).Op = 1)))] (Zr Qzb [4, 5, 6, 7, 8, 9, 10, 11, 12, 13, 14, 15] J17r) ?_
   refine Gi h (fun h32 h => ?_) fun h32 h => ?_
   ·
    rw [dt h32]
    refine Gn 1 [(30, (pt b30 1))] (Zr Qzb [5, 6, 7, 8, 9, 10, 11, 12, 13, 14, 15] J17r) ?_
    refine Xf 24 30 31 24 ⟨b30, 1, none⟩ (U4 ((gi uvl.l (gi uvl.now.list x15)).Set) []) (p3.pa 0 1) ?_
    refine Xb 5 2 32 5 ⟨uvk, 0, none⟩ (.int .u8 uvm) (p3.c 12 0) ?_
    refine Gb h fun y33 e34 h => ?_
    refine Gc (kc 214 [31, 32] #[24, 5]) 33 4 214 _ (W.z20 ((gi uvl.l (gi uvl.now.list x15)).Set) uvm y33 e34 _ p3 (els_mk4 (S := S1) (w := w3) (k := .u64) l27) rfl) ?_
    rintro _ w4 ⟨S4, rfl, z4, p4⟩
    refine Gm 2 [([34, 35], .bool y33)] (Zr Qzb [10, 11, 12, 13, 14, 15] J17r) ?_
    refine Gi h (fun h35 h => ?_) fun h35 h => ?_
    ·
     rw [h35]
     refine Gn 2 [(36, yieldV lx0), (37, (pt b30 5))] (Zr Qzb [12, 13, 14, 15] J17r) ?_
     refine Xb 3 37 38 3 ⟨b30, 5, none⟩ (.i ((gi uvl.l (gi uvl.now.list x15)).X)) (p4.c 0 5) ?_
     have p4 := (((((((((((p4.fr 12).fr 12).fr 12).fr 12).fr 12).fr 12).fr 12).fr 12).fr 12).fr 12).fr 12).fr 12
     refine Gb h fun y36 e37 h => ?_
     refine Goes.yieldAt (.call { callee := .value 36, args := #[38], argTypes := #[257] }) 39 4 0 lx0 #[.i ((gi uvl.l (gi uvl.now.list x15)).X)] p4 rfl (by kernel_rfl) rfl (fun _ => by kernel_rfl) rfl (W.z65 (⟨uvl.l, uvl.now, e4v⟩ : T255) uvm ((gi uvl.l (gi uvl.now.list x15)).X) y36 e37 _ _ _ _ _ (some b24) _ _ _ _ _ _ _ _ (some b18) _ _ _ _ _ _ _ _ _ _ _ _ _ _ p4 (fs0.ext ((z2.t z3).t z4)) rfl (fs2.ext ((z2.t z3).t z4)) rfl (fs4.ext ((z2.t z3).t z4)) rfl (uvp.ext ((z2.t z3).t z4)) rfl (uvr.ext ((z2.t z3).t z4)) rfl) ?_
     rintro _ w5 ⟨S5, uvt, uvu, uvv, uvw, uvx, uvy, uvz, uw0, rfl, z5, p5, uw1, rfl, uw2, rfl⟩
     refine Gm 3 [([40, 41], .bool (!true))] J17r ?_
     have p5 := p5.dp 12
     exact Gj 43 [(0, yieldV lx0), (1, (pt uvj 0)), (2, (pt uvk 0)), (13, .slice (Gp (some b18)) uvl.now.list.length uvg), (14, .i x14), (15, .i x15), (41, .bool (!true))] (uvo _ _ h _ _ ((((hx.t z2).t z3).t z4).t z5) _ _ _ _ _ _ _ _ p5 (fs0.ext (((z2.t z3).t z4).t z5)) rfl (fs2.ext (((z2.t z3).t z4).t z5)) rfl (fs4.ext (((z2.t z3).t z4).t z5)) rfl uw1 rfl uw2 rfl)
    ·
     rw [bf h35]
     refine Gm 7 [([36, 37, 38, 39, 40], undef), ([41], .bool false)] J17r ?_
     have p4 := p4.dp 0
     exact Gj 43 [(0, yieldV lx0), (1, (pt uvj 0)), (2, (pt uvk 0)), (13, .slice (Gp (some b18)) uvl.now.list.length uvg), (14, .i x14), (15, .i x15), (41, .bool false)] (uvo _ _ h _ _ (((hx.t z2).t z3).t z4) _ _ _ _ _ _ _ _ p4 (fs0.ext ((z2.t z3).t z4)) rfl (fs2.ext ((z2.t z3).t z4)) rfl (fs4.ext ((z2.t z3).t z4)) rfl (uvp.ext ((z2.t z3).t z4)) rfl (uvr.ext ((z2.t z3).t z4)) rfl)
   ·
    rw [df h32]
    refine Gm 13 [([30, 31, 32, 33, 36, 37, 38, 39, 40], undef), ([34, 35, 41], .bool false)] J17r ?_
    have p3 := p3.dp 0
    exact Gj 43 [(0, yieldV lx0), (1, (pt uvj 0)), (2, (pt uvk 0)), (13, .slice (Gp (some b18)) uvl.now.list.length uvg), (14, .i x14), (15, .i x15), (41, .bool false)] (uvo _ _ h _ _ ((hx.t z2).t z3) _ _ _ _ _ _ _ _ p3 (fs0.ext (z2.t z3)) rfl (fs2.ext (z2.t z3)) rfl (fs4.ext (z2.t z3)) rfl (uvp.ext (z2.t z3)) rfl (uvr.ext (z2.t z3)) rfl)
  ·
   rw [df h15]
   refine Gn 2 [] [] ?_
   obtain rfl := sj h
   exact Xr (fn := Tryz.f213) (by kernel_rfl) (v := .tuple #[]) (by kernel_rfl) ⟨S1, uu4, e4v.place.length, uu6, uu7, uu8, e4v.list.length, uua, uub, rfl, hx, p1, uvp, rfl, uvr, rfl⟩
 ·
  intro uw4 uw5 ⟨x14, x15, x41, e4v, uvl, uvm⟩ r h S1 w1 hx uu4 uu5 uu6 uu7 uu8 uu9 uua uub p1 fs0 ls0 fs2 ls2 fs4 ls4 uvp uvq uvr uvs junk
  try dsimp only at h
  subst ls0
  subst ls2
  subst ls4
  subst uvq
  subst uvs
  refine Gi h (fun h42 h => ?_) fun h42 h => ?_
  ·
   rw [h42]
   refine Gn 1 [] (Ys 110011001110 B213 J17q) ?_
   obtain rfl := sj h
   exact Xc Tryz.f213 (.tuple #[]) ⟨_, _, _, _, _, _, _, _, _, rfl, hx, p1, uvp, rfl, uvr, rfl⟩
  ·
   rw [bf h42]
   refine Gm 8 [([42, 15], .i (wr .i64 (x15 + 1)))] J17o ?_
   exact Gj 43 [(0, yieldV lx0), (1, (pt uvj 0)), (2, (pt uvk 0)), (13, .slice (Gp uve) uvl.now.list.length uvg), (14, .i x14), (15, .i (wr .i64 (x15 + 1)))] (uw5 _ _ h _ _ hx _ _ _ _ _ _ _ _ p1 fs0 rfl fs2 rfl fs4 rfl uvp rfl uvr rfl)
theorem W.z67 {nz wz S0 w0 Lr} (lx0 : Nat) (rx0 : Nat) (u4q : Nat → Value) (u4r : Nat) (uv4 : Nat) (uv5 : Option Nat) (uv6 : Nat) (uv7 : Nat) (uv8 : List Value) (uv9 : Nat) (uva : Option Nat) (uvb : Nat) (uvc : Nat) (uvd : List Value) (uve : Option Nat) (uvf : Nat) (uvg : Nat) (uvh : List Value) (uvi : Nat) (uvj : Nat) (uvk : Nat) : ∀ a r, M.a2m a = some r → (L.z67 nz wz S0 w0 Lr lx0 rx0 u4q u4r uv4 uv5 uv6 uv7 uv8 uv9 uva uvb uvc uvd uve uvf uvg uvh uvi uvj uvk) a r := (W.z69 lx0 rx0 u4q u4r uv4 uv5 uv6 uv7 uv8 uv9 uva uvb uvc uvd uve uvf uvg uvh uvi uvj uvk).1
theorem W.z68 {nz wz S0 w0 Lr} (lx0 : Nat) (rx0 : Nat) (u4q : Nat → Value) (u4r : Nat) (uv4 : Nat) (uv5 : Option Nat) (uv6 : Nat) (uv7 : Nat) (uv8 : List Value) (uv9 : Nat) (uva : Option Nat) (uvb : Nat) (uvc : Nat) (uvd : List Value) (uve : Option Nat) (uvf : Nat) (uvg : Nat) (uvh : List Value) (uvi : Nat) (uvj : Nat) (uvk : Nat) : ∀ a r, M.a3k a = some r → (L.z68 nz wz S0 w0 Lr lx0 rx0 u4q u4r uv4 uv5 uv6 uv7 uv8 uv9 uva uvb uvc uvd uve uvf uvg uvh uvi uvj uvk) a r := (W.z69 lx0 rx0 u4q u4r uv4 uv5 uv6 uv7 uv8 uv9 uva uvb uvc uvd uve uvf uvg uvh uvi uvj uvk).2
end
end Go.Gx
