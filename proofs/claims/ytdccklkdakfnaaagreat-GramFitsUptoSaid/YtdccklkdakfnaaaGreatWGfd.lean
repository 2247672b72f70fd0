import Derived.Test.YtdccklkdakfnaaaGreatWGfc
set_option linter.unusedVariables false
set_option linter.unusedSimpArgs false
set_option maxRecDepth 100000
set_option maxHeartbeats 4000000
namespace Go.Gx
open Go.RowKit Go.Proofs
variable (nz : Nat) (wz : World) (S0 : Fz) (w0 : World) (Lr : List Ent)
noncomputable section
def Qnp := Yq 111000 B131
def Jty := Zl Qnp (Zb 0 (Ys 1111 B131 []))
def Jtz := Zc Qnp Jty
def Ju1 := Ys 11100001 B131 (Ys 1110001 B131 Jty)
def Ju3 := Zb 0 (Ys 1111 B247 [])
def Ju4 := Ys 111001 B247 Ju3
def Ju5 := Ys 11100111 B247 Ju3
def Ju6 := Ys 111 B276 []
def Qnx := Yq 111000 B68
def Ju9 := Zl Qnx (Zb 0 (Ys 1111 B68 []))
def Jua := Zc Qnx Ju9
def Jug := Ys 11100001 B68 (Ys 1110001 B68 Ju9)
def Juk := Ys 11111 B68 []
def Jur := Ys 11111 B131 []
def Jux := Ys 11111 B198 []
def Jv0 := Zb 0 Jux
def Jv1 := Ys 11110101 B198 Jv0
def Jv3 := Ys 111111 B198 []
def Qoo := Yq 111110 B198
def Jv4 := Zr Qoo [0, 1, 2, 3, 4, 5] Jv3
def Jv5 := Zr Qoo [5] Jv3
def Jv6 := Ys 1111010111 B198 Jv0
def Jv8 := Ys 111101011111 B198 Jv0
def Jva := Ys 11110101111111 B198 Jv0
def Jvd := Ys 1111010111111111 B198 Jv0
def Qp2 := Yq 111000 B247
def Jvm := Ys 11100101 B247 Ju3
def Qp5 := Yq 11100110 B247
def Jvq := Ys 1110011101 B247 Ju3
def Jvs := Ys 1110011111 B247 Ju3
def Jvu := Ys 111001111101 B247 Ju3
def Qpb := Yq 111001111100 B247
def Jvx := Ys 111001111111 B247 Ju3
def Jvz := Ys 11100111111101 B247 Ju3
def Jw1 := Ys 11100111111111 B247 Ju3
def Jw3 := Ys 1110011111111101 B247 Ju3
def Jw5 := Ys 1110011111111111 B247 Ju3
def Jw7 := Ys 111001111111111101 B247 Ju3
def Qpn := Yq 111001111111111100 B247
def Jwa := Ys 11111 B247 []
def Qpp := Yq 11110 B247
def Jwd := Ys 111111 B247 []
def Qpr := Yq 111110 B247
def Jwi := Ys 1101 B276 Ju6
def Jwl := Ys 1111 B276 []
def Qpy := Yq 1110 B276
def Jwq := Ys 111111 B276 []
def Qq2 := Yq 111110 B276
def Jwv := Ys 11111111 B276 []
def Post.z5g (gx0 : Nat) (r : T26 × T134) (v : Value) (w' : World) : Prop :=
 ∃ S' ug4 u1 u2 ug0, v = (ag (vT26 r.1 ug4 u1 u2)) ∧ Ext S0 w0 S' w' ∧ Hp nz wz S' w' ((some gx0, .row 135 (vT134 r.2 ug0) 4 0) :: Lr) ∧ r.1.Set.length = 4 ∧ Rd kT26 S' w' ug4 u2 r.1.L ∧ r.1.L.length = u1 ∧ PtO kT138 S' w' ug0 r.2.bad
def Post.z5h (gx0 : Nat) (r : T26 × T134) (v : Value) (w' : World) : Prop :=
 ∃ S' ug4 u1 u2 ug0, v = (ag (vT26 r.1 ug4 u1 u2)) ∧ Ext S0 w0 S' w' ∧ Hp nz wz S' w' ((some gx0, .row 135 (vT134 r.2 ug0) 4 0) :: Lr) ∧ r.1.Set.length = 4 ∧ Rd kT26 S' w' ug4 u2 r.1.L ∧ r.1.L.length = u1 ∧ PtO kT138 S' w' ug0 r.2.bad
def Post.z5i (gx0 : Nat) (r : T26 × T134) (v : Value) (w' : World) : Prop :=
 ∃ S' ug4 u1 u2 ug0, v = (ag (vT26 r.1 ug4 u1 u2)) ∧ Ext S0 w0 S' w' ∧ Hp nz wz S' w' ((some gx0, .row 135 (vT134 r.2 ug0) 4 0) :: Lr) ∧ r.1.Set.length = 4 ∧ Rd kT26 S' w' ug4 u2 r.1.L ∧ r.1.L.length = u1 ∧ PtO kT138 S' w' ug0 r.2.bad
def Post.z5j (gx0 : Nat) (r : T26 × T134) (v : Value) (w' : World) : Prop :=
 ∃ S' ug4 u1 u2 ug0, v = (ag (vT26 r.1 ug4 u1 u2)) ∧ Ext S0 w0 S' w' ∧ Hp nz wz S' w' ((some gx0, .row 135 (vT134 r.2 ug0) 4 0) :: Lr) ∧ r.1.Set.length = 4 ∧ Rd kT26 S' w' ug4 u2 r.1.L ∧ r.1.L.length = u1 ∧ PtO kT138 S' w' ug0 r.2.bad
def Post.z5k (gx0 : Nat) (r : T26 × T134) (v : Value) (w' : World) : Prop :=
 ∃ S' ug4 u1 u2 ug0, v = (ag (vT26 r.1 ug4 u1 u2)) ∧ Ext S0 w0 S' w' ∧ Hp nz wz S' w' ((some gx0, .row 135 (vT134 r.2 ug0) 4 0) :: Lr) ∧ r.1.Set.length = 4 ∧ Rd kT26 S' w' ug4 u2 r.1.L ∧ r.1.L.length = u1 ∧ PtO kT138 S' w' ug0 r.2.bad
def LF.z5g : T134 → (T26 × T134) → Prop := fun x0v r => ∀ {nz wz S0 w0 Lr} gx0 ug2 (_ : Hp nz wz S0 w0 ((some gx0, .row 135 (vT134 x0v ug2) 4 0) :: Lr)) (_ : PtO kT138 S0 w0 ug2 x0v.bad),
 Calls Tg 68 #[(pt gx0 0)] w0 (Rets (Post.z5g nz wz S0 w0 Lr gx0 r))
def LF.z5h : T134 → (T26 × T134) → Prop := fun x0v r => ∀ {nz wz S0 w0 Lr} gx0 ug2 (_ : Hp nz wz S0 w0 ((some gx0, .row 135 (vT134 x0v ug2) 4 0) :: Lr)) (_ : PtO kT138 S0 w0 ug2 x0v.bad),
 Calls Tg 131 #[(pt gx0 0)] w0 (Rets (Post.z5h nz wz S0 w0 Lr gx0 r))
def L.z5l (gx0 : Nat) : T26 × (List T26) × T134 → (T26 × T134) → Prop := fun ⟨x2v, x3, e0v⟩ r => ∀ S1 w1, Ext S0 w0 S1 w1 → ∀ gx2 ulw u55 u56 ulx Gx3 nx3 cx3 u6j ug0 (_ : Hp nz wz S1 w1 ((some gx2, .row 27 (vT26 x2v (Gp ulw) u55 u56) 8 0) :: (ulw, .row 27 ulx (u56 * kT26.size) 0) :: (Gx3, .row 27 u6j (cx3 * kT26.size) 0) :: (some gx0, .row 135 (vT134 e0v ug0) 4 0) :: Lr)) (_ : x2v.Set.length = 4) (_ : Els kT26 S1 w1 ulx x2v.L) (_ : x2v.L.length = u55) (_ : Els kT26 S1 w1 u6j x3) (_ : x3.length = nx3) (_ : PtO kT138 S1 w1 ug0 e0v.bad) (junk : Nat → Value),
 Goes Tg (base 131) Jtz ⟨lfr 38 [(0, (pt gx0 0)), (2, (pt gx2 0)), (3, .slice (Gp Gx3) nx3 cx3)] junk, []⟩ w1 (Done Tg 131 (Rets (Post.z5h nz wz S0 w0 Lr gx0 r)))
def LL.z5l : T26 × (List T26) × T134 → (T26 × T134) → Prop := fun a r => ∀ {nz wz S0 w0 Lr} (gx0 : Nat), L.z5l nz wz S0 w0 Lr gx0 a r
def L.z5m (gx0 : Nat) : T26 × (List T26) × Bool × T134 → (T26 × T134) → Prop := fun ⟨x2v, x3, x30, e0v⟩ r => ∀ S1 w1, Ext S0 w0 S1 w1 → ∀ gx2 ulw u55 u56 ulx Gx3 nx3 cx3 u6j ug0 (_ : Hp nz wz S1 w1 ((some gx2, .row 27 (vT26 x2v (Gp ulw) u55 u56) 8 0) :: (ulw, .row 27 ulx (u56 * kT26.size) 0) :: (Gx3, .row 27 u6j (cx3 * kT26.size) 0) :: (some gx0, .row 135 (vT134 e0v ug0) 4 0) :: Lr)) (_ : x2v.Set.length = 4) (_ : Els kT26 S1 w1 ulx x2v.L) (_ : x2v.L.length = u55) (_ : Els kT26 S1 w1 u6j x3) (_ : x3.length = nx3) (_ : PtO kT138 S1 w1 ug0 e0v.bad) (junk : Nat → Value),
 Goes Tg (base 131) Ju1 ⟨lfr 38 [(0, (pt gx0 0)), (2, (pt gx2 0)), (3, .slice (Gp Gx3) nx3 cx3), (30, .bool x30)] junk, []⟩ w1 (Done Tg 131 (Rets (Post.z5h nz wz S0 w0 Lr gx0 r)))
def LL.z5m : T26 × (List T26) × Bool × T134 → (T26 × T134) → Prop := fun a r => ∀ {nz wz S0 w0 Lr} (gx0 : Nat), L.z5m nz wz S0 w0 Lr gx0 a r
def LF.z5i : T134 → (T26 × T134) → Prop := fun x0v r => ∀ {nz wz S0 w0 Lr} gx0 ug2 (_ : Hp nz wz S0 w0 ((some gx0, .row 135 (vT134 x0v ug2) 4 0) :: Lr)) (_ : PtO kT138 S0 w0 ug2 x0v.bad),
 Calls Tg 198 #[(pt gx0 0)] w0 (Rets (Post.z5i nz wz S0 w0 Lr gx0 r))
def LF.z5j : T134 → (T26 × T134) → Prop := fun x0v r => ∀ {nz wz S0 w0 Lr} gx0 ug2 (_ : Hp nz wz S0 w0 ((some gx0, .row 135 (vT134 x0v ug2) 4 0) :: Lr)) (_ : PtO kT138 S0 w0 ug2 x0v.bad),
 Calls Tg 247 #[(pt gx0 0)] w0 (Rets (Post.z5j nz wz S0 w0 Lr gx0 r))
def L.z5n (gx0 : Nat) : T26 × Int × Bool × T134 → (T26 × T134) → Prop := fun ⟨x2v, x3, x6, e0v⟩ r => ∀ S1 w1, Ext S0 w0 S1 w1 → ∀ gx2 ulw u55 u56 ulx ug0 (_ : Hp nz wz S1 w1 ((some gx2, .row 27 (vT26 x2v (Gp ulw) u55 u56) 8 0) :: (ulw, .row 27 ulx (u56 * kT26.size) 0) :: (some gx0, .row 135 (vT134 e0v ug0) 4 0) :: Lr)) (_ : x2v.Set.length = 4) (_ : Els kT26 S1 w1 ulx x2v.L) (_ : x2v.L.length = u55) (_ : PtO kT138 S1 w1 ug0 e0v.bad) (junk : Nat → Value),
 Goes Tg (base 247) Ju4 ⟨lfr 73 [(0, (pt gx0 0)), (2, (pt gx2 0)), (3, .int .u8 x3), (6, .bool x6)] junk, []⟩ w1 (Done Tg 247 (Rets (Post.z5j nz wz S0 w0 Lr gx0 r)))
def LL.z5n : T26 × Int × Bool × T134 → (T26 × T134) → Prop := fun a r => ∀ {nz wz S0 w0 Lr} (gx0 : Nat), L.z5n nz wz S0 w0 Lr gx0 a r
def L.z5o (gx0 : Nat) : T26 × Int × Bool × T134 → (T26 × T134) → Prop := fun ⟨x2v, x3, x24, e0v⟩ r => ∀ S1 w1, Ext S0 w0 S1 w1 → ∀ gx2 ulw u55 u56 ulx ug0 (_ : Hp nz wz S1 w1 ((some gx2, .row 27 (vT26 x2v (Gp ulw) u55 u56) 8 0) :: (ulw, .row 27 ulx (u56 * kT26.size) 0) :: (some gx0, .row 135 (vT134 e0v ug0) 4 0) :: Lr)) (_ : x2v.Set.length = 4) (_ : Els kT26 S1 w1 ulx x2v.L) (_ : x2v.L.length = u55) (_ : PtO kT138 S1 w1 ug0 e0v.bad) (junk : Nat → Value),
 Goes Tg (base 247) Ju5 ⟨lfr 73 [(0, (pt gx0 0)), (2, (pt gx2 0)), (3, .int .u8 x3), (24, .bool x24)] junk, []⟩ w1 (Done Tg 247 (Rets (Post.z5j nz wz S0 w0 Lr gx0 r)))
def LL.z5o : T26 × Int × Bool × T134 → (T26 × T134) → Prop := fun a r => ∀ {nz wz S0 w0 Lr} (gx0 : Nat), L.z5o nz wz S0 w0 Lr gx0 a r
def LF.z5k : T134 → (T26 × T134) → Prop := fun x0v r => ∀ {nz wz S0 w0 Lr} gx0 ug2 (_ : Hp nz wz S0 w0 ((some gx0, .row 135 (vT134 x0v ug2) 4 0) :: Lr)) (_ : PtO kT138 S0 w0 ug2 x0v.bad),
 Calls Tg 276 #[(pt gx0 0)] w0 (Rets (Post.z5k nz wz S0 w0 Lr gx0 r))
def L.z5p (gx0 : Nat) : T26 × T134 → (T26 × T134) → Prop := fun ⟨x2v, e0v⟩ r => ∀ S1 w1, Ext S0 w0 S1 w1 → ∀ gx2 ulw u55 u56 ulx ug0 (_ : Hp nz wz S1 w1 ((some gx2, .row 27 (vT26 x2v (Gp ulw) u55 u56) 8 0) :: (ulw, .row 27 ulx (u56 * kT26.size) 0) :: (some gx0, .row 135 (vT134 e0v ug0) 4 0) :: Lr)) (_ : x2v.Set.length = 4) (_ : Els kT26 S1 w1 ulx x2v.L) (_ : x2v.L.length = u55) (_ : PtO kT138 S1 w1 ug0 e0v.bad) (junk : Nat → Value),
 Goes Tg (base 276) Ju6 ⟨lfr 27 [(0, (pt gx0 0)), (2, (pt gx2 0))] junk, []⟩ w1 (Done Tg 276 (Rets (Post.z5k nz wz S0 w0 Lr gx0 r)))
def LL.z5p : T26 × T134 → (T26 × T134) → Prop := fun a r => ∀ {nz wz S0 w0 Lr} (gx0 : Nat), L.z5p nz wz S0 w0 Lr gx0 a r
def L.z5q (gx0 : Nat) : T26 × (List T26) × T134 → (T26 × T134) → Prop := fun ⟨x2v, x3, e0v⟩ r => ∀ S1 w1, Ext S0 w0 S1 w1 → ∀ gx2 ulw u55 u56 ulx Gx3 nx3 cx3 u6j ug0 (_ : Hp nz wz S1 w1 ((some gx2, .row 27 (vT26 x2v (Gp ulw) u55 u56) 8 0) :: (ulw, .row 27 ulx (u56 * kT26.size) 0) :: (Gx3, .row 27 u6j (cx3 * kT26.size) 0) :: (some gx0, .row 135 (vT134 e0v ug0) 4 0) :: Lr)) (_ : x2v.Set.length = 4) (_ : Els kT26 S1 w1 ulx x2v.L) (_ : x2v.L.length = u55) (_ : Els kT26 S1 w1 u6j x3) (_ : x3.length = nx3) (_ : PtO kT138 S1 w1 ug0 e0v.bad) (junk : Nat → Value),
 Goes Tg (base 68) Jua ⟨lfr 16 [(0, (pt gx0 0)), (2, (pt gx2 0)), (3, .slice (Gp Gx3) nx3 cx3)] junk, []⟩ w1 (Done Tg 68 (Rets (Post.z5g nz wz S0 w0 Lr gx0 r)))
def LL.z5q : T26 × (List T26) × T134 → (T26 × T134) → Prop := fun a r => ∀ {nz wz S0 w0 Lr} (gx0 : Nat), L.z5q nz wz S0 w0 Lr gx0 a r
theorem W.z5r : (∀ a r, M.a1l a = some r → LF.z5g a r) ∧ (∀ a r, M.a2r a = some r → LL.z5q a r) ∧ (∀ a r, M.a2n a = some r → LF.z5h a r) ∧ (∀ a r, M.a2o a = some r → LL.z5l a r) ∧ (∀ a r, M.ay a = some r → LL.z5m a r) ∧ (∀ a r, M.a49 a = some r → LF.z5i a r) ∧ (∀ a r, M.a4a a = some r → LF.z5j a r) ∧ (∀ a r, M.a1m a = some r → LL.z5n a r) ∧ (∀ a r, M.a2p a = some r → LL.z5o a r) ∧ (∀ a r, M.a4b a = some r → LF.z5k a r) ∧ (∀ a r, M.a2q a = some r → LL.z5p a r) := by
 refine M.a1l.mutual_partial_correctness LF.z5g LL.z5q LF.z5h LL.z5l LL.z5m LF.z5i LF.z5j LL.z5n LL.z5o LF.z5k LL.z5p ?_ ?_ ?_ ?_ ?_ ?_ ?_ ?_ ?_ ?_ ?_
 ·
  intro uly rec_syntax_parser_sequence ulz ih_syntax_parser_sequence x0v r h nz wz S0 w0 Lr gx0 ug2 p0 ug3
  try dsimp only at h
  refine Zf Tryz.f68 B68 15 ?_
  refine Gj 16 [(0, (pt gx0 0))] fun junk => ?_
  refine Gn 2 [] (Yt 10 B68 [0] (Ys 11 B68 [])) ?_
  refine Oa 27 2 0 (.agg #[.i 0, .u 0, .u 0, .u 0, .u 0, Sn, .i 0, .i 0]) [.i 0, .u 0, .u 0, .u 0, .u 0, Sn, .i 0, .i 0] p0 Xa fun b2 w2 z2 p2 => ?_
  refine Gn 4 [(4, (pt gx0 0))] (Yt 110 B68 [1, 2, 3] (Ys 111 B68 [])) ?_
  have p2 := p2.fr 1
  refine Gb h fun y4 e5 h => ?_
  refine Gc (kc 131 [4] #[132]) 5 27 131 _ (ih_syntax_parser_sequence x0v y4 e5 _ _ p2 (ug3.ext z2)) ?_
  rintro _ w3 ⟨S3, ula, ulb, ulc, uid, rfl, z3, p3, uld, ule, rfl, uie⟩
  have f7 : Els kT26 S3 w3 ((vT26 y4.1 ula y4.1.L.length ulc) : List Value) [y4.1] := by exact (Els.cons (K := kT26) (vs := (vT26 y4.1 ula y4.1.L.length ulc)) (x := y4.1) (kT26_close ⟨[.i y4.1.Kind], (U4 y4.1.Set [Sl ula y4.1.L ulc, .i y4.1.Min, .i y4.1.Max]), rfl, rfl, ⟨(U4 y4.1.Set []), [Sl ula y4.1.L ulc, .i y4.1.Min, .i y4.1.Max], rfl, ⟨uld, els_mk4 uld⟩, ⟨[Sl ula y4.1.L ulc], [.i y4.1.Min, .i y4.1.Max], rfl, ⟨_, _, rfl, ule⟩, ⟨[.i y4.1.Min], [.i y4.1.Max], rfl, rfl, rfl⟩⟩⟩⟩) Els.nil)
  refine Om (.buildSlice 25 1 #[(0, 5)]) 6 25 (fun b => .slice (Gp (some b)) 1 1) 27 ((vT26 y4.1 ula y4.1.L.length ulc) : List Value) (1 * kT26.size) p3 Xa fun b6 w4 z4 p4 => ?_
  refine Gn 5 [(3, .slice (Gp (some b6)) 1 1)] Jua ?_
  have p4 : Hp nz wz S3 w4 ((none, .row 27 [] (0 * kT26.size) 0) :: ((some b6), .row 27 ((vT26 y4.1 ula y4.1.L.length ulc) : List Value) (1 * kT26.size) 0) :: (some gx0, .row 135 (vT134 y4.2 uid) 4 0) :: (some b2, .row 27 [.i 0, .u 0, .u 0, .u 0, .u 0, Sn, .i 0, .i 0] 8 0) :: Lr) := p4.nilRow' 27
  have p4 := (((p4.fr 2).fr 2).fr 2).fr 3
  exact Gj 16 [(0, (pt gx0 0)), (2, (pt b2 0)), (3, .slice (Gp (some b6)) 1 1)] (ulz _ _ h gx0 _ _ ((z2.t z3).t z4) _ none 0 0 [] (some b6) _ _ _ _ p4 rfl (Els.nil (K := kT26)) rfl (f7.ext z4) rfl (uie.ext z4))
 ·
  intro uly rec_syntax_parser_sequence ulz ih_syntax_parser_sequence ⟨x2v, x3, e0v⟩ r h nz wz S0 w0 Lr gx0 S1 w1 hx gx2 ulw u55 u56 ulx Gx3 nx3 cx3 u6j ug0 p1 um0 u5j u5k fx3 lx3 ug1 junk
  try dsimp only at h
  subst u5k
  subst lx3
  refine Gn 4 [(7, (pt gx0 0))] (Yt 11100000 B68 [1] Jug) ?_
  have p1 := p1.fr 3
  refine Gb h fun y13 e14 h => ?_
  refine Gc (.call { callee := .value (.func 132), args := #[7, (.const (.int .u8 124))], argTypes := #[132, 5] }) 8 4 132 _ (W.z4d e0v 124 y13 e14 _ _ p1 ug1) ?_
  rintro _ w5 ⟨S5, uiw, rfl, z5, p5, uiy⟩
  refine Gn 1 [] Jug ?_
  refine Gi h (fun h15 h => ?_) fun h15 h => ?_
  ·
   rw [h15]
   refine Gn 6 [(9, Sl (Gp Gx3) x3 cx3), (10, (pt gx0 0))] (Yt 11100010 B68 [2, 3, 4, 5] (Zb 1 Ju9)) ?_
   refine Gb h fun y16 e17 h => ?_
   refine Gc (kc 131 [10] #[132]) 11 27 131 _ (ih_syntax_parser_sequence y13.2 y16 e17 _ _ p5 uiy) ?_
   rintro _ w6 ⟨S6, um1, um2, um3, ujj, rfl, z6, p6, um4, um5, rfl, ujk⟩
   have f19 : Els kT26 S6 w6 ((vT26 y16.1 um1 y16.1.L.length um3) : List Value) [y16.1] := by exact (Els.cons (K := kT26) (vs := (vT26 y16.1 um1 y16.1.L.length um3)) (x := y16.1) (kT26_close ⟨[.i y16.1.Kind], (U4 y16.1.Set [Sl um1 y16.1.L um3, .i y16.1.Min, .i y16.1.Max]), rfl, rfl, ⟨(U4 y16.1.Set []), [Sl um1 y16.1.L um3, .i y16.1.Min, .i y16.1.Max], rfl, ⟨um4, els_mk4 um4⟩, ⟨[Sl um1 y16.1.L um3], [.i y16.1.Min, .i y16.1.Max], rfl, ⟨_, _, rfl, um5⟩, ⟨[.i y16.1.Min], [.i y16.1.Max], rfl, rfl, rfl⟩⟩⟩⟩) Els.nil)
   refine Om (.buildSlice 25 1 #[(0, 11)]) 12 25 (fun b => .slice (Gp (some b)) 1 1) 27 ((vT26 y16.1 um1 y16.1.L.length um3) : List Value) (1 * kT26.size) p6 Xa fun b18 w7 z7 p7 => ?_
   refine Gg h fun g24 h => ?_
   refine On (K := kT26) 25 9 12 13 25 27 4 (.agg #[.i 0, .u 0, .u 0, .u 0, .u 0, Sn, .i 0, .i 0]) 80 x3.length cx3 1 x3 [y16.1] (x3 ++ [y16.1]) (Gp (some b18)) 1 rfl rfl rfl p7 rfl (fx3.ext ((z5.t z6).t z7)) Xa (f19.ext z7) (src_own p7 (q := 0) rfl) g24 fun w8 G25 c26 um6 z8 p8 f28 => ?_
   refine Gn 4 [(3, .slice (Gp G25) ((x3 ++ [y16.1]).length) c26)] Jua ?_
   have p8 := p8.dp 0
   have p8 := (((p8.fr 0).fr 3).fr 3).fr 3
   exact Gj 16 [(0, (pt gx0 0)), (2, (pt gx2 0)), (3, .slice (Gp G25) ((x3 ++ [y16.1]).length) c26)] (ulz _ _ h gx0 _ _ ((((hx.t z5).t z6).t z7).t z8) _ _ _ _ _ _ _ _ _ _ p8 um0 (u5j.ext (((z5.t z6).t z7).t z8)) rfl f28 rfl (ujk.ext (z7.t z8)))
  ·
   have u4w := bf h15
   rw [u4w]
   refine Gn 5 [(14, Sl (Gp Gx3) x3 cx3)] (Yt 11110 B68 [1, 2] Juk) ?_
   obtain ⟨S9, z9, p9, f29⟩ := p5.freezeRd 3 rfl (fx3.ext z5) (by decide)
   refine Gb h fun y30 e31 h => ?_
   refine Gc (.call { callee := .value (.func 133), args := #[(.const (.int .i64 3)), 14], argTypes := #[3, 25] }) 15 27 133 _ (W.z5f 3 x3 y30 e31 _ _ _ p9 f29 rfl) ?_
   rintro _ w10 ⟨S10, um7, um8, um9, rfl, z10, p10, uma, umb, rfl⟩
   have p10 := p10.dp 3
   refine So 27 2 15 0 1 gx2 0 (ag (vT26 y30 um7 y30.L.length um9)) (vT26 y30 um7 y30.L.length um9) p10 rfl Xe fun w11 z11 p11 => ?_
   refine Gn 1 [] Juk ?_
   obtain rfl := sj h
   have p11 := p11.dp 2
   have p11 := (p11.fr 0).fr 1
   exact R1 Tryz.f68 (.cell 2 27) (ag (vT26 y30 um7 y30.L.length um9)) (Rn gx2 (p11.pa 0 0)) ⟨_, _, _, _, _, rfl, ((((hx.t z5).t z9).t z10).t z11), p11.drop, uma, (umb.ext z11), rfl, (uiy.ext ((z9.t z10).t z11))⟩
 ·
  intro umc umd x0v r h nz wz S0 w0 Lr gx0 ug2 p0 ug3
  try dsimp only at h
  refine Zf Tryz.f131 B131 37 ?_
  refine Gj 38 [(0, (pt gx0 0))] fun junk => ?_
  refine Gn 2 [] (Yt 10 B131 [0] (Ys 11 B131 [])) ?_
  refine Oa 27 2 0 (.agg #[.i 0, .u 0, .u 0, .u 0, .u 0, Sn, .i 0, .i 0]) [.i 0, .u 0, .u 0, .u 0, .u 0, Sn, .i 0, .i 0] p0 Xa fun b2 w2 z2 p2 => ?_
  refine Gn 8 [(3, Sn)] Jtz ?_
  have p2 : Hp nz wz S0 w2 ((none, .row 27 [] (0 * kT26.size) 0) :: (some b2, .row 27 [.i 0, .u 0, .u 0, .u 0, .u 0, Sn, .i 0, .i 0] 8 0) :: (some gx0, .row 135 (vT134 x0v ug2) 4 0) :: Lr) := p2.nilRow' 27
  have p2 : Hp nz wz S0 w2 ((none, .row 27 [] (0 * kT26.size) 0) :: (none, .row 27 [] (0 * kT26.size) 0) :: (some b2, .row 27 [.i 0, .u 0, .u 0, .u 0, .u 0, .slice (Gp none) 0 0, .i 0, .i 0] 8 0) :: (some gx0, .row 135 (vT134 x0v ug2) 4 0) :: Lr) := p2.nilRow' 27
  have p2 := (((p2.fr 3).fr 1).fr 2).fr 3
  exact Gj 38 [(0, (pt gx0 0)), (2, (pt b2 0)), (3, .slice (Gp none) 0 0)] (umd _ _ h gx0 _ _ z2 _ none 0 0 [] none 0 0 [] _ p2 rfl (Els.nil (K := kT26)) rfl (Els.nil (K := kT26)) rfl (ug3.ext z2))
 ·
  intro ume umf ⟨x2v, x3, e0v⟩ r h nz wz S0 w0 Lr gx0 S1 w1 hx gx2 ulw u55 u56 ulx Gx3 nx3 cx3 u6j ug0 p1 um0 u5j u5k fx3 lx3 ug1 junk
  try dsimp only at h
  subst u5k
  subst lx3
  refine Gn 2 [] (Ys 11100000 B131 Ju1) ?_
  have z3 : Ext S1 w1 S1 (w1).drew := Xk
  have p3 := p1.draw
  refine Gd [19, 24] (Fc S1 (w1).drew [(⟨gx0, 3, none⟩, ug0), (⟨gx0, 1, none⟩, .i e0v.at_), (⟨gx0, 0, none⟩, .string e0v.s)]) 2 27 ?_
  generalize (w1).drew = w3 at z3 p3 ⊢
  refine Xb 0 (.move 0) 4 132 (pt gx0 0) (p3.k [(3, 3, 1), (3, 1, 1), (3, 0, 1)]) ?_
  refine Xb 1 (.nilCheck 4) 5 0 (pt gx0 0) (p3.k [(3, 3, 1), (3, 1, 1), (3, 0, 1)]) ?_
  refine Xb 2 (.fieldAddr 135 5 3) 6 0 (pt gx0 3) (p3.k [(3, 3, 1), (3, 1, 1), (3, 0, 1)]) ?_
  refine Al 3 133 6 7 133 ⟨gx0, 3, none⟩ (ug0) (p3.k [(3, 3, 1), (3, 1, 1), (3, 0, 1)]) (fun _ h => h.2.at_ 0 rfl) ?_
  refine Gl h fun v24 h9 h => ?_
  rcases v24 with _ | y10
  ·
   try dsimp only at h
   obtain rfl := PtO.nil (ug1.ext z3) h9
   refine Xb 4 (.binOp .eql 133 7 (.const (.pointer none)) 133) 8 4 (.bool true) (p3.k [(3, 3, 1), (3, 1, 1), (3, 0, 1)]) ?_
   refine Xb 5 (.move 8) 9 4 (.bool true) (p3.k [(3, 3, 1), (3, 1, 1), (3, 0, 1)]) ?_
   refine Xb 6 (.move 0) 10 132 (pt gx0 0) (p3.k [(3, 3, 1), (3, 1, 1), (3, 0, 1)]) ?_
   refine Xb 7 (.nilCheck 10) 11 0 (pt gx0 0) (p3.k [(3, 3, 1), (3, 1, 1), (3, 0, 1)]) ?_
   refine Xb 8 (.fieldAddr 135 11 1) 12 0 (pt gx0 1) (p3.k [(3, 3, 1), (3, 1, 1), (3, 0, 1)]) ?_
   refine Al 9 3 12 13 3 ⟨gx0, 1, none⟩ (.i e0v.at_) (p3.k [(3, 3, 1), (3, 1, 1), (3, 0, 1)]) (fun _ h => h.2.at_ 1 rfl) ?_
   refine Xb 10 (.move 0) 14 132 (pt gx0 0) (p3.k [(3, 3, 1), (3, 1, 1), (3, 0, 1)]) ?_
   refine Xb 11 (.nilCheck 14) 15 0 (pt gx0 0) (p3.k [(3, 3, 1), (3, 1, 1), (3, 0, 1)]) ?_
   refine Xb 12 (.fieldAddr 135 15 0) 16 0 (pt gx0 0) (p3.k [(3, 3, 1), (3, 1, 1), (3, 0, 1)]) ?_
   refine Al 13 9 16 17 9 ⟨gx0, 0, none⟩ (.string e0v.s) (p3.k [(3, 3, 1), (3, 1, 1), (3, 0, 1)]) (fun _ h => h.2.at_ 2 rfl) ?_
   refine Xb 14 (.call { callee := .builtin .len, args := #[17], argTypes := #[9] }) 18 3 (.i (e0v.s.size : Int)) (p3.k [(3, 3, 1), (3, 1, 1), (3, 0, 1)]) ?_
   refine Xb 15 (.binOp .lss 3 13 18 3) 19 4 (.bool (decide (e0v.at_ < (e0v.s.size : Int)))) (p3.k [(3, 3, 1), (3, 1, 1), (3, 0, 1)]) ?_
   refine Xb 16 (.pick 9 19 (.const (.bool false))) 20 4 (.bool (decide (e0v.at_ < (e0v.s.size : Int)))) (p3.k [(3, 3, 1), (3, 1, 1), (3, 0, 1)]) ?_
   refine Xb 17 (.move 20) 21 4 (.bool (decide (e0v.at_ < (e0v.s.size : Int)))) (p3.k [(3, 3, 1), (3, 1, 1), (3, 0, 1)]) ?_
   refine Gi h (fun h15 h => ?_) fun h15 h => ?_
   ·
    rw [dt h15]
    refine Xb 18 (.move 0) 22 132 (pt gx0 0) (p3.k [(3, 3, 1), (3, 1, 1), (3, 0, 1)]) ?_
    have p3 := p3.fr 3
    refine Gb h fun y16 e17 h => ?_
    refine Oc (kc 197 [22] #[132]) 23 5 197 #[(pt gx0 0)] (Ac 19) (W.z4a (⟨e0v.s, e0v.at_, e0v.deep, none⟩ : T134) y16 e17 _ (.pointer none) p3 rfl) ?_
    rintro _ w4 ⟨S4, uhy, rfl, z4, p4, ui1⟩
    refine Xi [24] (Fc S4 w4 []) (by decide) ?_
    refine Xb 20 (.binOp .neq 5 23 (.const (.int .u8 124)) 5) 24 4 (.bool (!(decide (y16.1 = 124)))) Fc0 ?_
    refine Xb 21 (.pick 21 24 (.const (.bool false))) 25 4 (.bool (!(decide (y16.1 = 124)))) Fc0 ?_
    refine Xb 22 (.move 25) 26 4 (.bool (!(decide (y16.1 = 124)))) Fc0 ?_
    refine Gi h (fun h18 h => ?_) fun h18 h => ?_
    ·
     rw [dt h18]
     refine Xf 23 27 Fc0 ?_
     refine Ak 24 28 ?_
     refine Xf 25 29 Fc0 ?_
     refine Xb 26 (.pick 26 29 (.const (.bool false))) 30 4 (.bool false) Fc0 ?_
     refine Ad ?_
     have p4 := (((p4.fr 0).fr 3).fr 3).fr 3
     exact Gj 38 [(0, (pt gx0 0)), (2, (pt gx2 0)), (3, Sl (Gp Gx3) x3 cx3), (30, .bool false)] (umf _ _ h gx0 _ _ ((hx.t z3).t z4) _ _ _ _ _ _ _ _ _ _ p4 um0 (u5j.ext (z3.t z4)) rfl (fx3.ext (z3.t z4)) rfl ui1)
    ·
     rw [df h18]
     refine Xb 23 (.move 0) 27 132 (pt gx0 0) Fc0 ?_
     refine Gb h fun y22 e23 h => ?_
     refine Oc (kc 197 [27] #[132]) 28 5 197 #[(pt gx0 0)] (Ac 24) (W.z4a y16.2 y22 e23 _ _ p4 ui1) ?_
     rintro _ w5 ⟨S5, uiw, rfl, z5, p5, uiy⟩
     refine Xi [] (Fc S5 w5 []) (by decide) ?_
     refine Xb 25 (.binOp .neq 5 28 (.const (.int .u8 41)) 5) 29 4 (.bool (!(decide (y22.1 = 41)))) Fc0 ?_
     refine Xb 26 (.pick 26 29 (.const (.bool false))) 30 4 (.bool (!(decide (y22.1 = 41)))) Fc0 ?_
     refine Ad ?_
     have p5 := (((p5.fr 0).fr 3).fr 3).fr 3
     exact Gj 38 [(0, (pt gx0 0)), (2, (pt gx2 0)), (3, Sl (Gp Gx3) x3 cx3), (30, .bool (!(decide (y22.1 = 41))))] (umf _ _ h gx0 _ _ (((hx.t z3).t z4).t z5) _ _ _ _ _ _ _ _ _ _ p5 um0 (u5j.ext ((z3.t z4).t z5)) rfl (fx3.ext ((z3.t z4).t z5)) rfl uiy)
   ·
    rw [df h15]
    refine Xf 18 22 (p3.k [(3, 3, 1), (3, 1, 1), (3, 0, 1)]) ?_
    refine Ak 19 23 ?_
    refine Xf 20 24 (p3.k [(3, 3, 1), (3, 1, 1), (3, 0, 1)]) ?_
    refine Xb 21 (.pick 21 24 (.const (.bool false))) 25 4 (.bool false) (p3.k [(3, 3, 1), (3, 1, 1), (3, 0, 1)]) ?_
    refine Xb 22 (.move 25) 26 4 (.bool false) (p3.k [(3, 3, 1), (3, 1, 1), (3, 0, 1)]) ?_
    refine Xf 23 27 (p3.k [(3, 3, 1), (3, 1, 1), (3, 0, 1)]) ?_
    refine Ak 24 28 ?_
    refine Xf 25 29 (p3.k [(3, 3, 1), (3, 1, 1), (3, 0, 1)]) ?_
    refine Xb 26 (.pick 26 29 (.const (.bool false))) 30 4 (.bool false) (p3.k [(3, 3, 1), (3, 1, 1), (3, 0, 1)]) ?_
    refine Ad ?_
    exact Gj 38 [(0, (pt gx0 0)), (2, (pt gx2 0)), (3, Sl (Gp Gx3) x3 cx3), (30, .bool false)] (umf _ _ h gx0 _ _ (hx.t z3) _ _ _ _ _ _ _ _ _ (.pointer none) p3 um0 (u5j.ext z3) rfl (fx3.ext z3) rfl rfl)
  ·
   try dsimp only at h
   obtain ⟨a12, _, rfl, -, f13, q14⟩ := PtO.got (ug1.ext z3) h9
   obtain rfl := q14
   refine Xb 4 (.binOp .eql 133 7 (.const (.pointer none)) 133) 8 4 (.bool false) (p3.k [(3, 3, 1), (3, 1, 1), (3, 0, 1)]) ?_
   refine Xb 5 (.move 8) 9 4 (.bool false) (p3.k [(3, 3, 1), (3, 1, 1), (3, 0, 1)]) ?_
   refine Xf 6 10 (p3.k [(3, 3, 1), (3, 1, 1), (3, 0, 1)]) ?_
   refine Xf 7 11 (p3.k [(3, 3, 1), (3, 1, 1), (3, 0, 1)]) ?_
   refine Xf 8 12 (p3.k [(3, 3, 1), (3, 1, 1), (3, 0, 1)]) ?_
   refine Xf 9 13 (p3.k [(3, 3, 1), (3, 1, 1), (3, 0, 1)]) ?_
   refine Xf 10 14 (p3.k [(3, 3, 1), (3, 1, 1), (3, 0, 1)]) ?_
   refine Xf 11 15 (p3.k [(3, 3, 1), (3, 1, 1), (3, 0, 1)]) ?_
   refine Xf 12 16 (p3.k [(3, 3, 1), (3, 1, 1), (3, 0, 1)]) ?_
   refine Xf 13 17 (p3.k [(3, 3, 1), (3, 1, 1), (3, 0, 1)]) ?_
   refine Xf 14 18 (p3.k [(3, 3, 1), (3, 1, 1), (3, 0, 1)]) ?_
   refine Xf 15 19 (p3.k [(3, 3, 1), (3, 1, 1), (3, 0, 1)]) ?_
   refine Xb 16 (.pick 9 19 (.const (.bool false))) 20 4 (.bool false) (p3.k [(3, 3, 1), (3, 1, 1), (3, 0, 1)]) ?_
   refine Xb 17 (.move 20) 21 4 (.bool false) (p3.k [(3, 3, 1), (3, 1, 1), (3, 0, 1)]) ?_
   refine Xf 18 22 (p3.k [(3, 3, 1), (3, 1, 1), (3, 0, 1)]) ?_
   refine Ak 19 23 ?_
   refine Xf 20 24 (p3.k [(3, 3, 1), (3, 1, 1), (3, 0, 1)]) ?_
   refine Xb 21 (.pick 21 24 (.const (.bool false))) 25 4 (.bool false) (p3.k [(3, 3, 1), (3, 1, 1), (3, 0, 1)]) ?_
   refine Xb 22 (.move 25) 26 4 (.bool false) (p3.k [(3, 3, 1), (3, 1, 1), (3, 0, 1)]) ?_
   refine Xf 23 27 (p3.k [(3, 3, 1), (3, 1, 1), (3, 0, 1)]) ?_
   refine Ak 24 28 ?_
   refine Xf 25 29 (p3.k [(3, 3, 1), (3, 1, 1), (3, 0, 1)]) ?_
   refine Xb 26 (.pick 26 29 (.const (.bool false))) 30 4 (.bool false) (p3.k [(3, 3, 1), (3, 1, 1), (3, 0, 1)]) ?_
   refine Ad ?_
   exact Gj 38 [(0, (pt gx0 0)), (2, (pt gx2 0)), (3, Sl (Gp Gx3) x3 cx3), (30, .bool false)] (umf _ _ h gx0 _ _ (hx.t z3) _ _ _ _ _ _ _ _ _ _ p3 um0 (u5j.ext z3) rfl (fx3.ext z3) rfl ⟨_, _, rfl, List.cons_ne_nil _ _, f13, rfl⟩)
 ·
  intro umc rec_syntax_parser_piece umd ih_syntax_parser_piece ⟨x2v, x3, x30, e0v⟩ r h nz wz S0 w0 Lr gx0 S1 w1 hx gx2 ulw u55 u56 ulx Gx3 nx3 cx3 u6j ug0 p1 um0 u5j u5k fx3 lx3 ug1 junk
  try dsimp only at h
  subst u5k
  subst lx3
  refine Gi h (fun h25 h => ?_) fun h25 h => ?_
  ·
   rw [h25]
   refine Gn 6 [(31, Sl (Gp Gx3) x3 cx3), (32, (pt gx0 0))] (Yt 11100010 B131 [2, 3, 4, 5] (Zb 1 Jty)) ?_
   have p1 := p1.fr 3
   refine Gb h fun y26 e27 h => ?_
   refine Gc (kc 198 [32] #[132]) 33 27 198 _ (ih_syntax_parser_piece e0v y26 e27 _ _ p1 ug1) ?_
   rintro _ w6 ⟨S6, um1, um2, um3, ujj, rfl, z6, p6, um4, um5, rfl, ujk⟩
   have f29 : Els kT26 S6 w6 ((vT26 y26.1 um1 y26.1.L.length um3) : List Value) [y26.1] := by exact (Els.cons (K := kT26) (vs := (vT26 y26.1 um1 y26.1.L.length um3)) (x := y26.1) (kT26_close ⟨[.i y26.1.Kind], (U4 y26.1.Set [Sl um1 y26.1.L um3, .i y26.1.Min, .i y26.1.Max]), rfl, rfl, ⟨(U4 y26.1.Set []), [Sl um1 y26.1.L um3, .i y26.1.Min, .i y26.1.Max], rfl, ⟨um4, els_mk4 um4⟩, ⟨[Sl um1 y26.1.L um3], [.i y26.1.Min, .i y26.1.Max], rfl, ⟨_, _, rfl, um5⟩, ⟨[.i y26.1.Min], [.i y26.1.Max], rfl, rfl, rfl⟩⟩⟩⟩) Els.nil)
   refine Om (.buildSlice 25 1 #[(0, 33)]) 34 25 (fun b => .slice (Gp (some b)) 1 1) 27 ((vT26 y26.1 um1 y26.1.L.length um3) : List Value) (1 * kT26.size) p6 Xa fun b28 w7 z7 p7 => ?_
   refine Gg h fun g34 h => ?_
   refine On (K := kT26) 25 31 34 35 25 27 4 (.agg #[.i 0, .u 0, .u 0, .u 0, .u 0, Sn, .i 0, .i 0]) 80 x3.length cx3 1 x3 [y26.1] (x3 ++ [y26.1]) (Gp (some b28)) 1 rfl rfl rfl p7 rfl (fx3.ext (z6.t z7)) Xa (f29.ext z7) (src_own p7 (q := 0) rfl) g34 fun w8 G35 c36 umg z8 p8 f38 => ?_
   refine Gn 4 [(3, .slice (Gp G35) ((x3 ++ [y26.1]).length) c36)] Jtz ?_
   have p8 := p8.dp 0
   have p8 := (((p8.fr 0).fr 3).fr 3).fr 3
   exact Gj 38 [(0, (pt gx0 0)), (2, (pt gx2 0)), (3, .slice (Gp G35) ((x3 ++ [y26.1]).length) c36)] (umd _ _ h gx0 _ _ (((hx.t z6).t z7).t z8) _ _ _ _ _ _ _ _ _ _ p8 um0 (u5j.ext ((z6.t z7).t z8)) rfl f38 rfl (ujk.ext (z7.t z8)))
  ·
   rw [bf h25]
   refine Gn 5 [(36, Sl (Gp Gx3) x3 cx3)] (Yt 11110 B131 [1, 2] Jur) ?_
   obtain ⟨S9, z9, p9, f39⟩ := p1.freezeRd 2 rfl fx3 (by decide)
   refine Gb h fun y40 e41 h => ?_
   refine Gc (.call { callee := .value (.func 133), args := #[(.const (.int .i64 2)), 36], argTypes := #[3, 25] }) 37 27 133 _ (W.z5f 2 x3 y40 e41 _ _ _ p9 f39 rfl) ?_
   rintro _ w10 ⟨S10, um7, um8, um9, rfl, z10, p10, uma, umb, rfl⟩
   have p10 := p10.dp 2
   refine So 27 2 37 0 0 gx2 0 (ag (vT26 y40 um7 y40.L.length um9)) (vT26 y40 um7 y40.L.length um9) p10 rfl Xe fun w11 z11 p11 => ?_
   refine Gn 1 [] Jur ?_
   obtain rfl := sj h
   have p11 := p11.dp 1
   exact R1 Tryz.f131 (.cell 2 27) (ag (vT26 y40 um7 y40.L.length um9)) (Rn gx2 (p11.pa 0 0)) ⟨_, _, _, _, _, rfl, (((hx.t z9).t z10).t z11), p11.drop, uma, (umb.ext z11), rfl, (ug1.ext ((z9.t z10).t z11))⟩
 ·
  intro rec_syntax_parser_atom ih_syntax_parser_atom x0v r h nz wz S0 w0 Lr gx0 ug2 p0 ug3
  try dsimp only at h
  refine Zf Tryz.f198 B198 36 ?_
  refine Gj 37 [(0, (pt gx0 0))] fun junk => ?_
  refine Gn 2 [] (Yt 10 B198 [0] (Ys 11 B198 [])) ?_
  refine Oa 27 2 0 (.agg #[.i 0, .u 0, .u 0, .u 0, .u 0, Sn, .i 0, .i 0]) [.i 0, .u 0, .u 0, .u 0, .u 0, Sn, .i 0, .i 0] p0 Xa fun b2 w2 z2 p2 => ?_
  refine Gn 4 [(7, (pt gx0 0))] (Yt 110 B198 [1, 2, 3] (Ys 111 B198 [])) ?_
  have p2 := p2.fr 1
  refine Gb h fun y4 e5 h => ?_
  refine Gc (kc 247 [7] #[132]) 8 27 247 _ (ih_syntax_parser_atom x0v y4 e5 _ _ p2 (ug3.ext z2)) ?_
  rintro _ w3 ⟨S3, ula, ulb, ulc, uid, rfl, z3, p3, uld, ule, rfl, uie⟩
  refine Oa 27 3 0 (.agg #[.i 0, .u 0, .u 0, .u 0, .u 0, Sn, .i 0, .i 0]) [.i 0, .u 0, .u 0, .u 0, .u 0, Sn, .i 0, .i 0] p3 Xa fun b6 w4 z4 p4 => ?_
  refine So 27 3 8 0 0 b6 0 (ag (vT26 y4.1 ula y4.1.L.length ulc)) (vT26 y4.1 ula y4.1.L.length ulc) p4 rfl Xe fun w5 z5 p5 => ?_
  refine Gm 12 [([4, 5], .i 1), ([9, 10], (pt gx0 0)), ([11], (pt gx0 1))] (Yt 111100 B198 [3, 4] (Ys 111101 B198 Jux)) ?_
  refine Xc 3 11 12 3 ⟨gx0, 1, none⟩ (.i y4.2.at_) (p5.c 1 1) ?_
  refine Gn 6 [(6, .i y4.2.at_), (15, (pt gx0 0))] (Yt 11110100 B198 [1, 2] Jv1) ?_
  have p5 := p5.fr 1
  refine Gb h fun y8 e9 h => ?_
  refine Gc (.call { callee := .value (.func 132), args := #[15, (.const (.int .u8 42))], argTypes := #[132, 5] }) 16 4 132 _ (W.z4d y4.2 42 y8 e9 _ _ p5 (uie.ext (z4.t z5))) ?_
  rintro _ w6 ⟨S6, ujj, rfl, z6, p6, ujk⟩
  refine Gn 2 [(14, .bool y8.1)] Jv1 ?_
  refine Gi h (fun h10 h => ?_) fun h10 h => ?_
  ·
   rw [h10]
   refine Gn 8 [(4, .i 0), (5, .i (-1))] Jv4 ?_
   refine Xg 27 3 32 27 ⟨b6, 0, none⟩ (vT26 y4.1 ula y4.1.L.length ulc) (p6.pa 1 0) ?_
   have f12 : Els kT26 S6 w6 ((vT26 y4.1 ula y4.1.L.length ulc) : List Value) [y4.1] := by exact (Els.cons (K := kT26) (vs := (vT26 y4.1 ula y4.1.L.length ulc)) (x := y4.1) (kT26_close ⟨[.i y4.1.Kind], (U4 y4.1.Set [Sl ula y4.1.L ulc, .i y4.1.Min, .i y4.1.Max]), rfl, rfl, ⟨(U4 y4.1.Set []), [Sl ula y4.1.L ulc, .i y4.1.Min, .i y4.1.Max], rfl, ⟨uld, els_mk4 uld⟩, ⟨[Sl ula y4.1.L ulc], [.i y4.1.Min, .i y4.1.Max], rfl, ⟨_, _, rfl, (ule.ext ((z4.t z5).t z6))⟩, ⟨[.i y4.1.Min], [.i y4.1.Max], rfl, rfl, rfl⟩⟩⟩⟩) Els.nil)
   refine Om (.buildSlice 25 1 #[(0, 32)]) 33 25 (fun b => .slice (Gp (some b)) 1 1) 27 ((vT26 y4.1 ula y4.1.L.length ulc) : List Value) (1 * kT26.size) p6 Xa fun b11 w7 z7 p7 => ?_
   refine Gn 3 [(34, .i 0), (35, .i (-1)), (36, .agg #[.i 4, .u 0, .u 0, .u 0, .u 0, .slice (Gp (some b11)) 1 1, .i 0, .i (-1)])] Jv5 ?_
   refine So 27 2 36 0 3 b2 0 (.agg #[.i 4, .u 0, .u 0, .u 0, .u 0, .slice (Gp (some b11)) 1 1, .i 0, .i (-1)]) [.i 4, .u 0, .u 0, .u 0, .u 0, .slice (Gp (some b11)) 1 1, .i 0, .i (-1)] p7 rfl Xe fun w8 z8 p8 => ?_
   refine Gn 1 [] Jv3 ?_
   obtain ⟨S9, z9, p9, f14⟩ := p8.freezeRd 0 rfl (f12.ext (z7.t z8)) (by decide)
   obtain rfl := sj h
   have p9 := (p9.dp 0).dp 1
   have p9 := (p9.fr 0).fr 1
   exact R1 Tryz.f198 (.cell 2 27) (.agg #[.i 4, .u 0, .u 0, .u 0, .u 0, .slice (Gp (some b11)) 1 1, .i 0, .i (-1)]) (Rn b2 (p9.pa 0 0)) ⟨_, _, _, _, _, rfl, (((((((z2.t z3).t z4).t z5).t z6).t z7).t z8).t z9), p9.drop, rfl, f14, rfl, (ujk.ext ((z7.t z8).t z9))⟩
  ·
   rw [bf h10]
   refine Gn 4 [(18, (pt gx0 0))] (Yt 1111010110 B198 [1, 2] Jv6) ?_
   refine Gb h fun y15 e16 h => ?_
   refine Gc (.call { callee := .value (.func 132), args := #[18, (.const (.int .u8 43))], argTypes := #[132, 5] }) 19 4 132 _ (W.z4d y8.2 43 y15 e16 _ _ p6 ujk) ?_
   rintro _ w10 ⟨S10, uih, rfl, z10, p10, uii⟩
   refine Gn 2 [(17, .bool y15.1)] Jv6 ?_
   refine Gi h (fun h17 h => ?_) fun h17 h => ?_
   ·
    rw [h17]
    refine Gn 7 [(5, .i (-1))] Jv4 ?_
    refine Xg 27 3 32 27 ⟨b6, 0, none⟩ (vT26 y4.1 ula y4.1.L.length ulc) (p10.pa 1 0) ?_
    have f19 : Els kT26 S10 w10 ((vT26 y4.1 ula y4.1.L.length ulc) : List Value) [y4.1] := by exact (Els.cons (K := kT26) (vs := (vT26 y4.1 ula y4.1.L.length ulc)) (x := y4.1) (kT26_close ⟨[.i y4.1.Kind], (U4 y4.1.Set [Sl ula y4.1.L ulc, .i y4.1.Min, .i y4.1.Max]), rfl, rfl, ⟨(U4 y4.1.Set []), [Sl ula y4.1.L ulc, .i y4.1.Min, .i y4.1.Max], rfl, ⟨uld, els_mk4 uld⟩, ⟨[Sl ula y4.1.L ulc], [.i y4.1.Min, .i y4.1.Max], rfl, ⟨_, _, rfl, (ule.ext (((z4.t z5).t z6).t z10))⟩, ⟨[.i y4.1.Min], [.i y4.1.Max], rfl, rfl, rfl⟩⟩⟩⟩) Els.nil)
    refine Om (.buildSlice 25 1 #[(0, 32)]) 33 25 (fun b => .slice (Gp (some b)) 1 1) 27 ((vT26 y4.1 ula y4.1.L.length ulc) : List Value) (1 * kT26.size) p10 Xa fun b18 w11 z11 p11 => ?_
    refine Gn 3 [(34, .i 1), (35, .i (-1)), (36, .agg #[.i 4, .u 0, .u 0, .u 0, .u 0, .slice (Gp (some b18)) 1 1, .i 1, .i (-1)])] Jv5 ?_
    refine So 27 2 36 0 3 b2 0 (.agg #[.i 4, .u 0, .u 0, .u 0, .u 0, .slice (Gp (some b18)) 1 1, .i 1, .i (-1)]) [.i 4, .u 0, .u 0, .u 0, .u 0, .slice (Gp (some b18)) 1 1, .i 1, .i (-1)] p11 rfl Xe fun w12 z12 p12 => ?_
    refine Gn 1 [] Jv3 ?_
    obtain ⟨S13, z13, p13, f21⟩ := p12.freezeRd 0 rfl (f19.ext (z11.t z12)) (by decide)
    obtain rfl := sj h
    have p13 := (p13.dp 0).dp 1
    have p13 := (p13.fr 0).fr 1
    exact R1 Tryz.f198 (.cell 2 27) (.agg #[.i 4, .u 0, .u 0, .u 0, .u 0, .slice (Gp (some b18)) 1 1, .i 1, .i (-1)]) (Rn b2 (p13.pa 0 0)) ⟨_, _, _, _, _, rfl, ((((((((z2.t z3).t z4).t z5).t z6).t z10).t z11).t z12).t z13), p13.drop, rfl, f21, rfl, (uii.ext ((z11.t z12).t z13))⟩
   ·
    rw [bf h17]
    refine Gn 4 [(21, (pt gx0 0))] (Yt 111101011110 B198 [1, 2] Jv8) ?_
    refine Gb h fun y22 e23 h => ?_
    refine Gc (.call { callee := .value (.func 132), args := #[21, (.const (.int .u8 63))], argTypes := #[132, 5] }) 22 4 132 _ (W.z4d y15.2 63 y22 e23 _ _ p10 uii) ?_
    rintro _ w14 ⟨S14, umj, rfl, z14, p14, umk⟩
    refine Gn 2 [(20, .bool y22.1)] Jv8 ?_
    refine Gi h (fun h24 h => ?_) fun h24 h => ?_
    ·
     rw [h24]
     refine Gn 7 [(4, .i 0)] Jv4 ?_
     refine Xg 27 3 32 27 ⟨b6, 0, none⟩ (vT26 y4.1 ula y4.1.L.length ulc) (p14.pa 1 0) ?_
     have f26 : Els kT26 S14 w14 ((vT26 y4.1 ula y4.1.L.length ulc) : List Value) [y4.1] := by exact (Els.cons (K := kT26) (vs := (vT26 y4.1 ula y4.1.L.length ulc)) (x := y4.1) (kT26_close ⟨[.i y4.1.Kind], (U4 y4.1.Set [Sl ula y4.1.L ulc, .i y4.1.Min, .i y4.1.Max]), rfl, rfl, ⟨(U4 y4.1.Set []), [Sl ula y4.1.L ulc, .i y4.1.Min, .i y4.1.Max], rfl, ⟨uld, els_mk4 uld⟩, ⟨[Sl ula y4.1.L ulc], [.i y4.1.Min, .i y4.1.Max], rfl, ⟨_, _, rfl, (ule.ext ((((z4.t z5).t z6).t z10).t z14))⟩, ⟨[.i y4.1.Min], [.i y4.1.Max], rfl, rfl, rfl⟩⟩⟩⟩) Els.nil)
     refine Om (.buildSlice 25 1 #[(0, 32)]) 33 25 (fun b => .slice (Gp (some b)) 1 1) 27 ((vT26 y4.1 ula y4.1.L.length ulc) : List Value) (1 * kT26.size) p14 Xa fun b25 w15 z15 p15 => ?_
     refine Gn 3 [(34, .i 0), (35, .i 1), (36, .agg #[.i 4, .u 0, .u 0, .u 0, .u 0, .slice (Gp (some b25)) 1 1, .i 0, .i 1])] Jv5 ?_
     refine So 27 2 36 0 3 b2 0 (.agg #[.i 4, .u 0, .u 0, .u 0, .u 0, .slice (Gp (some b25)) 1 1, .i 0, .i 1]) [.i 4, .u 0, .u 0, .u 0, .u 0, .slice (Gp (some b25)) 1 1, .i 0, .i 1] p15 rfl Xe fun w16 z16 p16 => ?_
     refine Gn 1 [] Jv3 ?_
     obtain ⟨S17, z17, p17, f28⟩ := p16.freezeRd 0 rfl (f26.ext (z15.t z16)) (by decide)
     obtain rfl := sj h
     have p17 := (p17.dp 0).dp 1
     have p17 := (p17.fr 0).fr 1
     exact R1 Tryz.f198 (.cell 2 27) (.agg #[.i 4, .u 0, .u 0, .u 0, .u 0, .slice (Gp (some b25)) 1 1, .i 0, .i 1]) (Rn b2 (p17.pa 0 0)) ⟨_, _, _, _, _, rfl, (((((((((z2.t z3).t z4).t z5).t z6).t z10).t z14).t z15).t z16).t z17), p17.drop, rfl, f28, rfl, (umk.ext ((z15.t z16).t z17))⟩
    ·
     rw [bf h24]
     refine Gn 4 [(24, (pt gx0 0))] (Yt 11110101111110 B198 [1, 2] Jva) ?_
     refine Gb h fun y29 e30 h => ?_
     refine Gc (.call { callee := .value (.func 132), args := #[24, (.const (.int .u8 123))], argTypes := #[132, 5] }) 25 4 132 _ (W.z4d y22.2 123 y29 e30 _ _ p14 umk) ?_
     rintro _ w18 ⟨S18, uml, rfl, z18, p18, umm⟩
     refine Gn 2 [(23, .bool y29.1)] Jva ?_
     refine Gi h (fun h31 h => ?_) fun h31 h => ?_
     ·
      rw [h31]
      refine Gn 4 [(27, (pt gx0 0)), (28, .i y4.2.at_)] (Yt 111101011111110 B198 [2, 3, 4, 5, 6, 7] Jv0) ?_
      refine Gb h fun y32 e33 h => ?_
      refine Gc (kc 248 [27, 28] #[132, 3]) 29 128 248 _ (W.z5c y29.2 y4.2.at_ y32 e33 _ _ p18 umm) ?_
      rintro _ w19 ⟨S19, uje, rfl, z19, p19, ujh⟩
      refine Gm 9 [([26], .tuple #[.i y32.1, .i y32.2.1]), ([30, 4], .i y32.1), ([31, 5], .i y32.2.1)] Jv4 ?_
      refine Xg 27 3 32 27 ⟨b6, 0, none⟩ (vT26 y4.1 ula y4.1.L.length ulc) (p19.pa 1 0) ?_
      have f35 : Els kT26 S19 w19 ((vT26 y4.1 ula y4.1.L.length ulc) : List Value) [y4.1] := by exact (Els.cons (K := kT26) (vs := (vT26 y4.1 ula y4.1.L.length ulc)) (x := y4.1) (kT26_close ⟨[.i y4.1.Kind], (U4 y4.1.Set [Sl ula y4.1.L ulc, .i y4.1.Min, .i y4.1.Max]), rfl, rfl, ⟨(U4 y4.1.Set []), [Sl ula y4.1.L ulc, .i y4.1.Min, .i y4.1.Max], rfl, ⟨uld, els_mk4 uld⟩, ⟨[Sl ula y4.1.L ulc], [.i y4.1.Min, .i y4.1.Max], rfl, ⟨_, _, rfl, (ule.ext ((((((z4.t z5).t z6).t z10).t z14).t z18).t z19))⟩, ⟨[.i y4.1.Min], [.i y4.1.Max], rfl, rfl, rfl⟩⟩⟩⟩) Els.nil)
      refine Om (.buildSlice 25 1 #[(0, 32)]) 33 25 (fun b => .slice (Gp (some b)) 1 1) 27 ((vT26 y4.1 ula y4.1.L.length ulc) : List Value) (1 * kT26.size) p19 Xa fun b34 w20 z20 p20 => ?_
      refine Gn 3 [(34, .i y32.1), (35, .i y32.2.1), (36, .agg #[.i 4, .u 0, .u 0, .u 0, .u 0, .slice (Gp (some b34)) 1 1, .i y32.1, .i y32.2.1])] Jv5 ?_
      refine So 27 2 36 0 3 b2 0 (.agg #[.i 4, .u 0, .u 0, .u 0, .u 0, .slice (Gp (some b34)) 1 1, .i y32.1, .i y32.2.1]) [.i 4, .u 0, .u 0, .u 0, .u 0, .slice (Gp (some b34)) 1 1, .i y32.1, .i y32.2.1] p20 rfl Xe fun w21 z21 p21 => ?_
      refine Gn 1 [] Jv3 ?_
      obtain ⟨S22, z22, p22, f37⟩ := p21.freezeRd 0 rfl (f35.ext (z20.t z21)) (by decide)
      obtain rfl := sj h
      have p22 := (p22.dp 0).dp 1
      have p22 := (p22.fr 0).fr 1
      exact R1 Tryz.f198 (.cell 2 27) (.agg #[.i 4, .u 0, .u 0, .u 0, .u 0, .slice (Gp (some b34)) 1 1, .i y32.1, .i y32.2.1]) (Rn b2 (p22.pa 0 0)) ⟨_, _, _, _, _, rfl, (((((((((((z2.t z3).t z4).t z5).t z6).t z10).t z14).t z18).t z19).t z20).t z21).t z22), p22.drop, rfl, f37, rfl, (ujh.ext ((z20.t z21).t z22))⟩
     ·
      rw [bf h31]
      refine Gn 3 [] (Yt 1111010111111110 B198 [0, 1] Jvd) ?_
      refine Xg 27 3 13 27 ⟨b6, 0, none⟩ (vT26 y4.1 ula y4.1.L.length ulc) (p18.pa 1 0) ?_
      refine So 27 2 13 0 2 b2 0 (ag (vT26 y4.1 ula y4.1.L.length ulc)) (vT26 y4.1 ula y4.1.L.length ulc) p18 rfl Xe fun w23 z23 p23 => ?_
      refine Gn 1 [] Jvd ?_
      obtain rfl := sj h
      have p23 := p23.dp 1
      have p23 := (p23.fr 0).fr 1
      exact R1 Tryz.f198 (.cell 2 27) (ag (vT26 y4.1 ula y4.1.L.length ulc)) (Rn b2 (p23.pa 0 0)) ⟨_, _, _, _, _, rfl, ((((((((z2.t z3).t z4).t z5).t z6).t z10).t z14).t z18).t z23), p23.drop, uld, (ule.ext ((((((z4.t z5).t z6).t z10).t z14).t z18).t z23)), rfl, (umm.ext z23)⟩
 ·
  intro umo ump x0v r h nz wz S0 w0 Lr gx0 ug2 p0 ug3
  try dsimp only at h
  refine Zf Tryz.f247 B247 72 ?_
  refine Gj 73 [(0, (pt gx0 0))] fun junk => ?_
  refine Gn 2 [] (Yt 10 B247 [0] (Ys 11 B247 [])) ?_
  refine Oa 27 2 0 (.agg #[.i 0, .u 0, .u 0, .u 0, .u 0, Sn, .i 0, .i 0]) [.i 0, .u 0, .u 0, .u 0, .u 0, Sn, .i 0, .i 0] p0 Xa fun b2 w2 z2 p2 => ?_
  refine Gn 4 [(4, (pt gx0 0))] (Yt 110 B247 [1, 2] (Ys 111 B247 [])) ?_
  have p2 := p2.fr 1
  refine Gb h fun y4 e5 h => ?_
  refine Gc (kc 197 [4] #[132]) 5 5 197 _ (W.z4a x0v y4 e5 _ _ p2 (ug3.ext z2)) ?_
  rintro _ w3 ⟨S3, uid, rfl, z3, p3, uie⟩
  refine Gm 9 [([3, 7], .int .u8 y4.1), ([8, 9], .bool (decide (y4.1 < 32)))] (Zr Qp2 [3, 4, 5, 6, 7, 8, 9, 10, 11] Ju4) ?_
  refine Gi h (fun h6 h => ?_) fun h6 h => ?_
  ·
   rw [dt h6]
   refine Gm 10 [([10, 11, 14, 15, 16], undef), ([12, 13, 17, 6], .bool true)] Ju4 ?_
   have p3 : Hp nz wz S3 w3 ((none, .row 27 [] (0 * kT26.size) 0) :: (some gx0, .row 135 (vT134 y4.2 uid) 4 0) :: (some b2, .row 27 [.i 0, .u 0, .u 0, .u 0, .u 0, Sn, .i 0, .i 0] 8 0) :: Lr) := p3.nilRow' 27
   have p3 := ((p3.fr 1).fr 1).fr 2
   exact Gj 73 [(0, (pt gx0 0)), (2, (pt b2 0)), (3, .int .u8 y4.1), (6, .bool true)] (ump _ _ h gx0 _ _ (z2.t z3) _ none 0 0 [] _ p3 rfl (Els.nil (K := kT26)) rfl uie)
  ·
   rw [df h6]
   refine Gm 4 [([10], .int .u8 y4.1), ([11, 12, 13], .bool (decide (y4.1 > 126)))] (Zr Qp2 [7, 8, 9, 10, 11] Ju4) ?_
   refine Gi h (fun h10 h => ?_) fun h10 h => ?_
   ·
    rw [dt h10]
    refine Gm 6 [([14, 15, 16], undef), ([17, 6], .bool true)] Ju4 ?_
    have p3 : Hp nz wz S3 w3 ((none, .row 27 [] (0 * kT26.size) 0) :: (some gx0, .row 135 (vT134 y4.2 uid) 4 0) :: (some b2, .row 27 [.i 0, .u 0, .u 0, .u 0, .u 0, Sn, .i 0, .i 0] 8 0) :: Lr) := p3.nilRow' 27
    have p3 := ((p3.fr 1).fr 1).fr 2
    exact Gj 73 [(0, (pt gx0 0)), (2, (pt b2 0)), (3, .int .u8 y4.1), (6, .bool true)] (ump _ _ h gx0 _ _ (z2.t z3) _ none 0 0 [] _ p3 rfl (Els.nil (K := kT26)) rfl uie)
   ·
    rw [df h10]
    refine Gn 1 [(14, .int .u8 y4.1)] (Zr Qp2 [8, 9, 10, 11] Ju4) ?_
    refine Gb h fun y12 e13 h => ?_
    refine Gc (.call { callee := .value (.func 134), args := #[(.const (.string ⟨#[93, 41, 42, 43, 63, 123, 125, 94, 36, 124]⟩)), 14], argTypes := #[9, 5] }) 15 3 134 _ (W.z4s (⟨#[93, 41, 42, 43, 63, 123, 125, 94, 36, 124]⟩ : ByteArray) y4.1 y12 e13  p3 ) ?_
    rintro _ w4 ⟨S4, rfl, z4, p4⟩
    refine Gm 4 [([16, 17, 6], .bool (decide (y12 ≥ 0)))] Ju4 ?_
    have p4 : Hp nz wz S4 w4 ((none, .row 27 [] (0 * kT26.size) 0) :: (some gx0, .row 135 (vT134 y4.2 uid) 4 0) :: (some b2, .row 27 [.i 0, .u 0, .u 0, .u 0, .u 0, Sn, .i 0, .i 0] 8 0) :: Lr) := p4.nilRow' 27
    have p4 := ((p4.fr 1).fr 1).fr 2
    exact Gj 73 [(0, (pt gx0 0)), (2, (pt b2 0)), (3, .int .u8 y4.1), (6, .bool (decide (y12 ≥ 0)))] (ump _ _ h gx0 _ _ ((z2.t z3).t z4) _ none 0 0 [] _ p4 rfl (Els.nil (K := kT26)) rfl (uie.ext z4))
 ·
  intro umq umr ⟨x2v, x3, x6, e0v⟩ r h nz wz S0 w0 Lr gx0 S1 w1 hx gx2 ulw u55 u56 ulx ug0 p1 um0 u5j u5k ug1 junk
  try dsimp only at h
  subst u5k
  refine Gi h (fun h15 h => ?_) fun h15 h => ?_
  ·
   rw [h15]
   refine Gm 7 [([18, 19, 20], (pt gx0 0)), ([21], (pt gx0 1))] (Yt 11100100 B247 [4, 5, 6] Jvm) ?_
   refine Xc 3 21 22 3 ⟨gx0, 1, none⟩ (.i e0v.at_) (p1.c 2 1) ?_
   have p1 := p1.fr 2
   refine Gb h fun y16 e17 h => ?_
   refine Gc (kc 69 [18, 22] #[132, 3]) 23 27 69 _ (W.z4c e0v e0v.at_ y16 e17 _ _ p1 ug1) ?_
   rintro _ w5 ⟨S5, ums, umt, umu, uiw, rfl, z5, p5, umv, umw, rfl, uiy⟩
   refine So 27 2 23 0 1 gx2 0 (ag (vT26 y16.1 ums y16.1.L.length umu)) (vT26 y16.1 ums y16.1.L.length umu) p5 rfl Xe fun w6 z6 p6 => ?_
   refine Gn 1 [] Jvm ?_
   obtain rfl := sj h
   have p6 := p6.dp 2
   have p6 := (p6.fr 0).fr 1
   exact R1 Tryz.f247 (.cell 2 27) (ag (vT26 y16.1 ums y16.1.L.length umu)) (Rn gx2 (p6.pa 0 0)) ⟨_, _, _, _, _, rfl, ((hx.t z5).t z6), p6.drop, umv, (umw.ext z6), rfl, (uiy.ext z6)⟩
  ·
   have u4w := bf h15
   rw [u4w]
   refine Gm 6 [([25], .int .u8 x3), ([26, 27], .bool (decide (x3 = 40)))] (Zr Qp5 [3, 4, 5, 6, 7, 8, 9] Ju5) ?_
   refine Gi h (fun h18 h => ?_) fun h18 h => ?_
   ·
    rw [dt h18]
    refine Gm 3 [([28, 29], (pt gx0 0)), ([30], (pt gx0 2))] (Zr Qp5 [6, 7, 8, 9] Ju5) ?_
    refine Xc 3 30 31 3 ⟨gx0, 2, none⟩ (.i e0v.deep) (p1.c 2 2) ?_
    refine Gm 4 [([32, 33, 24], .bool (decide (e0v.deep = 32)))] Ju5 ?_
    exact Gj 73 [(0, (pt gx0 0)), (2, (pt gx2 0)), (3, .int .u8 x3), (24, .bool (decide (e0v.deep = 32)))] (umr _ _ h gx0 _ _ hx _ _ _ _ _ _ p1 um0 u5j rfl ug1)
   ·
    rw [df h18]
    refine Gm 8 [([28, 29, 30, 31, 32], undef), ([33, 24], .bool false)] Ju5 ?_
    exact Gj 73 [(0, (pt gx0 0)), (2, (pt gx2 0)), (3, .int .u8 x3), (24, .bool false)] (umr _ _ h gx0 _ _ hx _ _ _ _ _ _ p1 um0 u5j rfl ug1)
 ·
  intro rec_syntax_parser_group ih_syntax_parser_group ⟨x2v, x3, x24, e0v⟩ r h nz wz S0 w0 Lr gx0 S1 w1 hx gx2 ulw u55 u56 ulx ug0 p1 um0 u5j u5k ug1 junk
  try dsimp only at h
  subst u5k
  refine Gi h (fun h21 h => ?_) fun h21 h => ?_
  ·
   rw [h21]
   refine Gm 7 [([34, 35, 36], (pt gx0 0)), ([37], (pt gx0 1))] (Yt 1110011100 B247 [4, 5, 6] Jvq) ?_
   refine Xc 3 37 38 3 ⟨gx0, 1, none⟩ (.i e0v.at_) (p1.c 2 1) ?_
   have p1 := p1.fr 2
   refine Gb h fun y22 e23 h => ?_
   refine Gc (kc 69 [34, 38] #[132, 3]) 39 27 69 _ (W.z4c e0v e0v.at_ y22 e23 _ _ p1 ug1) ?_
   rintro _ w7 ⟨S7, ulq, u5s, u5t, ulk, rfl, z7, p7, ulr, u5v, rfl, ull⟩
   refine So 27 2 39 0 1 gx2 0 (ag (vT26 y22.1 ulq y22.1.L.length u5t)) (vT26 y22.1 ulq y22.1.L.length u5t) p7 rfl Xe fun w8 z8 p8 => ?_
   refine Gn 1 [] Jvq ?_
   obtain rfl := sj h
   have p8 := p8.dp 2
   have p8 := (p8.fr 0).fr 1
   exact R1 Tryz.f247 (.cell 2 27) (ag (vT26 y22.1 ulq y22.1.L.length u5t)) (Rn gx2 (p8.pa 0 0)) ⟨_, _, _, _, _, rfl, ((hx.t z7).t z8), p8.drop, ulr, (u5v.ext z8), rfl, (ull.ext z8)⟩
  ·
   rw [bf h21]
   refine Gn 4 [(41, (pt gx0 0))] (Yt 1110011110 B247 [1, 2] Jvs) ?_
   have p1 := p1.fr 2
   refine Gb h fun y24 e25 h => ?_
   refine Gc (.call { callee := .value (.func 132), args := #[41, (.const (.int .u8 46))], argTypes := #[132, 5] }) 42 4 132 _ (W.z4d e0v 46 y24 e25 _ _ p1 ug1) ?_
   rintro _ w9 ⟨S9, ult, rfl, z9, p9, ulv⟩
   refine Gn 2 [(40, .bool y24.1)] Jvs ?_
   refine Gi h (fun h26 h => ?_) fun h26 h => ?_
   ·
    rw [h26]
    refine Gn 3 [] (Zr Qpb [0, 1, 2, 3] Jvu) ?_
    refine Gb h fun y27 e28 h => ?_
    refine Gc (.call { callee := .value (.func 274), args := #[(.const (.int .u8 10))], argTypes := #[5] }) 43 24 274 _ (W.z4f 10 y27 e28  p9 ) ?_
    rintro _ w10 ⟨S10, ugx, rfl, z10, p10, ugy, ugz⟩
    refine Gb h fun y29 e30 h => ?_
    refine Gc (kc 273 [43] #[24]) 44 24 273 _ (W.z4g y27 y29 e30 _ p10 ugy ugz) ?_
    rintro _ w11 ⟨S11, umx, rfl, z11, p11, umy, umz⟩
    have l31 := Xm umy umz rfl
    obtain rfl := els_lit4 umy umz
    refine Gn 1 [(45, (ag (.i 1 :: U4 y29 [Sn, .i 0, .i 0])))] (Zr Qpb [3] Jvu) ?_
    refine So 27 2 45 0 1 gx2 0 (ag (.i 1 :: U4 y29 [Sn, .i 0, .i 0])) (.i 1 :: U4 y29 [Sn, .i 0, .i 0]) p11 rfl Xe fun w12 z12 p12 => ?_
    refine Gn 1 [] Jvu ?_
    obtain rfl := sj h
    have p12 := p12.dp 2
    have p12 := (p12.fr 0).fr 1
    exact R1 Tryz.f247 (.cell 2 27) (ag (.i 1 :: U4 y29 [Sn, .i 0, .i 0])) (Rn gx2 (p12.pa 0 0)) ⟨_, _, _, _, _, rfl, ((((hx.t z9).t z10).t z11).t z12), p12.drop, l31, Xr, rfl, (ulv.ext ((z10.t z11).t z12))⟩
   ·
    rw [bf h26]
    refine Gn 4 [(47, (pt gx0 0))] (Yt 111001111110 B247 [1, 2] Jvx) ?_
    refine Gb h fun y32 e33 h => ?_
    refine Gc (.call { callee := .value (.func 132), args := #[47, (.const (.int .u8 91))], argTypes := #[132, 5] }) 48 4 132 _ (W.z4d y24.2 91 y32 e33 _ _ p9 ulv) ?_
    rintro _ w13 ⟨S13, un1, rfl, z13, p13, un2⟩
    refine Gn 2 [(46, .bool y32.1)] Jvx ?_
    refine Gi h (fun h34 h => ?_) fun h34 h => ?_
    ·
     rw [h34]
     refine Gn 4 [(49, (pt gx0 0))] (Yt 11100111111100 B247 [1, 2] Jvz) ?_
     refine Gb h fun y35 e36 h => ?_
     refine Gc (kc 275 [49] #[132]) 50 27 275 _ (W.z57 y32.2 y35 e36 _ _ p13 un2) ?_
     rintro _ w14 ⟨S14, un3, un4, un5, umj, rfl, z14, p14, un6, un7, rfl, umk⟩
     refine So 27 2 50 0 1 gx2 0 (ag (vT26 y35.1 un3 y35.1.L.length un5)) (vT26 y35.1 un3 y35.1.L.length un5) p14 rfl Xe fun w15 z15 p15 => ?_
     refine Gn 1 [] Jvz ?_
     obtain rfl := sj h
     have p15 := p15.dp 2
     have p15 := (p15.fr 0).fr 1
     exact R1 Tryz.f247 (.cell 2 27) (ag (vT26 y35.1 un3 y35.1.L.length un5)) (Rn gx2 (p15.pa 0 0)) ⟨_, _, _, _, _, rfl, ((((hx.t z9).t z13).t z14).t z15), p15.drop, un6, (un7.ext z15), rfl, (umk.ext z15)⟩
    ·
     rw [bf h34]
     refine Gn 4 [(52, (pt gx0 0))] (Yt 11100111111110 B247 [1, 2] Jw1) ?_
     refine Gb h fun y37 e38 h => ?_
     refine Gc (.call { callee := .value (.func 132), args := #[52, (.const (.int .u8 40))], argTypes := #[132, 5] }) 53 4 132 _ (W.z4d y32.2 40 y37 e38 _ _ p13 un2) ?_
     rintro _ w16 ⟨S16, un8, rfl, z16, p16, un9⟩
     refine Gn 2 [(51, .bool y37.1)] Jw1 ?_
     refine Gi h (fun h39 h => ?_) fun h39 h => ?_
     ·
      rw [h39]
      refine Gn 4 [(54, (pt gx0 0))] (Yt 1110011111111100 B247 [1, 2] Jw3) ?_
      refine Gb h fun y40 e41 h => ?_
      refine Gc (kc 276 [54] #[132]) 55 27 276 _ (ih_syntax_parser_group y37.2 y40 e41 _ _ p16 un9) ?_
      rintro _ w17 ⟨S17, una, unb, unc, und, rfl, z17, p17, une, unf, rfl, ung⟩
      refine So 27 2 55 0 1 gx2 0 (ag (vT26 y40.1 una y40.1.L.length unc)) (vT26 y40.1 una y40.1.L.length unc) p17 rfl Xe fun w18 z18 p18 => ?_
      refine Gn 1 [] Jw3 ?_
      obtain rfl := sj h
      have p18 := p18.dp 2
      have p18 := (p18.fr 0).fr 1
      exact R1 Tryz.f247 (.cell 2 27) (ag (vT26 y40.1 una y40.1.L.length unc)) (Rn gx2 (p18.pa 0 0)) ⟨_, _, _, _, _, rfl, (((((hx.t z9).t z13).t z16).t z17).t z18), p18.drop, une, (unf.ext z18), rfl, (ung.ext z18)⟩
     ·
      rw [bf h39]
      refine Gn 4 [(57, (pt gx0 0))] (Yt 1110011111111110 B247 [1, 2] Jw5) ?_
      refine Gb h fun y42 e43 h => ?_
      refine Gc (.call { callee := .value (.func 132), args := #[57, (.const (.int .u8 92))], argTypes := #[132, 5] }) 58 4 132 _ (W.z4d y37.2 92 y42 e43 _ _ p16 un9) ?_
      rintro _ w19 ⟨S19, uje, rfl, z19, p19, ujh⟩
      refine Gn 2 [(56, .bool y42.1)] Jw5 ?_
      refine Gi h (fun h44 h => ?_) fun h44 h => ?_
      ·
       rw [h44]
       refine Gn 4 [(59, (pt gx0 0))] (Zr Qpn [1, 2, 3, 4] Jw7) ?_
       refine Gb h fun y45 e46 h => ?_
       refine Gc (kc 277 [59] #[132]) 60 371 277 _ (W.z4w y42.2 y45 e46 _ _ p19 ujh) ?_
       rintro _ w20 ⟨S20, uni, rfl, z20, p20, unj, unk⟩
       refine Gn 2 [(61, (ag (U4 y45.1.set_ []))), (62, (ag (.i 1 :: U4 y45.1.set_ [Sn, .i 0, .i 0])))] (Zr Qpn [4] Jw7) ?_
       refine So 27 2 62 0 1 gx2 0 (ag (.i 1 :: U4 y45.1.set_ [Sn, .i 0, .i 0])) (.i 1 :: U4 y45.1.set_ [Sn, .i 0, .i 0]) p20 rfl Xe fun w21 z21 p21 => ?_
       refine Gn 1 [] Jw7 ?_
       obtain rfl := sj h
       have p21 := p21.dp 2
       have p21 := (p21.fr 0).fr 1
       exact R1 Tryz.f247 (.cell 2 27) (ag (.i 1 :: U4 y45.1.set_ [Sn, .i 0, .i 0])) (Rn gx2 (p21.pa 0 0)) ⟨_, _, _, _, _, rfl, ((((((hx.t z9).t z13).t z16).t z19).t z20).t z21), p21.drop, unj, Xr, rfl, (unk.ext z21)⟩
      ·
       rw [bf h44]
       refine Gm 8 [([63, 64], (pt gx0 0)), ([65], (pt gx0 1))] (Zr Qpp [3, 4, 5, 6, 7] Jwa) ?_
       refine Xc 3 65 66 3 ⟨gx0, 1, none⟩ (.i y42.2.at_) (p19.c 0 1) ?_
       refine Gn 3 [(67, .i (wr .i64 (y42.2.at_ + 1))), (68, (pt gx0 0)), (69, (pt gx0 1))] (Zr Qpp [7] Jwa) ?_
       refine So 3 69 67 0 0 gx0 1 (.i (wr .i64 (y42.2.at_ + 1))) [.i (wr .i64 (y42.2.at_ + 1))] p19 rfl Xe fun w22 z22 p22 => ?_
       refine Gn 4 [(70, .int .u8 x3)] (Zr Qpr [1, 2, 3] Jwd) ?_
       refine Gb h fun y47 e48 h => ?_
       refine Gc (kc 274 [70] #[5]) 71 24 274 _ (W.z4f x3 y47 e48  p22 ) ?_
       rintro _ w23 ⟨S23, uh7, rfl, z23, p23, uh8, uh9⟩
       have l49 := Xm uh8 uh9 rfl
       obtain rfl := els_lit4 uh8 uh9
       refine Gn 1 [(72, (ag (.i 1 :: U4 y47 [Sn, .i 0, .i 0])))] (Zr Qpr [3] Jwd) ?_
       refine So 27 2 72 0 1 gx2 0 (ag (.i 1 :: U4 y47 [Sn, .i 0, .i 0])) (.i 1 :: U4 y47 [Sn, .i 0, .i 0]) p23 rfl Xe fun w24 z24 p24 => ?_
       refine Gn 1 [] Jwd ?_
       obtain rfl := sj h
       have p24 := p24.dp 2
       have p24 := (p24.fr 0).fr 1
       exact R1 Tryz.f247 (.cell 2 27) (ag (.i 1 :: U4 y47 [Sn, .i 0, .i 0])) (Rn gx2 (p24.pa 0 0)) ⟨_, _, _, _, _, rfl, (((((((hx.t z9).t z13).t z16).t z19).t z22).t z23).t z24), p24.drop, l49, Xr, rfl, (ujh.ext ((z22.t z23).t z24))⟩
 ·
  intro unm unn x0v r h nz wz S0 w0 Lr gx0 ug2 p0 ug3
  try dsimp only at h
  refine Zf Tryz.f276 B276 26 ?_
  refine Gj 27 [(0, (pt gx0 0))] fun junk => ?_
  refine Gn 2 [] (Yt 10 B276 [0] (Ys 11 B276 [])) ?_
  refine Oa 27 2 0 (.agg #[.i 0, .u 0, .u 0, .u 0, .u 0, Sn, .i 0, .i 0]) [.i 0, .u 0, .u 0, .u 0, .u 0, Sn, .i 0, .i 0] p0 Xa fun b2 w2 z2 p2 => ?_
  refine Gn 5 [(4, (pt gx0 0))] (Yt 1100 B276 [1] Jwi) ?_
  have p2 := p2.fr 1
  refine Gb h fun y4 e5 h => ?_
  refine Gc (.call { callee := .value (.func 132), args := #[4, (.const (.int .u8 63))], argTypes := #[132, 5] }) 5 4 132 _ (W.z4d x0v 63 y4 e5 _ _ p2 (ug3.ext z2)) ?_
  rintro _ w3 ⟨S3, uid, rfl, z3, p3, uie⟩
  refine Gn 1 [] Jwi ?_
  refine Gi h (fun h6 h => ?_) fun h6 h => ?_
  ·
   rw [h6]
   refine Gn 3 [(6, (pt gx0 0))] (Yt 11010 B276 [1] Ju6) ?_
   refine Gb h fun y7 e8 h => ?_
   refine Gc (.call { callee := .value (.func 279), args := #[6, (.const (.int .u8 58))], argTypes := #[132, 5] }) 7 0 279 _ (W.z58 y4.2 58 y7 e8 _ _ p3 uie) ?_
   rintro _ w4 ⟨S4, uhy, rfl, z4, p4, ui1⟩
   refine Gn 1 [] Ju6 ?_
   have p4 : Hp nz wz S4 w4 ((none, .row 27 [] (0 * kT26.size) 0) :: (some gx0, .row 135 (vT134 y7 uhy) 4 0) :: (some b2, .row 27 [.i 0, .u 0, .u 0, .u 0, .u 0, Sn, .i 0, .i 0] 8 0) :: Lr) := p4.nilRow' 27
   have p4 := ((p4.fr 1).fr 1).fr 2
   exact Gj 27 [(0, (pt gx0 0)), (2, (pt b2 0))] (unn _ _ h gx0 _ _ ((z2.t z3).t z4) _ none 0 0 [] _ p4 rfl (Els.nil (K := kT26)) rfl ui1)
  ·
   rw [bf h6]
   refine Gn 2 [] Ju6 ?_
   have p3 : Hp nz wz S3 w3 ((none, .row 27 [] (0 * kT26.size) 0) :: (some gx0, .row 135 (vT134 y4.2 uid) 4 0) :: (some b2, .row 27 [.i 0, .u 0, .u 0, .u 0, .u 0, Sn, .i 0, .i 0] 8 0) :: Lr) := p3.nilRow' 27
   have p3 := ((p3.fr 1).fr 1).fr 2
   exact Gj 27 [(0, (pt gx0 0)), (2, (pt b2 0))] (unn _ _ h gx0 _ _ (z2.t z3) _ none 0 0 [] _ p3 rfl (Els.nil (K := kT26)) rfl uie)
 ·
  intro rec_syntax_parser_alternation ih_syntax_parser_alternation ⟨x2v, e0v⟩ r h nz wz S0 w0 Lr gx0 S1 w1 hx gx2 ulw u55 u56 ulx ug0 p1 um0 u5j u5k ug1 junk
  try dsimp only at h
  subst u5k
  refine Gm 5 [([8, 9], (pt gx0 0)), ([10], (pt gx0 2))] (Zr Qpy [3, 4, 5, 6, 7] Jwl) ?_
  refine Xc 3 10 11 3 ⟨gx0, 2, none⟩ (.i e0v.deep) (p1.c 2 2) ?_
  refine Gn 3 [(12, .i (wr .i64 (e0v.deep + 1))), (13, (pt gx0 0)), (14, (pt gx0 2))] (Zr Qpy [7] Jwl) ?_
  refine So 3 14 12 0 2 gx0 2 (.i (wr .i64 (e0v.deep + 1))) [.i (wr .i64 (e0v.deep + 1))] p1 rfl Xe fun w5 z5 p5 => ?_
  refine Gn 4 [(15, (pt gx0 0))] (Yt 11110 B276 [1, 2, 3] (Ys 11111 B276 [])) ?_
  have p5 := p5.fr 2
  refine Gb h fun y13 e14 h => ?_
  refine Gc (kc 68 [15] #[132]) 16 27 68 _ (ih_syntax_parser_alternation (⟨e0v.s, e0v.at_, wr .i64 (e0v.deep + 1), e0v.bad⟩ : T134) y13 e14 _ _ p5 (ug1.ext z5)) ?_
  rintro _ w6 ⟨S6, um1, um2, um3, ujj, rfl, z6, p6, um4, um5, rfl, ujk⟩
  refine Oa 27 3 0 (.agg #[.i 0, .u 0, .u 0, .u 0, .u 0, Sn, .i 0, .i 0]) [.i 0, .u 0, .u 0, .u 0, .u 0, Sn, .i 0, .i 0] p6 Xa fun b15 w7 z7 p7 => ?_
  refine So 27 3 16 0 0 b15 0 (ag (vT26 y13.1 um1 y13.1.L.length um3)) (vT26 y13.1 um1 y13.1.L.length um3) p7 rfl Xe fun w8 z8 p8 => ?_
  refine Gm 6 [([17, 18], (pt gx0 0)), ([19], (pt gx0 2))] (Zr Qq2 [3, 4, 5, 6, 7] Jwq) ?_
  refine Xc 3 19 20 3 ⟨gx0, 2, none⟩ (.i y13.2.deep) (p8.c 1 2) ?_
  refine Gn 3 [(21, .i (wr .i64 (y13.2.deep - 1))), (22, (pt gx0 0)), (23, (pt gx0 2))] (Zr Qq2 [7] Jwq) ?_
  refine So 3 23 21 0 1 gx0 2 (.i (wr .i64 (y13.2.deep - 1))) [.i (wr .i64 (y13.2.deep - 1))] p8 rfl Xe fun w9 z9 p9 => ?_
  refine Gn 4 [(24, (pt gx0 0))] (Yt 1111110 B276 [1] (Ys 1111111 B276 [])) ?_
  have p9 := p9.fr 1
  refine Gb h fun y17 e18 h => ?_
  refine Gc (.call { callee := .value (.func 279), args := #[24, (.const (.int .u8 41))], argTypes := #[132, 5] }) 25 0 279 _ (W.z58 (⟨y13.2.s, y13.2.at_, wr .i64 (y13.2.deep - 1), y13.2.bad⟩ : T134) 41 y17 e18 _ _ p9 (ujk.ext ((z7.t z8).t z9))) ?_
  rintro _ w10 ⟨S10, uih, rfl, z10, p10, uii⟩
  refine Gn 3 [] (Yt 11111110 B276 [0, 1] Jwv) ?_
  refine Xg 27 3 26 27 ⟨b15, 0, none⟩ (vT26 y13.1 um1 y13.1.L.length um3) (p10.pa 1 0) ?_
  refine So 27 2 26 0 2 gx2 0 (ag (vT26 y13.1 um1 y13.1.L.length um3)) (vT26 y13.1 um1 y13.1.L.length um3) p10 rfl Xe fun w11 z11 p11 => ?_
  refine Gn 1 [] Jwv ?_
  obtain rfl := sj h
  have p11 := (p11.dp 1).dp 2
  have p11 := (p11.fr 0).fr 1
  exact R1 Tryz.f276 (.cell 2 27) (ag (vT26 y13.1 um1 y13.1.L.length um3)) (Rn gx2 (p11.pa 0 0)) ⟨_, _, _, _, _, rfl, (((((((hx.t z5).t z6).t z7).t z8).t z9).t z10).t z11), p11.drop, um4, (um5.ext ((((z7.t z8).t z9).t z10).t z11)), rfl, (uii.ext z11)⟩
theorem W.z5g : ∀ a r, M.a1l a = some r → LF.z5g a r := (W.z5r).1
theorem W.z5q : ∀ a r, M.a2r a = some r → LL.z5q a r := (W.z5r).2.1
theorem W.z5h : ∀ a r, M.a2n a = some r → LF.z5h a r := (W.z5r).2.2.1
theorem W.z5l : ∀ a r, M.a2o a = some r → LL.z5l a r := (W.z5r).2.2.2.1
theorem W.z5m : ∀ a r, M.ay a = some r → LL.z5m a r := (W.z5r).2.2.2.2.1
theorem W.z5i : ∀ a r, M.a49 a = some r → LF.z5i a r := (W.z5r).2.2.2.2.2.1
theorem W.z5j : ∀ a r, M.a4a a = some r → LF.z5j a r := (W.z5r).2.2.2.2.2.2.1
theorem W.z5n : ∀ a r, M.a1m a = some r → LL.z5n a r := (W.z5r).2.2.2.2.2.2.2.1
theorem W.z5o : ∀ a r, M.a2p a = some r → LL.z5o a r := (W.z5r).2.2.2.2.2.2.2.2.1
theorem W.z5k : ∀ a r, M.a4b a = some r → LF.z5k a r := (W.z5r).2.2.2.2.2.2.2.2.2.1
theorem W.z5p : ∀ a r, M.a2q a = some r → LL.z5p a r := (W.z5r).2.2.2.2.2.2.2.2.2.2
def Jwx := Ys 1111111 B25 []
def Jwy := Ys 11111101 B25 Jwx
def Jx1 := Ys 11111111 B25 []
def Post.z5s (r : T26 × Int × Int) (v : Value) (w' : World) : Prop :=
 ∃ S' uno unp unq, v = .tuple #[(ag (vT26 r.1 uno unp unq)), .i r.2.1, .i r.2.2] ∧ Ext S0 w0 S' w' ∧ Hp nz wz S' w' (Lr) ∧ r.1.Set.length = 4 ∧ Rd kT26 S' w' uno unq r.1.L ∧ r.1.L.length = unp
def L.z5t : T26 × T134 × T26 × Bool → (T26 × Int × Int) → Prop := fun ⟨x2v, x5v, x6v, x40⟩ r => ∀ S1 w1, Ext S0 w0 S1 w1 → ∀ gx2 ulw u55 u56 ulx gx5 unr gx6 uns ud ue (_ : Hp nz wz S1 w1 ((some gx2, .row 27 (vT26 x2v (Gp ulw) u55 u56) 8 0) :: (ulw, .row 27 ulx (u56 * kT26.size) 0) :: (some gx5, .row 135 (vT134 x5v unr) 4 0) :: (some gx6, .row 27 (vT26 x6v uns ud ue) 8 0) :: Lr)) (_ : x2v.Set.length = 4) (_ : Els kT26 S1 w1 ulx x2v.L) (_ : x2v.L.length = u55) (_ : PtO kT138 S1 w1 unr x5v.bad) (_ : x6v.Set.length = 4) (_ : Rd kT26 S1 w1 uns ue x6v.L) (_ : x6v.L.length = ud) (junk : Nat → Value),
 Goes Tg (base 25) Jwy ⟨lfr 50 [(2, (pt gx2 0)), (5, (pt gx5 0)), (6, (pt gx6 0)), (40, .bool x40)] junk, []⟩ w1 (Done Tg 25 (Rets (Post.z5s nz wz S0 w0 Lr r)))
theorem W.z5t {nz wz S0 w0 Lr} : ∀ a r, M.a7a a = some r → L.z5t nz wz S0 w0 Lr a r := by
 intro ⟨x2v, x5v, x6v, x40⟩ r h S1 w1 hx gx2 ulw u55 u56 ulx gx5 unr gx6 uns ud ue p1 um0 u5j u5k unt unu ut uu junk
 rw [M.a7a] at h
 try dsimp only at h
 subst u5k
 subst uu
 refine Gi h (fun h41 h => ?_) fun h41 h => ?_
 ·
  rw [h41]
  refine Gn 2 [] (Ys 1111110100 B25 (Ys 1111110101 B25 Jwx)) ?_
  have z9 : Ext S1 w1 S1 (w1).drew := Xk
  have p9 := p1.draw
  refine Gd [] (Fc S1 (w1).drew [(⟨gx5, 3, none⟩, unr)]) 8 11 ?_
  generalize (w1).drew = w9 at z9 p9 ⊢
  refine Xb 0 (.build 27 #[]) 41 27 (.agg #[.i 0, .u 0, .u 0, .u 0, .u 0, Sn, .i 0, .i 0]) (p9.k [(2, 3, 1)]) ?_
  refine Xb 1 (.move 5) 42 132 (pt gx5 0) (p9.k [(2, 3, 1)]) ?_
  refine Xb 2 (.nilCheck 42) 43 0 (pt gx5 0) (p9.k [(2, 3, 1)]) ?_
  refine Xb 3 (.fieldAddr 135 43 3) 44 0 (pt gx5 3) (p9.k [(2, 3, 1)]) ?_
  refine Al 4 133 44 45 133 ⟨gx5, 3, none⟩ (unr) (p9.k [(2, 3, 1)]) (fun _ h => h.2.at_ 0 rfl) ?_
  refine Gl h fun v48 h42 h => ?_
  rcases v48 with _ | y43
  ·
   try dsimp only at h
   obtain rfl := PtO.nil (unt.ext z9) h42
   cases h
  ·
   try dsimp only at h
   obtain ⟨a45, _, rfl, -, f46, q47⟩ := PtO.got (unt.ext z9) h42
   obtain rfl := q47
   refine Xb 5 (.nilCheck 45) 46 0 (.pointer (some a45)) (p9.k [(2, 3, 1)]) ?_
   refine Xb 6 (.fieldAddr 139 46 0) 47 0 (.pointer (some (Addr.add a45 0))) (p9.k [(2, 3, 1)]) ?_
   refine Al 7 3 47 48 3 (Addr.add a45 0) (.i y43.at_) (p9.k [(2, 3, 1)]) (fun _ h => (Cs.left (us := [.i y43.at_]) (vs := []) (Cs.add (us := []) (vs := [.i y43.at_]) f46)).fc h 0 _ rfl) ?_
   refine So 27 2 41 0 0 gx2 0 (.agg #[.i 0, .u 0, .u 0, .u 0, .u 0, Sn, .i 0, .i 0]) [.i 0, .u 0, .u 0, .u 0, .u 0, Sn, .i 0, .i 0] p9 rfl (As 8) fun w10 z10 p10 => ?_
   refine Xo z10 ⟨(p10.c 2 3), trivial⟩ ?_
   refine Xb 9 (.assign 48) 3 3 (.i y43.at_) (p10.k [(2, 3, 1)]) ?_
   refine Xb 10 (.assign (.const (.int .i64 100))) 4 34 (.i 100) (p10.k [(2, 3, 1)]) ?_
   refine Ad ?_
   have p10 := ((p10.dp 1).dp 1).dp 1
   obtain rfl := sj h
   exact R3 Tryz.f25 (.cell 2 27) 3 4 (.tuple #[.agg #[.i 0, .u 0, .u 0, .u 0, .u 0, Sn, .i 0, .i 0], .i y43.at_, .i 100]) (Rn gx2 (p10.pa 0 0)) Rt Rt ⟨_, _, _, _, rfl, ((hx.t z9).t z10), p10.drop, rfl, Xr, rfl⟩
 ·
  rw [bf h41]
  refine Gn 4 [] (Yt 11111110 B25 [0, 1, 2, 3] Jx1) ?_
  refine Xg 27 6 49 27 ⟨gx6, 0, none⟩ (vT26 x6v uns x6v.L.length ue) (p1.pa 3 0) ?_
  refine So 27 2 49 0 0 gx2 0 (ag (vT26 x6v uns x6v.L.length ue)) (vT26 x6v uns x6v.L.length ue) p1 rfl Xe fun w11 z11 p11 => ?_
  refine Gm 3 [([3, 4], .i 0)] Jx1 ?_
  obtain rfl := sj h
  have p11 := ((p11.dp 1).dp 1).dp 1
  exact R3 Tryz.f25 (.cell 2 27) 3 4 (.tuple #[(ag (vT26 x6v uns x6v.L.length ue)), .i 0, .i 0]) (Rn gx2 (p11.pa 0 0)) Rt Rt ⟨_, _, _, _, rfl, (hx.t z11), p11.drop, unu, (ut.ext z11), rfl⟩
def Jx3 := Ys 111111 B25 []
def L.z5u : T26 × T134 × T26 → (T26 × Int × Int) → Prop := fun ⟨x2v, x5v, x6v⟩ r => ∀ S1 w1, Ext S0 w0 S1 w1 → ∀ gx2 ulw u55 u56 ulx gx5 unr gx6 uns ud ue (_ : Hp nz wz S1 w1 ((some gx2, .row 27 (vT26 x2v (Gp ulw) u55 u56) 8 0) :: (ulw, .row 27 ulx (u56 * kT26.size) 0) :: (some gx5, .row 135 (vT134 x5v unr) 4 0) :: (some gx6, .row 27 (vT26 x6v uns ud ue) 8 0) :: Lr)) (_ : x2v.Set.length = 4) (_ : Els kT26 S1 w1 ulx x2v.L) (_ : x2v.L.length = u55) (_ : PtO kT138 S1 w1 unr x5v.bad) (_ : x6v.Set.length = 4) (_ : Rd kT26 S1 w1 uns ue x6v.L) (_ : x6v.L.length = ud) (junk : Nat → Value),
 Goes Tg (base 25) Jx3 ⟨lfr 50 [(2, (pt gx2 0)), (5, (pt gx5 0)), (6, (pt gx6 0))] junk, []⟩ w1 (Done Tg 25 (Rets (Post.z5s nz wz S0 w0 Lr r)))
theorem W.z5u {nz wz S0 w0 Lr} : ∀ a r, M.a7b a = some r → L.z5u nz wz S0 w0 Lr a r := by
 intro ⟨x2v, x5v, x6v⟩ r h S1 w1 hx gx2 ulw u55 u56 ulx gx5 unr gx6 uns ud ue p1 um0 u5j u5k unt unu ut uu junk
 rw [M.a7b] at h
 try dsimp only at h
 subst u5k
 subst uu
 refine Gm 6 [([36, 37], (pt gx5 0)), ([38], (pt gx5 3))] (Yt 11111100 B25 [3, 4] Jwy) ?_
 refine Xc 133 38 39 133 ⟨gx5, 3, none⟩ (unr) (p1.c 2 3) ?_
 refine Gl h fun v40 h30 h => ?_
 rcases v40 with _ | y31
 ·
  try dsimp only at h
  obtain rfl := PtO.nil unt h30
  refine Gn 2 [(40, .bool false)] Jwy ?_
  exact Gj 50 [(2, (pt gx2 0)), (5, (pt gx5 0)), (6, (pt gx6 0)), (40, .bool false)] (W.z5t _ _ h _ _ hx _ _ _ _ _ _ (.pointer none) _ _ _ _ p1 um0 u5j rfl rfl unu ut rfl)
 ·
  try dsimp only at h
  obtain ⟨a33, _, rfl, -, f34, q35⟩ := PtO.got unt h30
  obtain rfl := q35
  refine Gn 2 [(40, .bool true)] Jwy ?_
  exact Gj 50 [(2, (pt gx2 0)), (5, (pt gx5 0)), (6, (pt gx6 0)), (40, .bool true)] (W.z5t _ _ h _ _ hx _ _ _ _ _ _ _ _ _ _ _ p1 um0 u5j rfl ⟨_, _, rfl, List.cons_ne_nil _ _, f34, rfl⟩ unu ut rfl)
def Jx5 := Ys 1111101 B25 Jx3
def L.z5v : T26 × T134 × T26 × Bool → (T26 × Int × Int) → Prop := fun ⟨x2v, x5v, x6v, x29⟩ r => ∀ S1 w1, Ext S0 w0 S1 w1 → ∀ gx2 ulw u55 u56 ulx gx5 unr gx6 uns ud ue (_ : Hp nz wz S1 w1 ((some gx2, .row 27 (vT26 x2v (Gp ulw) u55 u56) 8 0) :: (ulw, .row 27 ulx (u56 * kT26.size) 0) :: (some gx5, .row 135 (vT134 x5v unr) 4 0) :: (some gx6, .row 27 (vT26 x6v uns ud ue) 8 0) :: Lr)) (_ : x2v.Set.length = 4) (_ : Els kT26 S1 w1 ulx x2v.L) (_ : x2v.L.length = u55) (_ : PtO kT138 S1 w1 unr x5v.bad) (_ : x6v.Set.length = 4) (_ : Rd kT26 S1 w1 uns ue x6v.L) (_ : x6v.L.length = ud) (junk : Nat → Value),
 Goes Tg (base 25) Jx5 ⟨lfr 50 [(2, (pt gx2 0)), (5, (pt gx5 0)), (6, (pt gx6 0)), (29, .bool x29)] junk, []⟩ w1 (Done Tg 25 (Rets (Post.z5s nz wz S0 w0 Lr r)))
theorem W.z5v {nz wz S0 w0 Lr} : ∀ a r, M.a4c a = some r → L.z5v nz wz S0 w0 Lr a r := by
 intro ⟨x2v, x5v, x6v, x29⟩ r h S1 w1 hx gx2 ulw u55 u56 ulx gx5 unr gx6 uns ud ue p1 um0 u5j u5k unt unu ut uu junk
 rw [M.a4c] at h
 try dsimp only at h
 subst u5k
 subst uu
 refine Gi h (fun h23 h => ?_) fun h23 h => ?_
 ·
  rw [h23]
  refine Gm 6 [([30, 31, 32], (pt gx5 0)), ([33], (pt gx5 1))] (Yt 11111010 B25 [4, 5] Jx3) ?_
  refine Xc 3 33 34 3 ⟨gx5, 1, none⟩ (.i x5v.at_) (p1.c 2 1) ?_
  have p1 := p1.fr 2
  refine Gb h fun y24 e25 h => ?_
  refine Gc (kc 69 [30, 34] #[132, 3]) 35 27 69 _ (W.z4c x5v x5v.at_ y24 e25 _ _ p1 unt) ?_
  rintro _ w8 ⟨S8, uio, uip, uiq, uir, rfl, z8, p8, uis, uit, rfl, uiu⟩
  refine Gn 1 [] Jx3 ?_
  have p8 := (((p8.fr 3).fr 1).fr 3).fr 3
  exact Gj 50 [(2, (pt gx2 0)), (5, (pt gx5 0)), (6, (pt gx6 0))] (W.z5u _ _ h _ _ (hx.t z8) _ _ _ _ _ _ _ _ _ _ _ p8 um0 (u5j.ext z8) rfl uiu unu (ut.ext z8) rfl)
 ·
  rw [bf h23]
  refine Gn 2 [] Jx3 ?_
  exact Gj 50 [(2, (pt gx2 0)), (5, (pt gx5 0)), (6, (pt gx6 0))] (W.z5u _ _ h _ _ hx _ _ _ _ _ _ _ _ _ _ _ p1 um0 u5j rfl unt unu ut rfl)
def Jx9 := Ys 111 B25 []
def Jxb := Ys 110101 B25 Jx9
def Qqr := Yq 1111100 B25
theorem W.z5s (x0 : ByteArray) (r : T26 × Int × Int) (h : M.a5e x0 = some r) {nz wz S0 w0 Lr} (p0 : Hp nz wz S0 w0 (Lr)) :
  Calls Tg 25 #[.string x0] w0 (Rets (Post.z5s nz wz S0 w0 Lr r)) := by
 refine Zf Tryz.f25 B25 49 ?_
 refine Gj 50 [(0, .string x0)] fun junk => ?_
 delta M.a5e at h
 refine Gn 2 [] (Yt 10 B25 [0, 1, 2] (Ys 11 B25 [])) ?_
 refine Oa 27 2 0 (.agg #[.i 0, .u 0, .u 0, .u 0, .u 0, Sn, .i 0, .i 0]) [.i 0, .u 0, .u 0, .u 0, .u 0, Sn, .i 0, .i 0] p0 Xa fun b1 w2 z2 p2 => ?_
 refine Gn 10 [(3, .i 0), (4, .i 0), (7, .string x0), (8, .i (x0.size : Int)), (9, .bool (decide ((x0.size : Int) > 256)))] (Ys 1101 B25 Jx9) ?_
 refine Gi h (fun h3 h => ?_) fun h3 h => ?_
 ·
  rw [dt h3]
  refine Gn 4 [(10, .agg #[.i 0, .u 0, .u 0, .u 0, .u 0, Sn, .i 0, .i 0])] (Yt 110100 B25 [1, 2, 3] Jxb) ?_
  refine So 27 2 10 0 0 b1 0 (.agg #[.i 0, .u 0, .u 0, .u 0, .u 0, Sn, .i 0, .i 0]) [.i 0, .u 0, .u 0, .u 0, .u 0, Sn, .i 0, .i 0] p2 rfl Xe fun w3 z3 p3 => ?_
  refine Gn 3 [(3, .i 0), (4, .i 3)] Jxb ?_
  obtain rfl := sj h
  exact R3 Tryz.f25 (.cell 2 27) 3 4 (.tuple #[.agg #[.i 0, .u 0, .u 0, .u 0, .u 0, Sn, .i 0, .i 0], .i 0, .i 3]) (Rn b1 (p3.pa 0 0)) Rt Rt ⟨_, _, _, _, rfl, (z2.t z3), p3.drop, rfl, Xr, rfl⟩
 ·
  rw [df h3]
  refine Gn 6 [(11, .string x0), (12, .agg #[.string x0, .i 0, .i 0, .pointer none])] (Yt 1110 B25 [2, 3] (Ys 1111 B25 [])) ?_
  refine Ob 135 12 13 132 (.agg #[.string x0, .i 0, .i 0, .pointer none]) [.string x0, .i 0, .i 0, .pointer none] p2 Xa fun b4 w4 z4 p4 => ?_
  refine Gm 5 [([5, 14], (pt b4 0))] (Yt 11110 B25 [1, 2, 3] (Ys 11111 B25 [])) ?_
  refine Gb h fun y6 e7 h => ?_
  refine Gc (kc 68 [14] #[132]) 15 27 68 _ (W.z5g (⟨x0, 0, 0, none⟩ : T134) y6 e7 _ (.pointer none) p4 rfl) ?_
  rintro _ w5 ⟨S5, ums, umt, umu, uiw, rfl, z5, p5, umv, umw, rfl, uiy⟩
  refine Oa 27 6 0 (.agg #[.i 0, .u 0, .u 0, .u 0, .u 0, Sn, .i 0, .i 0]) [.i 0, .u 0, .u 0, .u 0, .u 0, Sn, .i 0, .i 0] p5 Xa fun b8 w6 z6 p6 => ?_
  refine So 27 6 15 0 0 b8 0 (ag (vT26 y6.1 ums y6.1.L.length umu)) (vT26 y6.1 ums y6.1.L.length umu) p6 rfl Xe fun w7 z7 p7 => ?_
  refine Gm 7 [([16, 17], (pt b4 0)), ([18], (pt b4 3))] (Zr Qqr [3, 4, 5, 6, 7, 8, 9, 10, 11, 12, 13] Jx5) ?_
  refine Xc 133 18 19 133 ⟨b4, 3, none⟩ (uiw) (p7.c 1 3) ?_
  refine Gl h fun v22 h10 h => ?_
  rcases v22 with _ | y11
  ·
   try dsimp only at h
   obtain rfl := PtO.nil (uiy.ext (z6.t z7)) h10
   refine Gm 5 [([20, 21], .bool true), ([22, 23], (pt b4 0)), ([24], (pt b4 1))] (Zr Qqr [9, 10, 11, 12, 13] Jx5) ?_
   refine Xc 3 24 25 3 ⟨b4, 1, none⟩ (.i y6.2.at_) (p7.c 1 1) ?_
   refine Gm 5 [([26], .string x0), ([27], .i (x0.size : Int)), ([28, 29], .bool (decide (y6.2.at_ < (x0.size : Int))))] Jx5 ?_
   have p7 : Hp nz wz S5 w7 ((none, .row 27 [] (0 * kT26.size) 0) :: (some b8, .row 27 (vT26 y6.1 ums y6.1.L.length umu) 8 0) :: (some b4, .row 135 [.string y6.2.s, .i y6.2.at_, .i y6.2.deep, .pointer none] 4 0) :: (some b1, .row 27 [.i 0, .u 0, .u 0, .u 0, .u 0, Sn, .i 0, .i 0] 8 0) :: Lr) := p7.nilRow' 27
   have p7 := (((p7.fr 1).fr 2).fr 2).fr 3
   exact Gj 50 [(2, (pt b1 0)), (5, (pt b4 0)), (6, (pt b8 0)), (29, .bool (decide (y6.2.at_ < (x0.size : Int))))] (W.z5v _ _ h _ _ ((((z2.t z4).t z5).t z6).t z7) _ none 0 0 [] _ (.pointer none) _ _ _ _ p7 rfl (Els.nil (K := kT26)) rfl rfl umv (umw.ext (z6.t z7)) rfl)
  ·
   try dsimp only at h
   obtain ⟨a13, _, rfl, -, f14, q15⟩ := PtO.got (uiy.ext (z6.t z7)) h10
   obtain rfl := q15
   refine Gm 11 [([20, 21, 29], .bool false), ([22, 23, 24, 25, 26, 27, 28], undef)] Jx5 ?_
   have p7 : Hp nz wz S5 w7 ((none, .row 27 [] (0 * kT26.size) 0) :: (some b8, .row 27 (vT26 y6.1 ums y6.1.L.length umu) 8 0) :: (some b4, .row 135 [.string y6.2.s, .i y6.2.at_, .i y6.2.deep, .pointer (some a13)] 4 0) :: (some b1, .row 27 [.i 0, .u 0, .u 0, .u 0, .u 0, Sn, .i 0, .i 0] 8 0) :: Lr) := p7.nilRow' 27
   have p7 := (((p7.fr 1).fr 2).fr 2).fr 3
   exact Gj 50 [(2, (pt b1 0)), (5, (pt b4 0)), (6, (pt b8 0)), (29, .bool false)] (W.z5v _ _ h _ _ ((((z2.t z4).t z5).t z6).t z7) _ none 0 0 [] _ _ _ _ _ _ p7 rfl (Els.nil (K := kT26)) rfl ⟨_, _, rfl, List.cons_ne_nil _ _, f14, rfl⟩ umv (umw.ext (z6.t z7)) rfl)
def Jxj := Ys 1111 B179 []
def Jxk := Ys 11101 B179 Jxj
def Jxl := Ys 11111 B179 []
def Qqv := Yq 11110100 B179
def Jxn := Zl Qqv (Zb 0 Jxl)
def Jxo := Zc Qqv Jxn
def Jxr := Ys 111 B179 []
def Qqz := Yq 110 B179
def Qr0 := Yq 11100 B179
def Jy2 := Zb 1 (Ys 11110100111 B179 Jxn)
def Jy5 := Ys 11110100110011 B179 Jy2
def Qra := Yq 11110100110010 B179
def Post.z5w (gx2 : Nat) (r : Bool × Int) (v : Value) (w' : World) : Prop :=
 ∃ S', v = .bool r.1 ∧ Ext S0 w0 S' w' ∧ Hp nz wz S' w' ((some gx2, .row 3 [.i r.2] 1 0) :: Lr)
def LF.z5w : T26 × Int × Int → (Bool × Int) → Prop := fun ⟨x0, x1, u4⟩ r => ∀ {nz wz S0 w0 Lr} u5 u6 u7 gx2 (_ : Hp nz wz S0 w0 ((some gx2, .row 3 [.i u4] 1 0) :: Lr)) (_ : x0.Set.length = 4) (_ : Rd kT26 S0 w0 u5 u7 x0.L) (_ : x0.L.length = u6),
 Calls Tg 179 #[(ag (vT26 x0 u5 u6 u7)), .i x1, (pt gx2 0)] w0 (Rets (Post.z5w nz wz S0 w0 Lr gx2 r))
def L.z5x (gx2 : Nat) : Int × T26 × Bool × Int → (Bool × Int) → Prop := fun ⟨x1, x3v, x21, u8⟩ r => ∀ S1 w1, Ext S0 w0 S1 w1 → ∀ gx3 u9 ua ub (_ : Hp nz wz S1 w1 ((some gx3, .row 27 (vT26 x3v u9 ua ub) 8 0) :: (some gx2, .row 3 [.i u8] 1 0) :: Lr)) (_ : x3v.Set.length = 4) (_ : Rd kT26 S1 w1 u9 ub x3v.L) (_ : x3v.L.length = ua) (junk : Nat → Value),
 Goes Tg (base 179) Jxk ⟨lfr 36 [(1, .i x1), (2, (pt gx2 0)), (3, (pt gx3 0)), (21, .bool x21)] junk, []⟩ w1 (Done Tg 179 (Rets (Post.z5w nz wz S0 w0 Lr gx2 r)))
def LL.z5x : Int × T26 × Bool × Int → (Bool × Int) → Prop := fun a r => ∀ {nz wz S0 w0 Lr} (gx2 : Nat), L.z5x nz wz S0 w0 Lr gx2 a r
def L.z5y (gx2 : Nat) : Int × (List T26) × Int × Int × Int → (Bool × Int) → Prop := fun ⟨x1, x23, x24, x25, u8⟩ r => ∀ S1 w1, Ext S0 w0 S1 w1 → ∀ u16 u17 u18 (_ : Hp nz wz S1 w1 ((some gx2, .row 3 [.i u8] 1 0) :: Lr)) (_ : Rd kT26 S1 w1 u16 u18 x23) (_ : x23.length = u17) (junk : Nat → Value),
 Goes Tg (base 179) Jxo ⟨lfr 36 [(1, .i x1), (2, (pt gx2 0)), (23, .slice u16 u17 u18), (24, .i x24), (25, .i x25)] junk, []⟩ w1 (Done Tg 179 (Rets (Post.z5w nz wz S0 w0 Lr gx2 r)))
def LL.z5y : Int × (List T26) × Int × Int × Int → (Bool × Int) → Prop := fun a r => ∀ {nz wz S0 w0 Lr} (gx2 : Nat), L.z5y nz wz S0 w0 Lr gx2 a r
theorem W.z5z : (∀ a r, M.a1n a = some r → LF.z5w a r) ∧ (∀ a r, M.a2s a = some r → LL.z5x a r) ∧ (∀ a r, M.a2t a = some r → LL.z5y a r) := by
 refine M.a1n.mutual_partial_correctness LF.z5w LL.z5x LL.z5y ?_ ?_ ?_
 ·
  intro unx uny ⟨x0, x1, u4⟩ r h nz wz S0 w0 Lr u5 u6 u7 gx2 p0 unz um un
  try dsimp only at h
  subst un
  refine Zf Tryz.f179 B179 33 ?_
  refine Gj 36 [(0, (ag (vT26 x0 u5 x0.L.length u7))), (1, .i x1), (2, (pt gx2 0))] fun junk => ?_
  refine Gn 2 [] (Yt 10 B179 [0, 1] (Ys 11 B179 [])) ?_
  refine Ob 27 0 3 0 (ag (vT26 x0 u5 x0.L.length u7)) (vT26 x0 u5 x0.L.length u7) p0 Xa fun b2 w2 z2 p2 => ?_
  refine Gm 6 [([6], .bool false), ([9, 10], (pt gx2 0))] (Zr Qqz [2, 3, 4, 5] Jxr) ?_
  refine Xc 3 10 11 3 ⟨gx2, 0, none⟩ (.i u4) (p2.c 1 0) ?_
  refine Gn 2 [(12, .i (wr .i64 (u4 + 1))), (13, (pt gx2 0))] (Zr Qqz [5] Jxr) ?_
  refine So 3 13 12 0 1 gx2 0 (.i (wr .i64 (u4 + 1))) [.i (wr .i64 (u4 + 1))] p2 rfl Xe fun w3 z3 p3 => ?_
  refine Gm 7 [([14], .i x1), ([15, 16], .bool (decide (x1 = 0)))] (Zr Qr0 [3, 4, 5, 6, 7] Jxk) ?_
  refine Gi h (fun h4 h => ?_) fun h4 h => ?_
  ·
   rw [dt h4]
   refine Gm 6 [([17, 18, 19, 20], undef), ([21], .bool true)] Jxk ?_
   exact Gj 36 [(1, .i x1), (2, (pt gx2 0)), (3, (pt b2 0)), (21, .bool true)] (uny _ _ h gx2 _ _ (z2.t z3) _ _ _ _ p3 unz (um.ext (z2.t z3)) rfl)
  ·
   rw [df h4]
   refine Gm 2 [([17, 18], (pt gx2 0))] (Zr Qr0 [5, 6, 7] Jxk) ?_
   refine Xc 3 18 19 3 ⟨gx2, 0, none⟩ (.i (wr .i64 (u4 + 1))) (p3.c 1 0) ?_
   refine Gm 3 [([20, 21], .bool (decide (wr .i64 (u4 + 1) > 4096)))] Jxk ?_
   exact Gj 36 [(1, .i x1), (2, (pt gx2 0)), (3, (pt b2 0)), (21, .bool (decide (wr .i64 (u4 + 1) > 4096)))] (uny _ _ h gx2 _ _ (z2.t z3) _ _ _ _ p3 unz (um.ext (z2.t z3)) rfl)
 ·
  intro uo0 uo1 ⟨x1, x3v, x21, u8⟩ r h nz wz S0 w0 Lr gx2 S1 w1 hx gx3 u9 ua ub p1 uo2 uq ur junk
  try dsimp only at h
  subst ur
  refine Gi h (fun h6 h => ?_) fun h6 h => ?_
  ·
   rw [h6]
   refine Gn 5 [(6, .bool false)] (Ys 1110101 B179 Jxj) ?_
   obtain rfl := sj h
   have p1 := p1.dp 0
   exact Xd Tryz.f179 (.bool false) ⟨_, rfl, hx, p1⟩
  ·
   rw [bf h6]
   refine Gn 6 [(22, (pt gx3 5))] (Yt 111100 B179 [1, 2, 3] (Ys 111101 B179 Jxl)) ?_
   refine Xc 25 22 23 25 ⟨gx3, 5, none⟩ (Sl u9 x3v.L ub) (p1.c 0 5) ?_
   refine Gn 5 [(24, .i (x3v.L.length : Int)), (25, .i 0)] Jxo ?_
   have p1 := p1.dp 0
   exact Gj 36 [(1, .i x1), (2, (pt gx2 0)), (23, Sl u9 x3v.L ub), (24, .i (x3v.L.length : Int)), (25, .i 0)] (uo1 _ _ h gx2 _ _ hx _ _ _ p1 uq rfl)
 ·
  intro rec_syntax_count uo0 ih_syntax_count uo1 ⟨x1, x23, x24, x25, u8⟩ r h nz wz S0 w0 Lr gx2 S1 w1 hx u16 u17 u18 p1 u1d u1e junk
  try dsimp only at h
  subst u1e
  refine Gn 5 [(26, .bool (decide (x25 < x24)))] (Ys 1111010010 B179 (Ys 1111010011 B179 Jxn)) ?_
  refine Gi h (fun h7 h => ?_) fun h7 h => ?_
  ·
   rw [dt h7]
   refine Gn 6 [] (Yt 1111010011000 B179 [0, 1, 2, 3] (Ys 1111010011001 B179 Jy2)) ?_
   refine Gg h fun g8 h => ?_
   refine Gg h fun g9 h => ?_
   refine Oi 25 23 25 27 0 27 .i64 x25 (gi x23 x25) rfl rfl u1d Xa g8 g9 fun a10 _ f11 q12 => ?_
   have q13 := q12
   obtain ⟨_, _, rfl, rfl, ⟨_, _, rfl, ⟨l14, f15⟩, ⟨_, _, rfl, ⟨A16, c17, rfl, f18⟩, ⟨_, _, rfl, rfl, rfl⟩⟩⟩⟩ := kT26_open q13
   obtain rfl := els_lit4' f15 l14
   refine Xg 27 27 28 27 a10 ([.i ((gi x23 x25).Kind)] ++ ((U4 ((gi x23 x25).Set) []) ++ ([.slice A16 (((gi x23 x25).L).length) c17] ++ ([.i ((gi x23 x25).Min)] ++ [.i ((gi x23 x25).Max)])))) (f11.cell) ?_
   refine Oa 27 8 0 (.agg #[.i 0, .u 0, .u 0, .u 0, .u 0, Sn, .i 0, .i 0]) [.i 0, .u 0, .u 0, .u 0, .u 0, Sn, .i 0, .i 0] p1 Xa fun b19 w4 z4 p4 => ?_
   refine So 27 8 28 0 0 b19 0 (ag (.i ((gi x23 x25).Kind) :: U4 ((gi x23 x25).Set) [.slice A16 (((gi x23 x25).L).length) c17, .i ((gi x23 x25).Min), .i ((gi x23 x25).Max)])) (.i ((gi x23 x25).Kind) :: U4 ((gi x23 x25).Set) [.slice A16 (((gi x23 x25).L).length) c17, .i ((gi x23 x25).Min), .i ((gi x23 x25).Max)]) p4 rfl Xe fun w5 z5 p5 => ?_
   refine Gn 3 [] (Zr Qra [0, 1, 2, 3, 4, 5] Jy5) ?_
   refine Xg 27 8 29 27 ⟨b19, 0, none⟩ (.i ((gi x23 x25).Kind) :: U4 ((gi x23 x25).Set) [.slice A16 (((gi x23 x25).L).length) c17, .i ((gi x23 x25).Min), .i ((gi x23 x25).Max)]) (p5.pa 0 0) ?_
   refine Gn 3 [(30, .i x1), (31, .i (wr .i64 (x1 - 1))), (32, (pt gx2 0))] (Zr Qra [4, 5] Jy5) ?_
   have p5 := p5.fr 1
   refine Gb h fun y21 e22 h => ?_
   refine Gc (kc 179 [29, 31, 32] #[27, 3, 33]) 33 4 179 _ (ih_syntax_count ((⟨(gi x23 x25).Kind, ((gi x23 x25).Set), (gi x23 x25).L, (gi x23 x25).Min, (gi x23 x25).Max⟩ : T26), wr .i64 (x1 - 1), u8) y21 e22 _ _ _ _ p5 l14 (f18.ext (z4.t z5)) rfl) ?_
   rintro _ w6 ⟨S6, rfl, z6, p6⟩
   have p6 := p6.dp 1
   refine Gn 2 [(34, .bool (!y21.1))] Jy5 ?_
   refine Gi h (fun h23 h => ?_) fun h23 h => ?_
   ·
    rw [h23]
    refine Gm 8 [([35, 25], .i (wr .i64 (x25 + 1)))] Jxo ?_
    exact Gj 36 [(1, .i x1), (2, (pt gx2 0)), (23, Sl u16 x23 u18), (24, .i x24), (25, .i (wr .i64 (x25 + 1)))] (uo1 _ _ h gx2 _ _ (((hx.t z4).t z5).t z6) _ _ _ p6 (u1d.ext ((z4.t z5).t z6)) rfl)
   ·
    rw [bf h23]
    refine Gn 5 [(6, .bool false)] (Ys 1111010011001101 B179 Jy2) ?_
    obtain rfl := sj h
    exact Xd Tryz.f179 (.bool false) ⟨_, rfl, (((hx.t z4).t z5).t z6), p6⟩
  ·
   rw [df h7]
   refine Gn 6 [(6, .bool true)] (Ys 111111 B179 []) ?_
   obtain rfl := sj h
   exact Xd Tryz.f179 (.bool true) ⟨_, rfl, hx, p1⟩
theorem W.z5w : ∀ a r, M.a1n a = some r → LF.z5w a r := (W.z5z).1
theorem W.z5x : ∀ a r, M.a2s a = some r → LL.z5x a r := (W.z5z).2.1
theorem W.z5y : ∀ a r, M.a2t a = some r → LL.z5y a r := (W.z5z).2.2
def Jya := Ys 11111 B230 []
def Jyb := Zb 0 Jya
def Jyc := Ys 111101011111011 B230 Jyb
def Jyd := Ys 1111010111110111 B230 Jyb
def Qrg := Yq 1111010111110110 B230
def Post.z60 (r : Bool) (v : Value) (w' : World) : Prop :=
 ∃ S', v = .bool r ∧ Ext S0 w0 S' w' ∧ Hp nz wz S' w' (Lr)
def L.z61 : T26 × (List Int) × Bool × Bool → Bool → Prop := fun ⟨x1v, uo3, x5, x6⟩ r => ∀ S1 w1, Ext S0 w0 S1 w1 → ∀ gx1 u1g u1h u1i gx3 (_ : Hp nz wz S1 w1 ((some gx1, .row 27 (vT26 x1v u1g u1h u1i) 8 0) :: (some gx3, .row 24 (U4 uo3 []) 4 0) :: Lr)) (_ : x1v.Set.length = 4) (_ : Rd kT26 S1 w1 u1g u1i x1v.L) (_ : x1v.L.length = u1h) (_ : uo3.length = 4) (junk : Nat → Value),
 Goes Tg (base 230) Jyc ⟨lfr 77 [(1, (pt gx1 0)), (3, (pt gx3 0)), (5, .bool x5), (6, .bool x6)] junk, []⟩ w1 (Done Tg 230 (Rets (Post.z60 nz wz S0 w0 Lr r)))
theorem W.z61 {nz wz S0 w0 Lr} : ∀ a r, M.a6h a = some r → L.z61 nz wz S0 w0 Lr a r := by
 intro ⟨x1v, uo3, x5, x6⟩ r h S1 w1 hx gx1 u1g u1h u1i gx3 p1 uo4 u1n u1o uo5 junk
 rw [M.a6h] at h
 try dsimp only at h
 subst u1o
 refine Gn 3 [(61, (pt gx1 5))] (Zr Qrg [1, 2, 3, 4, 5, 6, 7, 8, 9, 10, 11, 12, 13, 14, 15, 16] Jyd) ?_
 refine Xc 25 61 62 25 ⟨gx1, 5, none⟩ (Sl u1g x1v.L u1i) (p1.c 0 5) ?_
 refine Gm 3 [([63], .i (x1v.L.length : Int)), ([64, 65], .bool (decide ((x1v.L.length : Int) = 1)))] (Zr Qrg [5, 6, 7, 8, 9, 10, 11, 12, 13, 14, 15, 16] Jyd) ?_
 refine Gi h (fun h23 h => ?_) fun h23 h => ?_
 ·
  rw [dt h23]
  refine Gn 1 [(66, (pt gx1 1))] (Zr Qrg [6, 7, 8, 9, 10, 11, 12, 13, 14, 15, 16] Jyd) ?_
  refine Xg 24 66 67 24 ⟨gx1, 1, none⟩ (U4 x1v.Set []) (p1.pa 0 1) ?_
  refine Xg 24 3 68 24 ⟨gx3, 0, none⟩ (U4 uo3 []) (p1.pa 1 0) ?_
  refine Op_.eqA 24 67 68 24 69 4 22 4 .u64 (us := ((U4 x1v.Set []) : List Value)) (vs := ((U4 uo3 []) : List Value)) Xa (by kernel_rfl) (by kernel_rfl) (by kernel_rfl) (by kernel_rfl) (by kernel_rfl) (by kernel_rfl) (by kernel_rfl) (els_mk4 (S := S1) (w := w1) (k := .u64) uo4) (els_mk4 (S := S1) (w := w1) (k := .u64) uo5) (Xm (els_mk4 (S := S1) (w := w1) (k := .u64) uo4) rfl rfl) (Xm (els_mk4 (S := S1) (w := w1) (k := .u64) uo5) rfl rfl) ?_
  refine Gm 2 [([70, 71], .bool (decide (x1v.Set = uo3)))] (Zr Qrg [11, 12, 13, 14, 15, 16] Jyd) ?_
  refine Gi h (fun h24 h => ?_) fun h24 h => ?_
  ·
   rw [dt h24]
   refine Gm 3 [([72, 73, 74], .bool x5)] (Zr Qrg [14, 15, 16] Jyd) ?_
   refine Gi h (fun h25 h => ?_) fun h25 h => ?_
   ·
    rw [h25]
    refine Gm 4 [([75, 76, 2], .bool x6)] Jyd ?_
    obtain rfl := sj h
    have p1 := (p1.dp 0).dp 0
    exact Xd Tryz.f230 (.bool x6) ⟨_, rfl, hx, p1⟩
   ·
    rw [bf h25]
    refine Gm 4 [([75], undef), ([76, 2], .bool false)] Jyd ?_
    obtain rfl := sj h
    have p1 := (p1.dp 0).dp 0
    exact Xd Tryz.f230 (.bool false) ⟨_, rfl, hx, p1⟩
  ·
   rw [df h24]
   refine Gm 7 [([72, 75], undef), ([73, 74, 76, 2], .bool false)] Jyd ?_
   obtain rfl := sj h
   have p1 := (p1.dp 0).dp 0
   exact Xd Tryz.f230 (.bool false) ⟨_, rfl, hx, p1⟩
 ·
  rw [df h23]
  refine Gm 13 [([66, 67, 68, 69, 72, 75], undef), ([70, 71, 73, 74, 76, 2], .bool false)] Jyd ?_
  obtain rfl := sj h
  have p1 := (p1.dp 0).dp 0
  exact Xd Tryz.f230 (.bool false) ⟨_, rfl, hx, p1⟩
def Jyj := Ys 11110101111101 B230 Jyb
def Qri := Yq 111101011111010 B230
def L.z62 : T26 × (List Int) × Bool → Bool → Prop := fun ⟨x1v, uo3, x5⟩ r => ∀ S1 w1, Ext S0 w0 S1 w1 → ∀ gx1 u1g u1h u1i gx3 (_ : Hp nz wz S1 w1 ((some gx1, .row 27 (vT26 x1v u1g u1h u1i) 8 0) :: (some gx3, .row 24 (U4 uo3 []) 4 0) :: Lr)) (_ : x1v.Set.length = 4) (_ : Rd kT26 S1 w1 u1g u1i x1v.L) (_ : x1v.L.length = u1h) (_ : uo3.length = 4) (junk : Nat → Value),
 Goes Tg (base 230) Jyj ⟨lfr 77 [(1, (pt gx1 0)), (3, (pt gx3 0)), (5, .bool x5)] junk, []⟩ w1 (Done Tg 230 (Rets (Post.z60 nz wz S0 w0 Lr r)))
theorem W.z62 {nz wz S0 w0 Lr} : ∀ a r, M.a7c a = some r → L.z62 nz wz S0 w0 Lr a r := by
 intro ⟨x1v, uo3, x5⟩ r h S1 w1 hx gx1 u1g u1h u1i gx3 p1 uo4 u1n u1o uo5 junk
 rw [M.a7c] at h
 try dsimp only at h
 subst u1o
 refine Gn 3 [(46, (pt gx1 7))] (Zr Qri [1, 2, 3, 4, 5, 6, 7, 8, 9, 10, 11, 12, 13, 14, 15] Jyc) ?_
 refine Xc 3 46 47 3 ⟨gx1, 7, none⟩ (.i x1v.Max) (p1.c 0 7) ?_
 refine Gm 2 [([48, 49], .bool (decide (x1v.Max = (-1))))] (Zr Qri [4, 5, 6, 7, 8, 9, 10, 11, 12, 13, 14, 15] Jyc) ?_
 refine Gi h (fun h19 h => ?_) fun h19 h => ?_
 ·
  rw [dt h19]
  refine Gm 13 [([50, 51, 52, 53, 54, 55, 56, 57, 58, 59], undef), ([60, 6], .bool true)] Jyc ?_
  exact Gj 77 [(1, (pt gx1 0)), (3, (pt gx3 0)), (5, .bool x5), (6, .bool true)] (W.z61 _ _ h _ _ hx _ _ _ _ _ p1 uo4 u1n rfl uo5)
 ·
  rw [df h19]
  refine Gn 1 [(50, (pt gx1 7))] (Zr Qri [5, 6, 7, 8, 9, 10, 11, 12, 13, 14, 15] Jyc) ?_
  refine Xc 3 50 51 3 ⟨gx1, 7, none⟩ (.i x1v.Max) (p1.c 0 7) ?_
  refine Gn 1 [(52, (pt gx1 6))] (Zr Qri [7, 8, 9, 10, 11, 12, 13, 14, 15] Jyc) ?_
  refine Xc 3 52 53 3 ⟨gx1, 6, none⟩ (.i x1v.Min) (p1.c 0 6) ?_
  refine Gm 2 [([54, 55], .bool (decide (x1v.Max ≥ x1v.Min)))] (Zr Qri [10, 11, 12, 13, 14, 15] Jyc) ?_
  refine Gi h (fun h22 h => ?_) fun h22 h => ?_
  ·
   rw [dt h22]
   refine Gn 1 [(56, (pt gx1 7))] (Zr Qri [11, 12, 13, 14, 15] Jyc) ?_
   refine Xc 3 56 57 3 ⟨gx1, 7, none⟩ (.i x1v.Max) (p1.c 0 7) ?_
   refine Gm 5 [([58, 59, 60, 6], .bool (decide (x1v.Max ≤ 64)))] Jyc ?_
   exact Gj 77 [(1, (pt gx1 0)), (3, (pt gx3 0)), (5, .bool x5), (6, .bool (decide (x1v.Max ≤ 64)))] (W.z61 _ _ h _ _ hx _ _ _ _ _ p1 uo4 u1n rfl uo5)
  ·
   rw [df h22]
   refine Gm 7 [([56, 57, 58], undef), ([59, 60, 6], .bool false)] Jyc ?_
   exact Gj 77 [(1, (pt gx1 0)), (3, (pt gx3 0)), (5, .bool x5), (6, .bool false)] (W.z61 _ _ h _ _ hx _ _ _ _ _ p1 uo4 u1n rfl uo5)
def Jyq := Ys 1111010111 B230 Jyb
def Jyr := Ys 111101011101 B230 Jyb
def Qrl := Yq 111101011100 B230
def Qrn := Yq 11110101111100 B230
def L.z63 : T26 × (List Int) × Bool × Int × Bool → Bool → Prop := fun ⟨x1v, uo3, x4, x16, x26⟩ r => ∀ S1 w1, Ext S0 w0 S1 w1 → ∀ gx1 u1g u1h u1i gx3 (_ : Hp nz wz S1 w1 ((some gx1, .row 27 (vT26 x1v u1g u1h u1i) 8 0) :: (some gx3, .row 24 (U4 uo3 []) 4 0) :: Lr)) (_ : x1v.Set.length = 4) (_ : Rd kT26 S1 w1 u1g u1i x1v.L) (_ : x1v.L.length = u1h) (_ : uo3.length = 4) (junk : Nat → Value),
 Goes Tg (base 230) Jyq ⟨lfr 77 [(1, (pt gx1 0)), (3, (pt gx3 0)), (4, .bool x4), (16, .i x16), (26, .bool x26)] junk, []⟩ w1 (Done Tg 230 (Rets (Post.z60 nz wz S0 w0 Lr r)))
theorem W.z63 {nz wz S0 w0 Lr} : ∀ a r, M.a7d a = some r → L.z63 nz wz S0 w0 Lr a r := by
 intro ⟨x1v, uo3, x4, x16, x26⟩ r h S1 w1 hx gx1 u1g u1h u1i gx3 p1 uo4 u1n u1o uo5 junk
 rw [M.a7d] at h
 try dsimp only at h
 subst u1o
 refine Gi h (fun h13 h => ?_) fun h13 h => ?_
 ·
  rw [h13]
  refine Gn 4 [(29, (pt gx1 1))] (Zr Qrl [1, 2, 3, 4, 5, 6, 7] Jyr) ?_
  refine Xg 24 29 30 24 ⟨gx1, 1, none⟩ (U4 x1v.Set []) (p1.pa 0 1) ?_
  refine Xg 24 3 31 24 ⟨gx3, 0, none⟩ (U4 uo3 []) (p1.pa 1 0) ?_
  refine Op_.eqA 24 30 31 24 32 4 22 4 .u64 (us := ((U4 x1v.Set []) : List Value)) (vs := ((U4 uo3 []) : List Value)) Xa (by kernel_rfl) (by kernel_rfl) (by kernel_rfl) (by kernel_rfl) (by kernel_rfl) (by kernel_rfl) (by kernel_rfl) (els_mk4 (S := S1) (w := w1) (k := .u64) uo4) (els_mk4 (S := S1) (w := w1) (k := .u64) uo5) (Xm (els_mk4 (S := S1) (w := w1) (k := .u64) uo4) rfl rfl) (Xm (els_mk4 (S := S1) (w := w1) (k := .u64) uo5) rfl rfl) ?_
  refine Gn 1 [(33, .bool (decide (x1v.Set = uo3)))] (Zr Qrl [5, 6, 7] Jyr) ?_
  refine Gi h (fun h14 h => ?_) fun h14 h => ?_
  ·
   rw [dt h14]
   refine Gm 4 [([34, 35, 2], .bool x4)] Jyr ?_
   obtain rfl := sj h
   have p1 := (p1.dp 0).dp 0
   exact Xd Tryz.f230 (.bool x4) ⟨_, rfl, hx, p1⟩
  ·
   rw [df h14]
   refine Gm 4 [([34], undef), ([35, 2], .bool false)] Jyr ?_
   obtain rfl := sj h
   have p1 := (p1.dp 0).dp 0
   exact Xd Tryz.f230 (.bool false) ⟨_, rfl, hx, p1⟩
 ·
  rw [bf h13]
  refine Gm 6 [([37, 36], .bool (decide (x16 = 4)))] (Ys 111101011111 B230 Jyb) ?_
  refine Gi h (fun h15 h => ?_) fun h15 h => ?_
  ·
   rw [dt h15]
   refine Gn 4 [(38, (pt gx1 6))] (Zr Qrn [1, 2, 3, 4, 5, 6, 7, 8] Jyj) ?_
   refine Xc 3 38 39 3 ⟨gx1, 6, none⟩ (.i x1v.Min) (p1.c 0 6) ?_
   refine Gm 2 [([40, 41], .bool (decide (x1v.Min ≥ 0)))] (Zr Qrn [4, 5, 6, 7, 8] Jyj) ?_
   refine Gi h (fun h16 h => ?_) fun h16 h => ?_
   ·
    rw [dt h16]
    refine Gn 1 [(42, (pt gx1 6))] (Zr Qrn [5, 6, 7, 8] Jyj) ?_
    refine Xc 3 42 43 3 ⟨gx1, 6, none⟩ (.i x1v.Min) (p1.c 0 6) ?_
    refine Gm 4 [([44, 45, 5], .bool (decide (x1v.Min ≤ 64)))] Jyj ?_
    exact Gj 77 [(1, (pt gx1 0)), (3, (pt gx3 0)), (5, .bool (decide (x1v.Min ≤ 64)))] (W.z62 _ _ h _ _ hx _ _ _ _ _ p1 uo4 u1n rfl uo5)
   ·
    rw [df h16]
    refine Gm 6 [([42, 43, 44], undef), ([45, 5], .bool false)] Jyj ?_
    exact Gj 77 [(1, (pt gx1 0)), (3, (pt gx3 0)), (5, .bool false)] (W.z62 _ _ h _ _ hx _ _ _ _ _ p1 uo4 u1n rfl uo5)
  ·
   rw [df h15]
   refine Gn 7 [(2, .bool false)] (Ys 111111 B230 []) ?_
   obtain rfl := sj h
   have p1 := (p1.dp 0).dp 0
   exact Xd Tryz.f230 (.bool false) ⟨_, rfl, hx, p1⟩
def Jyz := Ys 1111 B230 []
def Jz3 := Ys 1111010101 B230 Jyb
def Qru := Yq 1111010100 B230
def L.z64 : T26 × (List Int) × Bool → Bool → Prop := fun ⟨x1v, uo3, x4⟩ r => ∀ S1 w1, Ext S0 w0 S1 w1 → ∀ gx1 u1g u1h u1i gx3 (_ : Hp nz wz S1 w1 ((some gx1, .row 27 (vT26 x1v u1g u1h u1i) 8 0) :: (some gx3, .row 24 (U4 uo3 []) 4 0) :: Lr)) (_ : x1v.Set.length = 4) (_ : Rd kT26 S1 w1 u1g u1i x1v.L) (_ : x1v.L.length = u1h) (_ : uo3.length = 4) (junk : Nat → Value),
 Goes Tg (base 230) Jyz ⟨lfr 77 [(1, (pt gx1 0)), (3, (pt gx3 0)), (4, .bool x4)] junk, []⟩ w1 (Done Tg 230 (Rets (Post.z60 nz wz S0 w0 Lr r)))
theorem W.z64 {nz wz S0 w0 Lr} : ∀ a r, M.a7e a = some r → L.z64 nz wz S0 w0 Lr a r := by
 intro ⟨x1v, uo3, x4⟩ r h S1 w1 hx gx1 u1g u1h u1i gx3 p1 uo4 u1n u1o uo5 junk
 rw [M.a7e] at h
 try dsimp only at h
 subst u1o
 refine Gn 4 [(15, (pt gx1 0))] (Yt 111100 B230 [1] (Ys 111101 B230 Jya)) ?_
 refine Xc 3 15 16 3 ⟨gx1, 0, none⟩ (.i x1v.Kind) (p1.c 0 0) ?_
 refine Gm 7 [([18, 17], .bool (decide (x1v.Kind = 1)))] (Ys 11110101 B230 Jyb) ?_
 refine Gi h (fun h8 h => ?_) fun h8 h => ?_
 ·
  rw [dt h8]
  refine Gn 4 [(19, (pt gx1 5))] (Zr Qru [1, 2, 3, 4, 5, 6, 7] Jz3) ?_
  refine Xc 25 19 20 25 ⟨gx1, 5, none⟩ (Sl u1g x1v.L u1i) (p1.c 0 5) ?_
  refine Gm 3 [([21], .i (x1v.L.length : Int)), ([22, 23], .bool (decide ((x1v.L.length : Int) = 0)))] (Zr Qru [5, 6, 7] Jz3) ?_
  refine Gi h (fun h9 h => ?_) fun h9 h => ?_
  ·
   rw [dt h9]
   refine Gm 4 [([24, 25, 2], .bool x4)] Jz3 ?_
   obtain rfl := sj h
   have p1 := (p1.dp 0).dp 0
   exact Xd Tryz.f230 (.bool x4) ⟨_, rfl, hx, p1⟩
  ·
   rw [df h9]
   refine Gm 4 [([24], undef), ([25, 2], .bool false)] Jz3 ?_
   obtain rfl := sj h
   have p1 := (p1.dp 0).dp 0
   exact Xd Tryz.f230 (.bool false) ⟨_, rfl, hx, p1⟩
 ·
  rw [df h8]
  refine Gm 7 [([27, 26], .bool (decide (x1v.Kind = 2)))] (Ys 11110101101 B230 Jyq) ?_
  refine Gi h (fun h10 h => ?_) fun h10 h => ?_
  ·
   rw [dt h10]
   refine Gn 2 [] Jyq ?_
   exact Gj 77 [(1, (pt gx1 0)), (3, (pt gx3 0)), (4, .bool x4), (16, .i x1v.Kind), (26, .bool true)] (W.z63 _ _ h _ _ hx _ _ _ _ _ p1 uo4 u1n rfl uo5)
  ·
   rw [df h10]
   refine Gm 5 [([28, 26], .bool (decide (x1v.Kind = 3)))] Jyq ?_
   exact Gj 77 [(1, (pt gx1 0)), (3, (pt gx3 0)), (4, .bool x4), (16, .i x1v.Kind), (26, .bool (decide (x1v.Kind = 3)))] (W.z63 _ _ h _ _ hx _ _ _ _ _ p1 uo4 u1n rfl uo5)
def Qs0 := Yq 1110 B230
theorem W.z60 (x0 : T26) (r : Bool) (h : M.a6n x0 = some r) {nz wz S0 w0 Lr} (u5 u6 u7) (p0 : Hp nz wz S0 w0 (Lr)) (unz : x0.Set.length = 4) (um : Rd kT26 S0 w0 u5 u7 x0.L) (un : x0.L.length = u6) :
  Calls Tg 230 #[(ag (vT26 x0 u5 u6 u7))] w0 (Rets (Post.z60 nz wz S0 w0 Lr r)) := by
 subst un
 refine Zf Tryz.f230 B230 76 ?_
 refine Gj 77 [(0, (ag (vT26 x0 u5 x0.L.length u7)))] fun junk => ?_
 delta M.a6n at h
 refine Gn 2 [] (Yt 10 B230 [0, 1] (Ys 11 B230 [])) ?_
 refine Ob 27 0 1 0 (ag (vT26 x0 u5 x0.L.length u7)) (vT26 x0 u5 x0.L.length u7) p0 Xa fun b1 w2 z2 p2 => ?_
 refine Gn 4 [(2, .bool false)] (Yt 110 B230 [0] (Ys 111 B230 [])) ?_
 refine Oa 24 3 0 (.agg #[.u 0, .u 0, .u 0, .u 0]) [.u 0, .u 0, .u 0, .u 0] p2 Xa fun b3 w3 z3 p3 => ?_
 refine Gn 4 [(7, (pt b1 6))] (Zr Qs0 [1, 2, 3, 4, 5, 6, 7, 8] Jyz) ?_
 refine Xc 3 7 8 3 ⟨b1, 6, none⟩ (.i x0.Min) (p3.c 1 6) ?_
 refine Gm 2 [([9, 10], .bool (decide (x0.Min = 0)))] (Zr Qs0 [4, 5, 6, 7, 8] Jyz) ?_
 refine Gi h (fun h5 h => ?_) fun h5 h => ?_
 ·
  rw [dt h5]
  refine Gn 1 [(11, (pt b1 7))] (Zr Qs0 [5, 6, 7, 8] Jyz) ?_
  refine Xc 3 11 12 3 ⟨b1, 7, none⟩ (.i x0.Max) (p3.c 1 7) ?_
  refine Gm 4 [([13, 14, 4], .bool (decide (x0.Max = 0)))] Jyz ?_
  have p3 := (p3.fr 0).fr 1
  exact Gj 77 [(1, (pt b1 0)), (3, (pt b3 0)), (4, .bool (decide (x0.Max = 0)))] (W.z64 _ _ h _ _ (z2.t z3) _ _ _ _ _ p3 unz (um.ext (z2.t z3)) rfl rfl)
 ·
  rw [df h5]
  refine Gm 6 [([11, 12, 13], undef), ([14, 4], .bool false)] Jyz ?_
  have p3 := (p3.fr 0).fr 1
  exact Gj 77 [(1, (pt b1 0)), (3, (pt b3 0)), (4, .bool false)] (W.z64 _ _ h _ _ (z2.t z3) _ _ _ _ _ p3 unz (um.ext (z2.t z3)) rfl rfl)
def Jze := Ys 111 B180 []
def Qs2 := Yq 110100 B180
def Jzg := Zl Qs2 (Zb 0 Jze)
def Jzh := Zc Qs2 Jzg
def Jzp := Zb 1 (Ys 110100111 B180 Jzg)
def Jzs := Ys 110100110011 B180 Jzp
def Jzv := Ys 1111 B180 []
def Post.z65 (r : Bool) (v : Value) (w' : World) : Prop :=
 ∃ S', v = .bool r ∧ Ext S0 w0 S' w' ∧ Hp nz wz S' w' (Lr)
def LF.z65 : T26 → Bool → Prop := fun x0 r => ∀ {nz wz S0 w0 Lr} u5 u6 u7 (_ : Hp nz wz S0 w0 (Lr)) (_ : x0.Set.length = 4) (_ : Rd kT26 S0 w0 u5 u7 x0.L) (_ : x0.L.length = u6),
 Calls Tg 180 #[(ag (vT26 x0 u5 u6 u7))] w0 (Rets (Post.z65 nz wz S0 w0 Lr r))
def L.z66 : T26 × (List T26) × Int × Int → Bool → Prop := fun ⟨x1v, x6, x7, x8⟩ r => ∀ S1 w1, Ext S0 w0 S1 w1 → ∀ gx1 u1g u1h u1i Ax6 nx6 cx6 (_ : Hp nz wz S1 w1 ((some gx1, .row 27 (vT26 x1v u1g u1h u1i) 8 0) :: Lr)) (_ : x1v.Set.length = 4) (_ : Rd kT26 S1 w1 u1g u1i x1v.L) (_ : x1v.L.length = u1h) (_ : Rd kT26 S1 w1 Ax6 cx6 x6) (_ : x6.length = nx6) (junk : Nat → Value),
 Goes Tg (base 180) Jzh ⟨lfr 18 [(1, (pt gx1 0)), (6, .slice Ax6 nx6 cx6), (7, .i x7), (8, .i x8)] junk, []⟩ w1 (Done Tg 180 (Rets (Post.z65 nz wz S0 w0 Lr r)))
def LL.z66 : T26 × (List T26) × Int × Int → Bool → Prop := fun a r => ∀ {nz wz S0 w0 Lr}, L.z66 nz wz S0 w0 Lr a r
theorem W.z67 : (∀ a r, M.a1o a = some r → LF.z65 a r) ∧ (∀ a r, M.a2u a = some r → LL.z66 a r) := by
 refine M.a1o.mutual_partial_correctness LF.z65 LL.z66 ?_ ?_
 ·
  intro uo6 uo7 x0 r h nz wz S0 w0 Lr u5 u6 u7 p0 unz um un
  try dsimp only at h
  subst un
  refine Zf Tryz.f180 B180 17 ?_
  refine Gj 18 [(0, (ag (vT26 x0 u5 x0.L.length u7)))] fun junk => ?_
  refine Gn 2 [] (Yt 10 B180 [0, 1] (Ys 11 B180 [])) ?_
  refine Ob 27 0 1 0 (ag (vT26 x0 u5 x0.L.length u7)) (vT26 x0 u5 x0.L.length u7) p0 Xa fun b1 w2 z2 p2 => ?_
  refine Gn 6 [(2, .bool false), (5, (pt b1 5))] (Yt 1100 B180 [1, 2, 3] (Ys 1101 B180 Jze)) ?_
  refine Xc 25 5 6 25 ⟨b1, 5, none⟩ (Sl u5 x0.L u7) (p2.c 0 5) ?_
  refine Gn 5 [(7, .i (x0.L.length : Int)), (8, .i 0)] Jzh ?_
  exact Gj 18 [(1, (pt b1 0)), (6, Sl u5 x0.L u7), (7, .i (x0.L.length : Int)), (8, .i 0)] (uo7 _ _ h _ _ z2 _ _ _ _ _ _ _ p2 unz (um.ext z2) rfl (um.ext z2) rfl)
 ·
  intro rec_syntax_right uo6 ih_syntax_right uo7 ⟨x1v, x6, x7, x8⟩ r h nz wz S0 w0 Lr S1 w1 hx gx1 u1g u1h u1i Ax6 nx6 cx6 p1 uo4 u1n u1o fx6 lx6 junk
  try dsimp only at h
  subst u1o
  subst lx6
  refine Gn 5 [(9, .bool (decide (x8 < x7)))] (Ys 11010010 B180 (Ys 11010011 B180 Jzg)) ?_
  refine Gi h (fun h4 h => ?_) fun h4 h => ?_
  ·
   rw [dt h4]
   refine Gn 6 [] (Yt 11010011000 B180 [0, 1, 2, 3] (Ys 11010011001 B180 Jzp)) ?_
   refine Gg h fun g5 h => ?_
   refine Gg h fun g6 h => ?_
   refine Oi 25 6 8 10 0 27 .i64 x8 (gi x6 x8) rfl rfl fx6 Xa g5 g6 fun a7 _ f8 q9 => ?_
   have q10 := q9
   obtain ⟨_, _, rfl, rfl, ⟨_, _, rfl, ⟨l11, f12⟩, ⟨_, _, rfl, ⟨A13, c14, rfl, f15⟩, ⟨_, _, rfl, rfl, rfl⟩⟩⟩⟩ := kT26_open q10
   obtain rfl := els_lit4' f12 l11
   refine Xg 27 10 11 27 a7 ([.i ((gi x6 x8).Kind)] ++ ((U4 ((gi x6 x8).Set) []) ++ ([.slice A13 (((gi x6 x8).L).length) c14] ++ ([.i ((gi x6 x8).Min)] ++ [.i ((gi x6 x8).Max)])))) (f8.cell) ?_
   refine Oa 27 4 0 (.agg #[.i 0, .u 0, .u 0, .u 0, .u 0, Sn, .i 0, .i 0]) [.i 0, .u 0, .u 0, .u 0, .u 0, Sn, .i 0, .i 0] p1 Xa fun b16 w3 z3 p3 => ?_
   refine So 27 4 11 0 0 b16 0 (ag (.i ((gi x6 x8).Kind) :: U4 ((gi x6 x8).Set) [.slice A13 (((gi x6 x8).L).length) c14, .i ((gi x6 x8).Min), .i ((gi x6 x8).Max)])) (.i ((gi x6 x8).Kind) :: U4 ((gi x6 x8).Set) [.slice A13 (((gi x6 x8).L).length) c14, .i ((gi x6 x8).Min), .i ((gi x6 x8).Max)]) p3 rfl Xe fun w4 z4 p4 => ?_
   refine Gn 3 [] (Yt 110100110010 B180 [0, 1, 2] Jzs) ?_
   refine Xg 27 4 12 27 ⟨b16, 0, none⟩ (.i ((gi x6 x8).Kind) :: U4 ((gi x6 x8).Set) [.slice A13 (((gi x6 x8).L).length) c14, .i ((gi x6 x8).Min), .i ((gi x6 x8).Max)]) (p4.pa 0 0) ?_
   refine Gb h fun y18 e19 h => ?_
   refine Gc (kc 180 [12] #[27]) 13 4 180 _ (ih_syntax_right (⟨(gi x6 x8).Kind, ((gi x6 x8).Set), (gi x6 x8).L, (gi x6 x8).Min, (gi x6 x8).Max⟩ : T26) y18 e19 _ _ _ p4 l11 (f15.ext (z3.t z4)) rfl) ?_
   rintro _ w5 ⟨S5, rfl, z5, p5⟩
   have p5 := p5.dp 0
   refine Gn 2 [(14, .bool (!y18))] Jzs ?_
   refine Gi h (fun h20 h => ?_) fun h20 h => ?_
   ·
    rw [h20]
    refine Gm 8 [([15, 8], .i (wr .i64 (x8 + 1)))] Jzh ?_
    exact Gj 18 [(1, (pt gx1 0)), (6, Sl Ax6 x6 cx6), (7, .i x7), (8, .i (wr .i64 (x8 + 1)))] (uo7 _ _ h _ _ (((hx.t z3).t z4).t z5) _ _ _ _ _ _ _ p5 uo4 (u1n.ext ((z3.t z4).t z5)) rfl (fx6.ext ((z3.t z4).t z5)) rfl)
   ·
    rw [bf h20]
    refine Gn 5 [(2, .bool false)] (Ys 11010011001101 B180 Jzp) ?_
    obtain rfl := sj h
    have p5 := p5.dp 0
    exact Xd Tryz.f180 (.bool false) ⟨_, rfl, (((hx.t z3).t z4).t z5), p5⟩
  ·
   rw [df h4]
   refine Gn 4 [] (Yt 1110 B180 [0, 1, 2] Jzv) ?_
   refine Xg 27 1 16 27 ⟨gx1, 0, none⟩ (vT26 x1v u1g x1v.L.length u1i) (p1.pa 0 0) ?_
   refine Gb h fun y21 e22 h => ?_
   refine Gc (kc 230 [16] #[27]) 17 4 230 _ (W.z60 x1v y21 e22 _ _ _ p1 uo4 u1n rfl) ?_
   rintro _ w6 ⟨S6, rfl, z6, p6⟩
   have p6 := p6.dp 0
   refine Gn 2 [(2, .bool y21)] Jzv ?_
   obtain rfl := sj h
   exact Xd Tryz.f180 (.bool y21) ⟨_, rfl, (hx.t z6), p6⟩
theorem W.z65 : ∀ a r, M.a1o a = some r → LF.z65 a r := (W.z67).1
theorem W.z66 : ∀ a r, M.a2u a = some r → LL.z66 a r := (W.z67).2
def J101 := Ys 1111 B114 []
def J102 := Ys 11101 B114 J101
def Qsn := Yq 11100 B114
def J105 := Ys 11111 B114 []
def J107 := Ys 1110101 B114 J101
def Post.z68 (r : Int) (v : Value) (w' : World) : Prop :=
 ∃ S', v = .i r ∧ Ext S0 w0 S' w' ∧ Hp nz wz S' w' (Lr)
theorem W.z68 (x0 : T26) (r : Int) (h : M.a5f x0 = some r) {nz wz S0 w0 Lr} (u5 u6 u7) (p0 : Hp nz wz S0 w0 (Lr)) (unz : x0.Set.length = 4) (um : Rd kT26 S0 w0 u5 u7 x0.L) (un : x0.L.length = u6) :
  Calls Tg 114 #[(ag (vT26 x0 u5 u6 u7))] w0 (Rets (Post.z68 nz wz S0 w0 Lr r)) := by
 subst un
 refine Zf Tryz.f114 B114 12 ?_
 refine Gj 13 [(0, (ag (vT26 x0 u5 x0.L.length u7)))] fun junk => ?_
 delta M.a5f at h
 refine Gn 2 [] (Yt 10 B114 [0, 1] (Ys 11 B114 [])) ?_
 refine Ob 27 0 1 0 (ag (vT26 x0 u5 x0.L.length u7)) (vT26 x0 u5 x0.L.length u7) p0 Xa fun b1 w2 z2 p2 => ?_
 refine Gn 4 [(2, .i 0)] (Yt 110 B114 [0, 1] (Ys 111 B114 [])) ?_
 refine Oa 3 3 0 (.i 0) [.i 0] p2 Xa fun b3 w3 z3 p3 => ?_
 refine So 3 3 (.const (.int .i64 0)) 0 0 b3 0 (.i 0) [.i 0] p3 rfl Xe fun w4 z4 p4 => ?_
 refine Gn 4 [] (Zr Qsn [0, 1, 2, 3, 4, 5, 6, 7] J102) ?_
 refine Xg 27 1 4 27 ⟨b1, 0, none⟩ (vT26 x0 u5 x0.L.length u7) (p4.pa 1 0) ?_
 refine Gb h fun y5 e6 h => ?_
 refine Gc (.call { callee := .value (.func 179), args := #[4, (.const (.int .i64 128)), 3], argTypes := #[27, 3, 33] }) 5 4 179 _ (W.z5w (x0, 128, 0) y5 e6 _ _ _ _ p4 unz (um.ext ((z2.t z3).t z4)) rfl) ?_
 rintro _ w5 ⟨S5, rfl, z5, p5⟩
 refine Gm 2 [([6, 7], .bool (!y5.1))] (Zr Qsn [4, 5, 6, 7] J102) ?_
 refine Gi h (fun h7 h => ?_) fun h7 h => ?_
 ·
  rw [h7]
  refine Xg 27 1 8 27 ⟨b1, 0, none⟩ (vT26 x0 u5 x0.L.length u7) (p5.pa 1 0) ?_
  refine Gb h fun y8 e9 h => ?_
  refine Gc (kc 180 [8] #[27]) 9 4 180 _ (W.z65 x0 y8 e9 _ _ _ p5 unz (um.ext (((z2.t z3).t z4).t z5)) rfl) ?_
  rintro _ w6 ⟨S6, rfl, z6, p6⟩
  have p6 := p6.dp 1
  refine Gm 3 [([10, 11], .bool (!y8))] J102 ?_
  refine Gi h (fun h10 h => ?_) fun h10 h => ?_
  ·
   rw [h10]
   refine Gn 4 [] (Yt 11110 B114 [0, 1] J105) ?_
   refine Xc 3 3 12 3 ⟨b3, 0, none⟩ (.i y5.2) (p6.c 0 0) ?_
   refine Gn 2 [(2, .i y5.2)] J105 ?_
   obtain rfl := sj h
   have p6 := p6.dp 0
   exact Xd Tryz.f114 (.i y5.2) ⟨_, rfl, ((((z2.t z3).t z4).t z5).t z6), p6⟩
  ·
   rw [bf h10]
   refine Gn 5 [(2, .i 0)] J107 ?_
   obtain rfl := sj h
   have p6 := p6.dp 0
   exact Xd Tryz.f114 (.i 0) ⟨_, rfl, ((((z2.t z3).t z4).t z5).t z6), p6⟩
 ·
  rw [bf h7]
  refine Gm 10 [([8, 9, 10], undef), ([11], .bool true), ([2], .i 0)] J107 ?_
  obtain rfl := sj h
  have p5 := (p5.dp 0).dp 0
  exact Xd Tryz.f114 (.i 0) ⟨_, rfl, (((z2.t z3).t z4).t z5), p5⟩
def J10a := Ys 111 B53 []
def Post.z69 (r : Bool) (v : Value) (w' : World) : Prop :=
 ∃ S', v = .bool r ∧ Ext S0 w0 S' w' ∧ Hp nz wz S' w' (Lr)
theorem W.z69 (x0 : T26) (r : Bool) (h : M.a5g x0 = some r) {nz wz S0 w0 Lr} (u5 u6 u7) (p0 : Hp nz wz S0 w0 (Lr)) (unz : x0.Set.length = 4) (um : Rd kT26 S0 w0 u5 u7 x0.L) (un : x0.L.length = u6) :
  Calls Tg 53 #[(ag (vT26 x0 u5 u6 u7))] w0 (Rets (Post.z69 nz wz S0 w0 Lr r)) := by
 subst un
 refine Zf Tryz.f53 B53 5 ?_
 refine Gj 6 [(0, (ag (vT26 x0 u5 x0.L.length u7)))] fun junk => ?_
 delta M.a5g at h
 refine Gn 2 [] (Yt 10 B53 [0, 1] (Ys 11 B53 [])) ?_
 refine Ob 27 0 1 0 (ag (vT26 x0 u5 x0.L.length u7)) (vT26 x0 u5 x0.L.length u7) p0 Xa fun b1 w2 z2 p2 => ?_
 refine Gn 4 [(2, .bool false)] (Yt 110 B53 [0, 1, 2, 3] J10a) ?_
 refine Xg 27 1 3 27 ⟨b1, 0, none⟩ (vT26 x0 u5 x0.L.length u7) (p2.pa 0 0) ?_
 refine Gb h fun y3 e4 h => ?_
 refine Gc (kc 114 [3] #[27]) 4 3 114 _ (W.z68 x0 y3 e4 _ _ _ p2 unz (um.ext z2) rfl) ?_
 rintro _ w3 ⟨S3, rfl, z3, p3⟩
 have p3 := p3.dp 0
 refine Gm 3 [([5, 2], .bool (decide (y3 > 0)))] J10a ?_
 obtain rfl := sj h
 exact Xd Tryz.f53 (.bool (decide (y3 > 0))) ⟨_, rfl, (z2.t z3), p3⟩
def J10e := Ys 111 B214 []
def Qsy := Yq 110 B214
def Post.z6a (r : Bool) (v : Value) (w' : World) : Prop :=
 ∃ S', v = .bool r ∧ Ext S0 w0 S' w' ∧ Hp nz wz S' w' (Lr)
theorem W.z6a (x0 : List Int) (x1 : Int) (r : Bool) (h : M.a5h x0 x1 = some r) {nz wz S0 w0 Lr} (ugd) (p0 : Hp nz wz S0 w0 (Lr)) (fx0 : Els kU S0 w0 ugd x0) (lx0 : ugd.length = 4) :
  Calls Tg 214 #[.agg ugd.toArray, .int .u8 x1] w0 (Rets (Post.z6a nz wz S0 w0 Lr r)) := by
 refine Zf Tryz.f214 B214 12 ?_
 refine Gj 14 [(0, .agg ugd.toArray), (1, .int .u8 x1)] fun junk => ?_
 delta M.a5h at h
 refine Gn 2 [] (Yt 10 B214 [0, 1] (Ys 11 B214 [])) ?_
 refine Op_.box 24 0 2 0 (.agg ugd.toArray) ugd p0 Xa (by kernel_rfl) rfl fun b1 w2 z2 p2 => ?_
 replace p2 : Hp nz wz S0 w2 ((some b1, .row 24 ugd 4 0) :: Lr) := by rw [show (ugd).length = 4 from lx0] at p2; exact p2
 refine Gn 6 [(4, .bool false), (5, .int .u8 x1), (6, .int .u8 (iquo .u8 x1 64))] (Zr Qsy [2, 3, 4, 5, 6, 7, 8, 9] J10e) ?_
 refine Gg h fun g3 h => ?_
 refine Gg h fun g4 h => ?_
 refine Op_.ixA_n (K := kU) 24 2 6 7 0 22 4 .u8 (iquo .u8 x1 64) 0 (gi x0 (iquo .u8 x1 64)) rfl p2 rfl (fx0.ext z2) (Xm (fx0.ext z2) lx0 rfl) Xa (by kernel_rfl) (by kernel_rfl) (by kernel_rfl) (by kernel_rfl) g3 g4 fun _ q6 f5 => ?_
 obtain rfl := q6
 refine Xc 22 7 8 22 ⟨b1, (iquo .u8 x1 64 : Int).toNat * kU.size, none⟩ (.u (gi x0 (iquo .u8 x1 64))) (f5 0 _ rfl) ?_
 refine Gn 2 [(9, .int .u8 x1), (10, .int .u8 (irem .u8 x1 64))] (Zr Qsy [6, 7, 8, 9] J10e) ?_
 refine Gg h fun g7 h => ?_
 refine Op_.binshr 22 8 10 5 11 22 .u64 .u8 (gi x0 (iquo .u8 x1 64)) (irem .u8 x1 64) Xa (by kernel_rfl) (by kernel_rfl) g7 ?_
 refine Gm 4 [([12], .u (iand .u64 (ishr .u64 (gi x0 (iquo .u8 x1 64)) (irem .u8 x1 64)) 1)), ([13, 4], .bool (decide (iand .u64 (ishr .u64 (gi x0 (iquo .u8 x1 64)) (irem .u8 x1 64)) 1 = 1)))] J10e ?_
 obtain rfl := sj h
 have p2 := p2.dp 0
 exact Xd Tryz.f214 (.bool (decide (iand .u64 (ishr .u64 (gi x0 (iquo .u8 x1 64)) (irem .u8 x1 64)) 1 = 1))) ⟨_, rfl, z2, p2⟩
def J10j := Ys 111 B184 []
def Post.z6b (r : T218) (v : Value) (w' : World) : Prop :=
 ∃ S' uo8 uaz ub0, v = (ag (vT218 r uo8 uaz ub0)) ∧ Ext S0 w0 S' w' ∧ Hp nz wz S' w' (Lr) ∧ Rd kStr S' w' uo8 ub0 r.l ∧ r.l.length = uaz
theorem W.z6b (r : T218) (h : M.a3 = some r) {nz wz S0 w0 Lr} (p0 : Hp nz wz S0 w0 (Lr)) :
  Calls Tg 184 #[] w0 (Rets (Post.z6b nz wz S0 w0 Lr r)) := by
 refine Zf Tryz.f184 B184 2 ?_
 refine Gj 2 [] fun junk => ?_
 delta M.a3 at h
 refine Gn 2 [] (Yt 10 B184 [0] (Ys 11 B184 [])) ?_
 refine Oa 219 0 0 (.agg #[Sn, .bool false]) [Sn, .bool false] p0 Xa fun b1 w2 z2 p2 => ?_
 refine Gn 4 [(1, .agg #[Sn, .bool false])] (Yt 110 B184 [1] J10j) ?_
 refine So 219 0 1 0 0 b1 0 (.agg #[Sn, .bool false]) [Sn, .bool false] p2 rfl Xe fun w3 z3 p3 => ?_
 refine Gn 1 [] J10j ?_
 obtain rfl := sj h
 exact R1 Tryz.f184 (.cell 0 219) (.agg #[Sn, .bool false]) (Rn b1 (p3.pa 0 0)) ⟨_, _, _, _, rfl, (z2.t z3), p3.drop, Xr, rfl⟩
def Qt4 := Yq 1110100 B181
def J10n := Zl Qt4 (Zb 0 (Ys 1111 B181 []))
def J10o := Zc Qt4 J10n
def J10q := Zb 1 (Ys 1110100111 B181 J10n)
def J10t := Ys 1110100110011 B181 J10q
def Qt9 := Yq 1110100110010 B181
def J10x := Ys 11111 B181 []
def J10z := Ys 11110101 B181 J10x
def J111 := Ys 111111 B181 []
def Post.z6c (r : T218) (v : Value) (w' : World) : Prop :=
 ∃ S' uo8 uaz ub0, v = (ag (vT218 r uo8 uaz ub0)) ∧ Ext S0 w0 S' w' ∧ Hp nz wz S' w' (Lr) ∧ Rd kStr S' w' uo8 ub0 r.l ∧ r.l.length = uaz
def L.z6d : (List Int) × T218 × (List ByteArray) × Int → T218 → Prop := fun ⟨x1, x2v, x3, x5⟩ r => ∀ S1 w1, Ext S0 w0 S1 w1 → ∀ gx1 ug8 gx2 uo9 uoa uob uoc Gx3 nx3 cx3 u6j (_ : Hp nz wz S1 w1 ((some gx1, .row 24 ug8 4 0) :: (some gx2, .row 219 (vT218 x2v (Gp uo9) uoa uob) 2 0) :: (uo9, .row 9 uoc (uob * kStr.size) 0) :: (Gx3, .row 9 u6j (cx3 * kStr.size) 0) :: Lr)) (_ : Els kU S1 w1 ug8 x1) (_ : ug8.length = 4) (_ : Els kStr S1 w1 uoc x2v.l) (_ : x2v.l.length = uoa) (_ : Els kStr S1 w1 u6j x3) (_ : x3.length = nx3) (junk : Nat → Value),
 Goes Tg (base 181) J10o ⟨lfr 26 [(1, (pt gx1 0)), (2, (pt gx2 0)), (3, .slice (Gp Gx3) nx3 cx3), (5, .i x5)] junk, []⟩ w1 (Done Tg 181 (Rets (Post.z6c nz wz S0 w0 Lr r)))
def L.z6e : (List Int) × T218 × (List ByteArray) × Int → T218 → Prop := fun ⟨x1, x2v, x3, x5⟩ r => ∀ S1 w1, Ext S0 w0 S1 w1 → ∀ gx1 ug8 gx2 uo9 uoa uob uoc Gx3 nx3 cx3 u6j (_ : Hp nz wz S1 w1 ((some gx1, .row 24 ug8 4 0) :: (some gx2, .row 219 (vT218 x2v (Gp uo9) uoa uob) 2 0) :: (uo9, .row 9 uoc (uob * kStr.size) 0) :: (Gx3, .row 9 u6j (cx3 * kStr.size) 0) :: Lr)) (_ : Els kU S1 w1 ug8 x1) (_ : ug8.length = 4) (_ : Els kStr S1 w1 uoc x2v.l) (_ : x2v.l.length = uoa) (_ : Els kStr S1 w1 u6j x3) (_ : x3.length = nx3) (junk : Nat → Value),
 Goes Tg (base 181) J10q ⟨lfr 26 [(1, (pt gx1 0)), (2, (pt gx2 0)), (3, .slice (Gp Gx3) nx3 cx3), (5, .i x5)] junk, []⟩ w1 (Done Tg 181 (Rets (Post.z6c nz wz S0 w0 Lr r)))
theorem W.z6f {nz wz S0 w0 Lr} : (∀ a r, M.a1p a = some r → (L.z6d nz wz S0 w0 Lr) a r) ∧ (∀ a r, M.a2v a = some r → (L.z6e nz wz S0 w0 Lr) a r) := by
 refine M.a1p.mutual_partial_correctness (L.z6d nz wz S0 w0 Lr) (L.z6e nz wz S0 w0 Lr) ?_ ?_
 ·
  intro uod uoe ⟨x1, x2v, x3, x5⟩ r h S1 w1 hx gx1 ug8 gx2 uo9 uoa uob uoc Gx3 nx3 cx3 u6j p1 fx1 lx1 uof ugb fx3 lx3 junk
  try dsimp only at h
  subst ugb
  subst lx3
  refine Gn 5 [(6, .bool (decide (x5 < 256)))] (Ys 111010010 B181 (Ys 111010011 B181 J10n)) ?_
  refine Gi h (fun h11 h => ?_) fun h11 h => ?_
  ·
   rw [dt h11]
   refine Gm 11 [([7, 4], .i x5)] (Zr Qt9 [0, 1, 2, 3] J10t) ?_
   refine Xs 24 1 8 24 ⟨gx1, 0, none⟩ ug8 Xa (by kernel_rfl) (by kernel_rfl) (by rw [lx1]; kernel_rfl) (At_all (p1.mem 0 rfl)) ?_
   refine Gn 2 [(9, .i x5), (10, .int .u8 (wr .u8 x5))] (Zr Qt9 [3] J10t) ?_
   refine Gb h fun y12 e13 h => ?_
   refine Gc (kc 214 [8, 10] #[24, 5]) 11 4 214 _ (W.z6a x1 (wr .u8 x5) y12 e13 _ p1 fx1 lx1) ?_
   rintro _ w4 ⟨S4, rfl, z4, p4⟩
   refine Gn 1 [] J10t ?_
   refine Gi h (fun h14 h => ?_) fun h14 h => ?_
   ·
    rw [h14]
    refine Gn 5 [(12, Sl (Gp Gx3) x3 cx3), (13, .i x5), (14, .int .u8 (wr .u8 x5))] (Yt 11101001100110 B181 [3, 4, 5, 6, 7] J10q) ?_
    have f16 : Els (kInt .u8) S4 w4 ([.int .u8 (wr .u8 x5)] : List Value) [wr .u8 x5] := by exact (Els.cons (K := (kInt .u8)) (vs := [.int .u8 (wr .u8 x5)]) (x := wr .u8 x5) rfl Els.nil)
    refine Om (.buildSlice 141 1 #[(0, 14)]) 15 141 (fun b => .slice (Gp (some b)) 1 1) 5 ([.int .u8 (wr .u8 x5)] : List Value) (1 * (kInt .u8).size) p4 Xa fun b15 w5 z5 p5 => ?_
    obtain ⟨S6, z6, p6, f18⟩ := p5.freezeRd 0 rfl (f16.ext z5) (by decide)
    refine Op_.b2s_n 141 9 15 16 9 5 (b2s [wr .u8 x5]) rfl rfl f18 Xa (by kernel_rfl) (by kernel_rfl) (by kernel_rfl) (by kernel_rfl) ?_
    have f20 : Els kStr S6 w5 ([.string (b2s [wr .u8 x5])] : List Value) [b2s [wr .u8 x5]] := by exact (Els.cons (K := kStr) (vs := [.string (b2s [wr .u8 x5])]) (x := b2s [wr .u8 x5]) rfl Els.nil)
    refine Om (.buildSlice 43 1 #[(0, 16)]) 17 43 (fun b => .slice (Gp (some b)) 1 1) 9 ([.string (b2s [wr .u8 x5])] : List Value) (1 * kStr.size) p6 Xa fun b19 w7 z7 p7 => ?_
    refine Gg h fun g25 h => ?_
    refine On (K := kStr) 43 12 17 18 43 9 5 (.string ⟨#[]⟩) 16 x3.length cx3 1 x3 [b2s [wr .u8 x5]] (x3 ++ [b2s [wr .u8 x5]]) (Gp (some b19)) 1 rfl rfl rfl p7 rfl (fx3.ext (((z4.t z5).t z6).t z7)) Xa (f20.ext z7) (src_own p7 (q := 0) rfl) g25 fun w8 G26 c27 uog z8 p8 f29 => ?_
    refine Gn 2 [(3, .slice (Gp G26) ((x3 ++ [b2s [wr .u8 x5]]).length) c27)] J10q ?_
    have p8 := (p8.dp 0).dp 0
    exact Gj 26 [(1, (pt gx1 0)), (2, (pt gx2 0)), (3, .slice (Gp G26) ((x3 ++ [b2s [wr .u8 x5]]).length) c27), (5, .i x5)] (uoe _ _ h _ _ (((((hx.t z4).t z5).t z6).t z7).t z8) _ _ _ _ _ _ _ _ _ _ _ p8 (fx1.ext ((((z4.t z5).t z6).t z7).t z8)) lx1 (uof.ext ((((z4.t z5).t z6).t z7).t z8)) rfl f29 rfl)
   ·
    rw [bf h14]
    refine Gn 2 [] J10q ?_
    exact Gj 26 [(1, (pt gx1 0)), (2, (pt gx2 0)), (3, Sl (Gp Gx3) x3 cx3), (5, .i x5)] (uoe _ _ h _ _ (hx.t z4) _ _ _ _ _ _ _ _ _ _ _ p4 (fx1.ext z4) lx1 (uof.ext z4) rfl (fx3.ext z4) rfl)
  ·
   rw [df h11]
   refine Gn 9 [(20, Sl (Gp Gx3) x3 cx3), (21, .i (x3.length : Int)), (22, .bool (decide ((x3.length : Int) > 8)))] (Ys 111101 B181 J10x) ?_
   refine Gi h (fun h34 h => ?_) fun h34 h => ?_
   ·
    rw [dt h34]
    refine Gn 3 [] (Yt 11110100 B181 [0, 1] J10z) ?_
    refine Gb h fun y35 e36 h => ?_
    refine Gc (kc 184 [] #[]) 23 219 184 _ (W.z6b y35 e36  p1 ) ?_
    rintro _ w9 ⟨S9, uoh, uoi, uoj, rfl, z9, p9, uok, rfl⟩
    have p9 := (p9.dp 0).dp 2
    refine So 219 2 23 0 0 gx2 0 (ag (vT218 y35 uoh y35.l.length uoj)) (vT218 y35 uoh y35.l.length uoj) p9 rfl Xe fun w10 z10 p10 => ?_
    refine Gn 1 [] J10z ?_
    obtain rfl := sj h
    have p10 := p10.dp 1
    exact R1 Tryz.f181 (.cell 2 219) (ag (vT218 y35 uoh y35.l.length uoj)) (Rn gx2 (p10.pa 0 0)) ⟨_, _, _, _, rfl, ((hx.t z9).t z10), p10.drop, (uok.ext z10), rfl⟩
   ·
    rw [df h34]
    refine Gn 6 [(24, Sl (Gp Gx3) x3 cx3), (25, .agg #[Sl (Gp Gx3) x3 cx3, .bool true])] (Yt 111110 B181 [2] J111) ?_
    refine So 219 2 25 0 1 gx2 0 (.agg #[Sl (Gp Gx3) x3 cx3, .bool true]) [Sl (Gp Gx3) x3 cx3, .bool true] p1 rfl Xe fun w11 z11 p11 => ?_
    refine Gn 1 [] J111 ?_
    obtain ⟨S12, z12, p12, f37⟩ := p11.freezeRd 3 rfl (fx3.ext z11) (by decide)
    obtain rfl := sj h
    have p12 := ((p12.dp 0).dp 1).dp 1
    exact R1 Tryz.f181 (.cell 2 219) (.agg #[Sl (Gp Gx3) x3 cx3, .bool true]) (Rn gx2 (p12.pa 0 0)) ⟨_, _, _, _, rfl, ((hx.t z11).t z12), p12.drop, f37, rfl⟩
 ·
  intro uol uom ⟨x1, x2v, x3, x5⟩ r h S1 w1 hx gx1 ug8 gx2 uo9 uoa uob uoc Gx3 nx3 cx3 u6j p1 fx1 lx1 uof ugb fx3 lx3 junk
  try dsimp only at h
  subst ugb
  subst lx3
  refine Gm 6 [([19, 5], .i (wr .i64 (x5 + 1)))] J10o ?_
  exact Gj 26 [(1, (pt gx1 0)), (2, (pt gx2 0)), (3, Sl (Gp Gx3) x3 cx3), (5, .i (wr .i64 (x5 + 1)))] (uom _ _ h _ _ hx _ _ _ _ _ _ _ _ _ _ _ p1 fx1 lx1 uof rfl fx3 rfl)
theorem W.z6d {nz wz S0 w0 Lr} : ∀ a r, M.a1p a = some r → (L.z6d nz wz S0 w0 Lr) a r := (W.z6f).1
theorem W.z6e {nz wz S0 w0 Lr} : ∀ a r, M.a2v a = some r → (L.z6e nz wz S0 w0 Lr) a r := (W.z6f).2
theorem W.z6c (x0 : List Int) (r : T218) (h : M.a5i x0 = some r) {nz wz S0 w0 Lr} (ugd) (p0 : Hp nz wz S0 w0 (Lr)) (fx0 : Els kU S0 w0 ugd x0) (lx0 : ugd.length = 4) :
  Calls Tg 181 #[.agg ugd.toArray] w0 (Rets (Post.z6c nz wz S0 w0 Lr r)) := by
 refine Zf Tryz.f181 B181 25 ?_
 refine Gj 26 [(0, .agg ugd.toArray)] fun junk => ?_
 delta M.a5i at h
 refine Gn 2 [] (Yt 10 B181 [0, 1] (Ys 11 B181 [])) ?_
 refine Op_.box 24 0 1 0 (.agg ugd.toArray) ugd p0 Xa (by kernel_rfl) rfl fun b1 w2 z2 p2 => ?_
 replace p2 : Hp nz wz S0 w2 ((some b1, .row 24 ugd 4 0) :: Lr) := by rw [show (ugd).length = 4 from lx0] at p2; exact p2
 refine Oa 219 2 0 (.agg #[Sn, .bool false]) [Sn, .bool false] p2 Xa fun b3 w3 z3 p3 => ?_
 refine Gn 12 [(3, Sn), (5, .i 0)] J10o ?_
 have p3 : Hp nz wz S0 w3 ((none, .row 9 [] (0 * kStr.size) 0) :: (some b3, .row 219 [Sn, .bool false] 2 0) :: (some b1, .row 24 ugd 4 0) :: Lr) := p3.nilRow' 9
 have p3 : Hp nz wz S0 w3 ((none, .row 9 [] (0 * kStr.size) 0) :: (none, .row 9 [] (0 * kStr.size) 0) :: (some b3, .row 219 [.slice (Gp none) 0 0, .bool false] 2 0) :: (some b1, .row 24 ugd 4 0) :: Lr) := p3.nilRow' 9
 have p3 := (((p3.fr 0).fr 1).fr 2).fr 3
 exact Gj 26 [(1, (pt b1 0)), (2, (pt b3 0)), (3, .slice (Gp none) 0 0), (5, .i 0)] (W.z6d _ _ h _ _ (z2.t z3) _ _ _ none 0 0 [] none 0 0 [] p3 (fx0.ext (z2.t z3)) lx0 (Els.nil (K := kStr)) rfl (Els.nil (K := kStr)) rfl)
def J116 := Yt 10 B183 [0] (Ys 11 B183 [])
def J118 := Yt 110 B183 [1] (Ys 111 B183 [])
def J11a := Yt 1110 B183 [1, 2] (Ys 1111 B183 [])
def J11b := Ys 11111 B183 []
def J11c := Ys 111101 B183 J11b
def J11d := Ys 11110101 B183 J11b
def J11e := Yt 11110100 B183 [0, 1] J11d
def J11f := Ys 111111 B183 []
def J11g := Yt 111110 B183 [2] J11f
def Post.z6g (r : T218) (v : Value) (w' : World) : Prop :=
 ∃ S' uo8 uaz ub0, v = (ag (vT218 r uo8 uaz ub0)) ∧ Ext S0 w0 S' w' ∧ Hp nz wz S' w' (Lr) ∧ Rd kStr S' w' uo8 ub0 r.l ∧ r.l.length = uaz
theorem W.z6g (x0 : List ByteArray) (r : T218) (h : M.a2w x0 = some r) {nz wz S0 w0 Lr} (Gx0 nx0 cx0 uon) (p0 : Hp nz wz S0 w0 ((Gx0, .row 9 uon (cx0 * kStr.size) 0) :: Lr)) (fx0 : Els kStr S0 w0 uon x0) (lx0 : x0.length = nx0) :
  Calls Tg 183 #[.slice (Gp Gx0) nx0 cx0] w0 (Rets (Post.z6g nz wz S0 w0 Lr r)) := by
 subst lx0
 refine Zf Tryz.f183 B183 12 ?_
 refine Gj 13 [(0, Sl (Gp Gx0) x0 cx0)] fun junk => ?_
 delta M.a2w at h
 refine Gn 2 [] J116 ?_
 refine Oa 219 2 0 (.agg #[Sn, .bool false]) [Sn, .bool false] p0 Xa fun b2 w2 z2 p2 => ?_
 refine Gn 4 [(3, Sl (Gp Gx0) x0 cx0)] J118 ?_
 have p2 := p2.fr 1
 refine Gg h fun g4 h => ?_
 refine Gc (kc 126 [3] #[43]) 4 0 126 _ (sortS_calls Tryz.sortS p2 (fx0.ext z2) rfl g4) ?_
 rintro _ w3 ⟨rfl, z3, cs5, p3, f6⟩
 refine Gn 4 [(5, Sl (Gp Gx0) x0 cx0)] J11a ?_
 refine Gc (kc 57 [5] #[43]) 6 43 57 _ (compactS_calls (zs := (cmpL (srtS x0))) Tryz.compS p3 f6 (srtS_len rfl) rfl g4) ?_
 rintro _ w4 ⟨rfl, z4, cs7, p4, f8⟩
 refine Gm 9 [([0, 7], .slice (Gp Gx0) ((cmpL (srtS x0)).length) cx0), ([8], .i ((cmpL (srtS x0)).length : Int)), ([9], .bool (decide (((cmpL (srtS x0)).length : Int) > 32)))] J11c ?_
 refine Gi h (fun h9 h => ?_) fun h9 h => ?_
 ·
  rw [dt h9]
  refine Gn 3 [] J11e ?_
  refine Gb h fun y10 e11 h => ?_
  refine Gc (kc 184 [] #[]) 10 219 184 _ (W.z6b y10 e11  p4 ) ?_
  rintro _ w5 ⟨S5, uoo, uop, uoq, rfl, z5, p5, uor, rfl⟩
  refine So 219 2 10 0 1 b2 0 (ag (vT218 y10 uoo y10.l.length uoq)) (vT218 y10 uoo y10.l.length uoq) p5 rfl Xe fun w6 z6 p6 => ?_
  refine Gn 1 [] J11d ?_
  obtain rfl := sj h
  have p6 := p6.dp 0
  exact R1 Tryz.f183 (.cell 2 219) (ag (vT218 y10 uoo y10.l.length uoq)) (Rn b2 (p6.pa 0 0)) ⟨_, _, _, _, rfl, ((((z2.t z3).t z4).t z5).t z6), p6.drop, (uor.ext z6), rfl⟩
 ·
  rw [df h9]
  refine Gn 6 [(11, .slice (Gp Gx0) ((cmpL (srtS x0)).length) cx0), (12, .agg #[.slice (Gp Gx0) ((cmpL (srtS x0)).length) cx0, .bool true])] J11g ?_
  refine So 219 2 12 0 1 b2 0 (.agg #[.slice (Gp Gx0) ((cmpL (srtS x0)).length) cx0, .bool true]) [.slice (Gp Gx0) ((cmpL (srtS x0)).length) cx0, .bool true] p4 rfl Xe fun w7 z7 p7 => ?_
  refine Gn 1 [] J11f ?_
  obtain ⟨S8, z8, p8, f12⟩ := p7.freezeRd 0 rfl (f8.ext z7) (by decide)
  obtain rfl := sj h
  have p8 := p8.dp 0
  exact R1 Tryz.f183 (.cell 2 219) (.agg #[.slice (Gp Gx0) ((cmpL (srtS x0)).length) cx0, .bool true]) (Rn b2 (p8.pa 0 0)) ⟨_, _, _, _, rfl, ((((z2.t z3).t z4).t z7).t z8), p8.drop, f12, rfl⟩
def J11h := Ys 11111 B231 []
def Qtw := Yq 11110100 B231
def J11j := Zl Qtw (Zb 0 J11h)
def J11k := Zc Qtw J11j
def J11m := Zb 1 (Ys 11110100111 B231 J11j)
def Qty := Yq 1111010011001100 B231
def J11o := Zl Qty (Zb 2 J11m)
def J11p := Zc Qty J11o
def J11w := Ys 111111 B231 []
def J121 := Zb 3 (Ys 1111010011001100111 B231 J11o)
def Quc := Yq 1111010011001100110011 B231
def J124 := Zc Quc J121
def J126 := Ys 1111010011001100110010101 B231 J124
def Post.z6h (r : T218) (v : Value) (w' : World) : Prop :=
 ∃ S' uo8 uaz ub0, v = (ag (vT218 r uo8 uaz ub0)) ∧ Ext S0 w0 S' w' ∧ Hp nz wz S' w' (Lr) ∧ Rd kStr S' w' uo8 ub0 r.l ∧ r.l.length = uaz
def L.z6i : T218 × T218 × (List ByteArray) × (List ByteArray) × Int × Int → T218 → Prop := fun ⟨x3v, x4v, x5, x20, x21, x22⟩ r => ∀ S1 w1, Ext S0 w0 S1 w1 → ∀ gx3 uos uot uou gx4 uov uow uox uoy Gx5 nx5 cx5 ugf uoz up0 up1 (_ : Hp nz wz S1 w1 ((some gx3, .row 219 (vT218 x3v uos uot uou) 2 0) :: (some gx4, .row 219 (vT218 x4v (Gp uov) uow uox) 2 0) :: (uov, .row 9 uoy (uox * kStr.size) 0) :: (Gx5, .row 9 ugf (cx5 * kStr.size) 0) :: Lr)) (_ : Rd kStr S1 w1 uos uou x3v.l) (_ : x3v.l.length = uot) (_ : Els kStr S1 w1 uoy x4v.l) (_ : x4v.l.length = uow) (_ : Els kStr S1 w1 ugf x5) (_ : x5.length = nx5) (_ : Rd kStr S1 w1 uoz up1 x20) (_ : x20.length = up0) (junk : Nat → Value),
 Goes Tg (base 231) J11k ⟨lfr 50 [(3, (pt gx3 0)), (4, (pt gx4 0)), (5, .slice (Gp Gx5) nx5 cx5), (20, .slice uoz up0 up1), (21, .i x21), (22, .i x22)] junk, []⟩ w1 (Done Tg 231 (Rets (Post.z6h nz wz S0 w0 Lr r)))
def L.z6j : T218 × T218 × (List ByteArray) × ByteArray × (List ByteArray) × Int × Int × (List ByteArray) × Int × Int → T218 → Prop := fun ⟨x3v, x4v, x5, x7, x20, x21, x22, x27, x28, x29⟩ r => ∀ S1 w1, Ext S0 w0 S1 w1 → ∀ gx3 uos uot uou gx4 uov uow uox uoy Gx5 nx5 cx5 ugf uoz up0 up1 up2 up3 up4 (_ : Hp nz wz S1 w1 ((some gx3, .row 219 (vT218 x3v uos uot uou) 2 0) :: (some gx4, .row 219 (vT218 x4v (Gp uov) uow uox) 2 0) :: (uov, .row 9 uoy (uox * kStr.size) 0) :: (Gx5, .row 9 ugf (cx5 * kStr.size) 0) :: Lr)) (_ : Rd kStr S1 w1 uos uou x3v.l) (_ : x3v.l.length = uot) (_ : Els kStr S1 w1 uoy x4v.l) (_ : x4v.l.length = uow) (_ : Els kStr S1 w1 ugf x5) (_ : x5.length = nx5) (_ : Rd kStr S1 w1 uoz up1 x20) (_ : x20.length = up0) (_ : Rd kStr S1 w1 up2 up4 x27) (_ : x27.length = up3) (junk : Nat → Value),
 Goes Tg (base 231) J11p ⟨lfr 50 [(3, (pt gx3 0)), (4, (pt gx4 0)), (5, .slice (Gp Gx5) nx5 cx5), (7, .string x7), (20, .slice uoz up0 up1), (21, .i x21), (22, .i x22), (27, .slice up2 up3 up4), (28, .i x28), (29, .i x29)] junk, []⟩ w1 (Done Tg 231 (Rets (Post.z6h nz wz S0 w0 Lr r)))
theorem W.z6k {nz wz S0 w0 Lr} : (∀ a r, M.a1q a = some r → (L.z6i nz wz S0 w0 Lr) a r) ∧ (∀ a r, M.a2x a = some r → (L.z6j nz wz S0 w0 Lr) a r) := by
 refine M.a1q.mutual_partial_correctness (L.z6i nz wz S0 w0 Lr) (L.z6j nz wz S0 w0 Lr) ?_ ?_
 ·
  intro up5 up6 ⟨x3v, x4v, x5, x20, x21, x22⟩ r h S1 w1 hx gx3 uos uot uou gx4 uov uow uox uoy Gx5 nx5 cx5 ugf uoz up0 up1 p1 up7 uo5 up8 ugi fx5 lx5 up9 upa junk
  try dsimp only at h
  subst uo5
  subst ugi
  subst lx5
  subst upa
  refine Gn 5 [(23, .bool (decide (x22 < x21)))] (Ys 1111010010 B231 (Ys 1111010011 B231 J11j)) ?_
  refine Gi h (fun h22 h => ?_) fun h22 h => ?_
  ·
   rw [dt h22]
   refine Gn 6 [] (Yt 1111010011000 B231 [0, 1, 2] (Ys 1111010011001 B231 J11m)) ?_
   refine Gg h fun g23 h => ?_
   refine Gg h fun g24 h => ?_
   refine Oi 43 20 22 24 0 9 .i64 x22 (gi x20 x22) rfl rfl up9 Xa g23 g24 fun a25 _ f26 q27 => ?_
   obtain rfl := q27
   refine Xc 9 24 25 9 a25 (.string (gi x20 x22)) (f26.cell 0 _ rfl) ?_
   refine Gn 5 [(7, .string (gi x20 x22)), (26, (pt gx3 0))] (Yt 11110100110010 B231 [1, 2, 3] (Ys 11110100110011 B231 J11m)) ?_
   refine Xc 43 26 27 43 ⟨gx3, 0, none⟩ (Sl uos x3v.l uou) (p1.c 0 0) ?_
   refine Gn 5 [(28, .i (x3v.l.length : Int)), (29, .i 0)] J11p ?_
   exact Gj 50 [(3, (pt gx3 0)), (4, (pt gx4 0)), (5, Sl (Gp Gx5) x5 cx5), (7, .string (gi x20 x22)), (20, Sl uoz x20 up1), (21, .i x21), (22, .i x22), (27, Sl uos x3v.l uou), (28, .i (x3v.l.length : Int)), (29, .i 0)] (up6 _ _ h _ _ hx _ _ _ _ _ _ _ _ _ _ _ _ _ _ _ _ _ _ _ p1 up7 rfl up8 rfl fx5 rfl up9 rfl up7 rfl)
  ·
   rw [df h22]
   refine Gn 5 [(48, Sl (Gp Gx5) x5 cx5)] (Yt 111110 B231 [1, 2] J11w) ?_
   have p1 := p1.fr 3
   refine Gb h fun y32 e33 h => ?_
   refine Gc (kc 183 [48] #[43]) 49 219 183 _ (W.z6g x5 y32 e33 _ _ _ _ p1 fx5 rfl) ?_
   rintro _ w7 ⟨S7, upb, upc, upe, rfl, z7, p7, upf, rfl⟩
   have p7 := p7.dp 0
   refine So 219 4 49 0 0 gx4 0 (ag (vT218 y32 upb y32.l.length upe)) (vT218 y32 upb y32.l.length upe) p7 rfl Xe fun w8 z8 p8 => ?_
   refine Gn 1 [] J11w ?_
   obtain rfl := sj h
   have p8 := p8.dp 1
   exact R1 Tryz.f231 (.cell 4 219) (ag (vT218 y32 upb y32.l.length upe)) (Rn gx4 (p8.pa 0 0)) ⟨_, _, _, _, rfl, ((hx.t z7).t z8), p8.drop, (upf.ext z8), rfl⟩
 ·
  intro upg up5 uph up6 ⟨x3v, x4v, x5, x7, x20, x21, x22, x27, x28, x29⟩ r h S1 w1 hx gx3 uos uot uou gx4 uov uow uox uoy Gx5 nx5 cx5 ugf uoz up0 up1 up2 up3 up4 p1 up7 uo5 up8 ugi fx5 lx5 up9 upa upi upj junk
  try dsimp only at h
  subst uo5
  subst ugi
  subst lx5
  subst upa
  subst upj
  refine Gn 5 [(30, .bool (decide (x29 < x28)))] (Ys 111101001100110010 B231 (Ys 111101001100110011 B231 J11o)) ?_
  refine Gi h (fun h34 h => ?_) fun h34 h => ?_
  ·
   rw [dt h34]
   refine Gn 6 [] (Yt 111101001100110011000 B231 [0, 1, 2] (Ys 111101001100110011001 B231 J121)) ?_
   refine Gg h fun g35 h => ?_
   refine Gg h fun g36 h => ?_
   refine Oi 43 27 29 31 0 9 .i64 x29 (gi x27 x29) rfl rfl upi Xa g35 g36 fun a37 _ f38 q39 => ?_
   obtain rfl := q39
   refine Xc 9 31 32 9 a37 (.string (gi x27 x29)) (f38.cell 0 _ rfl) ?_
   refine Gm 12 [([9, 35], .string (gi x27 x29)), ([33], .string x7), ([34], .i (x7.size : Int)), ([36], .i ((gi x27 x29).size : Int)), ([37], .i (wr .i64 ((x7.size : Int) + ((gi x27 x29).size : Int)))), ([38], .bool (decide (wr .i64 ((x7.size : Int) + ((gi x27 x29).size : Int)) > 32)))] (Ys 11110100110011001100101 B231 J124) ?_
   refine Gi h (fun h40 h => ?_) fun h40 h => ?_
   ·
    rw [dt h40]
    refine Gn 3 [] (Yt 1111010011001100110010100 B231 [0, 1] J126) ?_
    refine Gb h fun y41 e42 h => ?_
    refine Gc (kc 184 [] #[]) 39 219 184 _ (W.z6b y41 e42  p1 ) ?_
    rintro _ w9 ⟨S9, uoh, uoi, uoj, rfl, z9, p9, uok, rfl⟩
    have p9 := (p9.dp 0).dp 2
    refine So 219 4 39 0 0 gx4 0 (ag (vT218 y41 uoh y41.l.length uoj)) (vT218 y41 uoh y41.l.length uoj) p9 rfl Xe fun w10 z10 p10 => ?_
    refine Gn 1 [] J126 ?_
    obtain rfl := sj h
    have p10 := p10.dp 1
    exact R1 Tryz.f231 (.cell 4 219) (ag (vT218 y41 uoh y41.l.length uoj)) (Rn gx4 (p10.pa 0 0)) ⟨_, _, _, _, rfl, ((hx.t z9).t z10), p10.drop, (uok.ext z10), rfl⟩
   ·
    rw [df h40]
    refine Gn 6 [(40, Sl (Gp Gx5) x5 cx5), (41, .string x7), (42, .string (gi x27 x29))] (Zr Quc [3, 4, 5, 6] J121) ?_
    refine Gg h fun g43 h => ?_
    refine Op_.cat_n 9 41 42 9 43 9 x7 (gi x27 x29) (x7 ++ (gi x27 x29)) rfl Xa (by kernel_rfl) (by kernel_rfl) g43 ?_
    have f45 : Els kStr S1 w1 ([.string (x7 ++ (gi x27 x29))] : List Value) [x7 ++ (gi x27 x29)] := by exact (Els.cons (K := kStr) (vs := [.string (x7 ++ (gi x27 x29))]) (x := x7 ++ (gi x27 x29)) rfl Els.nil)
    refine Om (.buildSlice 43 1 #[(0, 43)]) 44 43 (fun b => .slice (Gp (some b)) 1 1) 9 ([.string (x7 ++ (gi x27 x29))] : List Value) (1 * kStr.size) p1 Xa fun b44 w11 z11 p11 => ?_
    refine Gg h fun g50 h => ?_
    refine On (K := kStr) 43 40 44 45 43 9 4 (.string ⟨#[]⟩) 16 x5.length cx5 1 x5 [x7 ++ (gi x27 x29)] (x5 ++ [x7 ++ (gi x27 x29)]) (Gp (some b44)) 1 rfl rfl rfl p11 rfl (fx5.ext z11) Xa (f45.ext z11) (src_own p11 (q := 0) rfl) g50 fun w12 G51 c52 upk z12 p12 f54 => ?_
    refine Gm 8 [([5], .slice (Gp G51) ((x5 ++ [x7 ++ (gi x27 x29)]).length) c52), ([46, 29], .i (wr .i64 (x29 + 1)))] J11p ?_
    have p12 := p12.dp 0
    exact Gj 50 [(3, (pt gx3 0)), (4, (pt gx4 0)), (5, .slice (Gp G51) ((x5 ++ [x7 ++ (gi x27 x29)]).length) c52), (7, .string x7), (20, Sl uoz x20 up1), (21, .i x21), (22, .i x22), (27, Sl up2 x27 up4), (28, .i x28), (29, .i (wr .i64 (x29 + 1)))] (up6 _ _ h _ _ ((hx.t z11).t z12) _ _ _ _ _ _ _ _ _ _ _ _ _ _ _ _ _ _ _ p12 (up7.ext (z11.t z12)) rfl (up8.ext (z11.t z12)) rfl f54 rfl (up9.ext (z11.t z12)) rfl (upi.ext (z11.t z12)) rfl)
  ·
   rw [df h34]
   refine Gm 8 [([47, 22], .i (wr .i64 (x22 + 1)))] J11k ?_
   exact Gj 50 [(3, (pt gx3 0)), (4, (pt gx4 0)), (5, Sl (Gp Gx5) x5 cx5), (20, Sl uoz x20 up1), (21, .i x21), (22, .i (wr .i64 (x22 + 1)))] (uph _ _ h _ _ hx _ _ _ _ _ _ _ _ _ _ _ _ _ _ _ _ p1 up7 rfl up8 rfl fx5 rfl up9 rfl)
theorem W.z6i {nz wz S0 w0 Lr} : ∀ a r, M.a1q a = some r → (L.z6i nz wz S0 w0 Lr) a r := (W.z6k).1
theorem W.z6j {nz wz S0 w0 Lr} : ∀ a r, M.a2x a = some r → (L.z6j nz wz S0 w0 Lr) a r := (W.z6k).2
def J129 := Ys 111 B231 []
def J12a := Ys 1101 B231 J129
def J12b := Ys 110101 B231 J129
def L.z6l : T218 × T218 × T218 × Bool → T218 → Prop := fun ⟨x2v, x3v, x4v, x17⟩ r => ∀ S1 w1, Ext S0 w0 S1 w1 → ∀ gx2 upl uoa uob gx3 uos uot uou gx4 uov uow uox uoy (_ : Hp nz wz S1 w1 ((some gx2, .row 219 (vT218 x2v upl uoa uob) 2 0) :: (some gx3, .row 219 (vT218 x3v uos uot uou) 2 0) :: (some gx4, .row 219 (vT218 x4v (Gp uov) uow uox) 2 0) :: (uov, .row 9 uoy (uox * kStr.size) 0) :: Lr)) (_ : Rd kStr S1 w1 upl uob x2v.l) (_ : x2v.l.length = uoa) (_ : Rd kStr S1 w1 uos uou x3v.l) (_ : x3v.l.length = uot) (_ : Els kStr S1 w1 uoy x4v.l) (_ : x4v.l.length = uow) (junk : Nat → Value),
 Goes Tg (base 231) J12a ⟨lfr 50 [(2, (pt gx2 0)), (3, (pt gx3 0)), (4, (pt gx4 0)), (17, .bool x17)] junk, []⟩ w1 (Done Tg 231 (Rets (Post.z6h nz wz S0 w0 Lr r)))
theorem W.z6l {nz wz S0 w0 Lr} : ∀ a r, M.a4d a = some r → L.z6l nz wz S0 w0 Lr a r := by
 intro ⟨x2v, x3v, x4v, x17⟩ r h S1 w1 hx gx2 upl uoa uob gx3 uos uot uou gx4 uov uow uox uoy p1 uof ugb up7 uo5 up8 ugi junk
 rw [M.a4d] at h
 try dsimp only at h
 subst ugb
 subst uo5
 subst ugi
 refine Gi h (fun h14 h => ?_) fun h14 h => ?_
 ·
  rw [h14]
  refine Gn 3 [] (Yt 110100 B231 [0, 1] J12b) ?_
  refine Gb h fun y15 e16 h => ?_
  refine Gc (kc 184 [] #[]) 18 219 184 _ (W.z6b y15 e16  p1 ) ?_
  rintro _ w5 ⟨S5, uoo, uop, uoq, rfl, z5, p5, uor, rfl⟩
  have p5 := (p5.dp 0).dp 0
  refine So 219 4 18 0 0 gx4 0 (ag (vT218 y15 uoo y15.l.length uoq)) (vT218 y15 uoo y15.l.length uoq) p5 rfl Xe fun w6 z6 p6 => ?_
  refine Gn 1 [] J12b ?_
  obtain rfl := sj h
  have p6 := p6.dp 1
  exact R1 Tryz.f231 (.cell 4 219) (ag (vT218 y15 uoo y15.l.length uoq)) (Rn gx4 (p6.pa 0 0)) ⟨_, _, _, _, rfl, ((hx.t z5).t z6), p6.drop, (uor.ext z6), rfl⟩
 ·
  rw [bf h14]
  refine Gn 10 [(5, Sn), (19, (pt gx2 0))] (Yt 111100 B231 [1, 2, 3] (Ys 111101 B231 J11h)) ?_
  refine Xc 43 19 20 43 ⟨gx2, 0, none⟩ (Sl upl x2v.l uob) (p1.c 0 0) ?_
  refine Gn 5 [(21, .i (x2v.l.length : Int)), (22, .i 0)] J11k ?_
  have p1 := p1.dp 0
  have p1 : Hp nz wz S1 w1 ((none, .row 9 [] (0 * kStr.size) 0) :: (some gx3, .row 219 (vT218 x3v uos x3v.l.length uou) 2 0) :: (some gx4, .row 219 (vT218 x4v (Gp uov) x4v.l.length uox) 2 0) :: (uov, .row 9 uoy (uox * kStr.size) 0) :: Lr) := p1.nilRow' 9
  have p1 := (((p1.fr 0).fr 3).fr 3).fr 3
  exact Gj 50 [(3, (pt gx3 0)), (4, (pt gx4 0)), (5, .slice (Gp none) 0 0), (20, Sl upl x2v.l uob), (21, .i (x2v.l.length : Int)), (22, .i 0)] (W.z6i _ _ h _ _ hx _ _ _ _ _ _ _ _ _ none 0 0 [] _ _ _ p1 up7 rfl up8 rfl (Els.nil (K := kStr)) rfl uof rfl)
def Quo := Yq 1100 B231
theorem W.z6h (x0 : T218) (x1 : T218) (r : T218) (h : M.a4e x0 x1 = some r) {nz wz S0 w0 Lr} (upm upn upo upp upq upr) (p0 : Hp nz wz S0 w0 (Lr)) (ups : Rd kStr S0 w0 upm upo x0.l) (upt : x0.l.length = upn) (upu : Rd kStr S0 w0 upp upr x1.l) (upv : x1.l.length = upq) :
  Calls Tg 231 #[(ag (vT218 x0 upm upn upo)), (ag (vT218 x1 upp upq upr))] w0 (Rets (Post.z6h nz wz S0 w0 Lr r)) := by
 subst upt
 subst upv
 refine Zf Tryz.f231 B231 48 ?_
 refine Gj 50 [(0, (ag (vT218 x0 upm x0.l.length upo))), (1, (ag (vT218 x1 upp x1.l.length upr)))] fun junk => ?_
 delta M.a4e at h
 refine Gn 2 [] (Yt 10 B231 [0, 1, 2] (Ys 11 B231 [])) ?_
 refine Ob 219 0 2 0 (ag (vT218 x0 upm x0.l.length upo)) (vT218 x0 upm x0.l.length upo) p0 Xa fun b1 w2 z2 p2 => ?_
 refine Ob 219 1 3 0 (ag (vT218 x1 upp x1.l.length upr)) (vT218 x1 upp x1.l.length upr) p2 Xa fun b3 w3 z3 p3 => ?_
 refine Oa 219 4 0 (.agg #[Sn, .bool false]) [Sn, .bool false] p3 Xa fun b5 w4 z4 p4 => ?_
 refine Gn 5 [(10, (pt b1 1))] (Zr Quo [1, 2, 3, 4, 5, 6, 7] J12a) ?_
 refine Xc 4 10 11 4 ⟨b1, 1, none⟩ (.bool x0.known) (p4.c 2 1) ?_
 refine Gm 2 [([12, 13], .bool (!x0.known))] (Zr Quo [4, 5, 6, 7] J12a) ?_
 refine Gi h (fun h7 h => ?_) fun h7 h => ?_
 ·
  rw [h7]
  have p4 : Hp nz wz S0 w4 ((some b5, .row 219 [Sn, .bool false] 2 0) :: (some b3, .row 219 (vT218 x1 upp x1.l.length upr) 2 0) :: (some b1, .row 219 [Sl upm x0.l upo, .bool true] 2 0) :: Lr) := by simp only [wT29, vT69, vT165, vT26, vT134, vT370, vT218, h7] at p4; exact p4
  refine Gn 1 [(14, (pt b3 1))] (Zr Quo [5, 6, 7] J12a) ?_
  refine Xc 4 14 15 4 ⟨b3, 1, none⟩ (.bool x1.known) (p4.c 1 1) ?_
  refine Gm 3 [([16, 17], .bool (!x1.known))] J12a ?_
  have p4 : Hp nz wz S0 w4 ((none, .row 9 [] (0 * kStr.size) 0) :: (some b5, .row 219 [Sn, .bool false] 2 0) :: (some b3, .row 219 (vT218 x1 upp x1.l.length upr) 2 0) :: (some b1, .row 219 [Sl upm x0.l upo, .bool true] 2 0) :: Lr) := p4.nilRow' 9
  have p4 := (((p4.fr 0).fr 1).fr 2).fr 3
  exact Gj 50 [(2, (pt b1 0)), (3, (pt b3 0)), (4, (pt b5 0)), (17, .bool (!x1.known))] (W.z6l _ _ h _ _ ((z2.t z3).t z4) _ _ _ _ _ _ _ _ _ none 0 0 [] p4 (ups.ext ((z2.t z3).t z4)) rfl (upu.ext ((z2.t z3).t z4)) rfl (Els.nil (K := kStr)) rfl)
 ·
  have h7' := bf h7
  rw [h7']
  have p4 : Hp nz wz S0 w4 ((some b5, .row 219 [Sn, .bool false] 2 0) :: (some b3, .row 219 (vT218 x1 upp x1.l.length upr) 2 0) :: (some b1, .row 219 [Sl upm x0.l upo, .bool false] 2 0) :: Lr) := by simp only [wT29, vT69, vT165, vT26, vT134, vT370, vT218, h7'] at p4; exact p4
  refine Gm 5 [([14, 15, 16], undef), ([17], .bool true)] J12a ?_
  have p4 : Hp nz wz S0 w4 ((none, .row 9 [] (0 * kStr.size) 0) :: (some b5, .row 219 [Sn, .bool false] 2 0) :: (some b3, .row 219 (vT218 x1 upp x1.l.length upr) 2 0) :: (some b1, .row 219 [Sl upm x0.l upo, .bool false] 2 0) :: Lr) := p4.nilRow' 9
  have p4 := (((p4.fr 0).fr 1).fr 2).fr 3
  exact Gj 50 [(2, (pt b1 0)), (3, (pt b3 0)), (4, (pt b5 0)), (17, .bool true)] (W.z6l _ _ h _ _ ((z2.t z3).t z4) _ _ _ _ _ _ _ _ _ none 0 0 [] p4 (ups.ext ((z2.t z3).t z4)) rfl (upu.ext ((z2.t z3).t z4)) rfl (Els.nil (K := kStr)) rfl)
def Post.z6m (r : T218) (v : Value) (w' : World) : Prop :=
 ∃ S' uo8 uaz ub0, v = (ag (vT218 r uo8 uaz ub0)) ∧ Ext S0 w0 S' w' ∧ Hp nz wz S' w' (Lr) ∧ Rd kStr S' w' uo8 ub0 r.l ∧ r.l.length = uaz
theorem W.z6m (r : T218) (h : M.a5j = some r) {nz wz S0 w0 Lr} (p0 : Hp nz wz S0 w0 (Lr)) :
  Calls Tg 183 #[Sn] w0 (Rets (Post.z6m nz wz S0 w0 Lr r)) := by
 refine Zf Tryz.f183 B183 12 ?_
 refine Gj 13 [(0, Sn)] fun junk => ?_
 delta M.a5j at h
 refine Gn 2 [] J116 ?_
 refine Oa 219 2 0 (.agg #[Sn, .bool false]) [Sn, .bool false] p0 Xa fun b1 w2 z2 p2 => ?_
 refine Gn 4 [(3, Sn)] J118 ?_
 have p2 : Hp nz wz S0 w2 ((none, .row 9 [] (0 * kStr.size) 0) :: (some b1, .row 219 [Sn, .bool false] 2 0) :: Lr) := p2.nilRow' 9
 refine Gg h fun g4 h => ?_
 refine Gc (kc 126 [3] #[43]) 4 0 126 _ (sortS_calls Tryz.sortS p2 (Els.nil (K := kStr)) rfl g4) ?_
 rintro _ w3 ⟨rfl, z3, cs5, p3, f6⟩
 refine Gn 4 [(5, .slice (Gp none) 0 0)] J11a ?_
 refine Gc (kc 57 [5] #[43]) 6 43 57 _ (compactS_calls (zs := (cmpL (srtS ([] : List ByteArray)))) Tryz.compS p3 f6 (srtS_len rfl) rfl g4) ?_
 rintro _ w4 ⟨rfl, z4, cs7, p4, f8⟩
 refine Gm 9 [([0, 7], .slice (Gp none) ((cmpL (srtS ([] : List ByteArray))).length) 0), ([8], .i ((cmpL (srtS ([] : List ByteArray))).length : Int)), ([9], .bool (decide (((cmpL (srtS ([] : List ByteArray))).length : Int) > 32)))] J11c ?_
 refine Gi h (fun h9 h => ?_) fun h9 h => ?_
 ·
  rw [dt h9]
  refine Gn 3 [] J11e ?_
  refine Gb h fun y10 e11 h => ?_
  refine Gc (kc 184 [] #[]) 10 219 184 _ (W.z6b y10 e11  p4 ) ?_
  rintro _ w5 ⟨S5, uoo, uop, uoq, rfl, z5, p5, uor, rfl⟩
  have p5 := p5.dp 0
  refine So 219 2 10 0 0 b1 0 (ag (vT218 y10 uoo y10.l.length uoq)) (vT218 y10 uoo y10.l.length uoq) p5 rfl Xe fun w6 z6 p6 => ?_
  refine Gn 1 [] J11d ?_
  obtain rfl := sj h
  exact R1 Tryz.f183 (.cell 2 219) (ag (vT218 y10 uoo y10.l.length uoq)) (Rn b1 (p6.pa 0 0)) ⟨_, _, _, _, rfl, ((((z2.t z3).t z4).t z5).t z6), p6.drop, (uor.ext z6), rfl⟩
 ·
  rw [df h9]
  refine Gn 6 [(11, .slice (Gp none) ((cmpL (srtS ([] : List ByteArray))).length) 0), (12, .agg #[.slice (Gp none) ((cmpL (srtS ([] : List ByteArray))).length) 0, .bool true])] J11g ?_
  refine So 219 2 12 0 1 b1 0 (.agg #[.slice (Gp none) ((cmpL (srtS ([] : List ByteArray))).length) 0, .bool true]) [.slice (Gp none) ((cmpL (srtS ([] : List ByteArray))).length) 0, .bool true] p4 rfl Xe fun w7 z7 p7 => ?_
  refine Gn 1 [] J11f ?_
  obtain ⟨S8, z8, p8, f12⟩ := p7.freezeRd 0 rfl (f8.ext z7) (by decide)
  obtain rfl := sj h
  have p8 := p8.dp 0
  exact R1 Tryz.f183 (.cell 2 219) (.agg #[.slice (Gp none) ((cmpL (srtS ([] : List ByteArray))).length) 0, .bool true]) (Rn b1 (p8.pa 0 0)) ⟨_, _, _, _, rfl, ((((z2.t z3).t z4).t z7).t z8), p8.drop, f12, rfl⟩
def J12k := Ys 111 B232 []
def J12l := Ys 1111 B232 []
def J12m := Ys 111011 B232 J12l
def Qut := Yq 1110110 B232
def J12r := Ys 11111 B232 []
def Post.z6n (r : List ByteArray) (v : Value) (w' : World) : Prop :=
 ∃ S' Gq nq cq csq, v = .slice (Gp Gq) nq cq ∧ Ext S0 w0 S' w' ∧ Hp nz wz S' w' ((Gq, .row 9 csq (cq * kStr.size) 0) :: Lr) ∧ Els kStr S' w' csq r ∧ r.length = nq
def L.z6o : Int → (List ByteArray) → Prop := fun x1 r => ∀ S1 w1, Ext S0 w0 S1 w1 → ∀ (_ : Hp nz wz S1 w1 (Lr)) (junk : Nat → Value),
 Goes Tg (base 232) J12k ⟨lfr 27 [(0, Sn), (1, .i x1)] junk, []⟩ w1 (Done Tg 232 (Rets (Post.z6n nz wz S0 w0 Lr r)))
theorem W.z6o {nz wz S0 w0 Lr} : ∀ a r, M.a7i a = some r → L.z6o nz wz S0 w0 Lr a r := by
 intro x1 r h S1 w1 hx p1 junk
 rw [M.a7i] at h
 try dsimp only at h
 refine Gm 14 [([8], .i x1), ([9, 11], Sn), ([10, 12, 13], .i 0), ([14, 1], .i (wr .i64 (x1 - 0)))] (Yt 111010 B232 [0, 1] J12m) ?_
 refine Gn 3 [(15, .i (wr .i64 (x1 - 0))), (16, .bool (decide (wr .i64 (x1 - 0) > 0)))] J12m ?_
 refine Gi h (fun h2 h => ?_) fun h2 h => ?_
 ·
  rw [dt h2]
  refine Gm 5 [([17, 18], Sn), ([19], .i 0)] (Zr Qut [3, 4, 5, 6, 7, 8, 9] J12l) ?_
  refine Op_.slN (sz := 1) 43 17 none (some 19) 20 43 9 Xa (by kernel_rfl) (by kernel_rfl) (by kernel_rfl) Xv (Xt .i64 (by kernel_rfl)) ?_
  refine Gn 1 [(21, .i (wr .i64 (x1 - 0)))] (Zr Qut [5, 6, 7, 8, 9] J12l) ?_
  have p1 : Hp nz wz S1 w1 ((none, .row 9 [] (0 * kStr.size) 0) :: Lr) := p1.nilRow' 9
  refine Gg h fun g7 h => ?_
  refine Gg h fun g8 h => ?_
  refine Gl h fun v9 e10 h => ?_
  refine Op_.apz_n (K := kStr) 43 3 20 21 22 43 9 0 (.string ⟨#[]⟩) 16 0 0 ([] : List ByteArray) (bE : ByteArray) v9 .i64 .i64 (wr .i64 (x1 - 0)) rfl e10 p1 rfl (Els.nil (K := kStr)) Xa (by kernel_rfl) (by kernel_rfl) (by kernel_rfl) (by kernel_rfl) (by kernel_rfl) rfl rfl rfl (fun _ _ => rfl) g7 (by have := g8; omega) g8 fun w2 G11 c12 ug7 z2 p2 f14 => ?_
  refine Gn 2 [(23, Sn), (24, .i 0)] (Zr Qut [8, 9] J12l) ?_
  refine Op_.slO (K := kStr) 43 22 24 25 43 9 .i64 0 0 (sl v9 0 0) rfl rfl p2 rfl rfl (by decide) f14 Xa (by kernel_rfl) (by kernel_rfl) (by kernel_rfl) (by kernel_rfl) (by decide : (0 : Int) ≤ 0) (Int.natCast_nonneg _) fun ugc p2 f16 => ?_
  refine Gm 7 [([0, 26, 4], .slice (Gp G11) ((sl v9 0 0).length) c12)] J12r ?_
  obtain rfl := sj h
  exact Xd Tryz.f232 (.slice (Gp G11) ((sl v9 0 0).length) c12) ⟨_, _, _, _, _, rfl, (hx.t z2), p2, f16, rfl⟩
 ·
  rw [df h2]
  refine Gm 7 [([26, 4], Sn)] J12r ?_
  have p1 : Hp nz wz S1 w1 ((none, .row 9 [] (0 * kStr.size) 0) :: Lr) := p1.nilRow' 9
  obtain rfl := sj h
  exact Xd Tryz.f232 (.slice (Gp none) 0 0) ⟨_, _, _, _, _, rfl, hx, p1, (Els.nil (K := kStr)), rfl⟩
theorem W.z6n (x1 : Int) (r : List ByteArray) (h : M.a6o x1 = some r) {nz wz S0 w0 Lr} (p0 : Hp nz wz S0 w0 (Lr)) :
  Calls Tg 232 #[Sn, .i x1] w0 (Rets (Post.z6n nz wz S0 w0 Lr r)) := by
 refine Zf Tryz.f232 B232 25 ?_
 refine Gj 27 [(0, Sn), (1, .i x1)] fun junk => ?_
 delta M.a6o at h
 refine Gn 10 [(4, Sn), (5, .i x1), (6, .bool (decide (x1 < 0)))] (Ys 1101 B232 J12k) ?_
 refine Gi h (fun h1 h => ?_) fun h1 h => ?_
 ·
  rw [dt h1]
  refine Gn 2 [] (Yt 11010 B232 [0, 1] J12k) ?_
  cases h
 ·
  rw [df h1]
  refine Gn 2 [] J12k ?_
  exact Gj 27 [(0, Sn), (1, .i x1)] (W.z6o _ _ h _ _ (Xj S0 w0) p0)
def Quy := Yq 111110100 B185
def J12w := Zl Quy (Zb 2 (Ys 111111 B185 []))
def J12x := Zc Quy J12w
def J131 := Zb 3 (Ys 111110100111 B185 J12w)
def Qv2 := Yq 11111010011001 B185
def Post.z6p (r : List ByteArray) (v : Value) (w' : World) : Prop :=
 ∃ S' Gq nq cq csq, v = .slice (Gp Gq) nq cq ∧ Ext S0 w0 S' w' ∧ Hp nz wz S' w' ((Gq, .row 9 csq (cq * kStr.size) 0) :: Lr) ∧ Els kStr S' w' csq r ∧ r.length = nq
def L.z6q : (List ByteArray) × (List (List ByteArray)) × Int × Int → (List ByteArray) → Prop := fun ⟨x6, x25, x26, x27⟩ r => ∀ S1 w1, Ext S0 w0 S1 w1 → ∀ Gx6 nx6 cx6 ucc upw upx upy (_ : Hp nz wz S1 w1 ((Gx6, .row 9 ucc (cx6 * kStr.size) 0) :: Lr)) (_ : Els kStr S1 w1 ucc x6) (_ : x6.length = nx6) (_ : Rd (kSl kStr) S1 w1 upw upy x25) (_ : x25.length = upx) (junk : Nat → Value),
 Goes Tg (base 185) J12x ⟨lfr 36 [(6, .slice (Gp Gx6) nx6 cx6), (25, .slice upw upx upy), (26, .i x26), (27, .i x27)] junk, []⟩ w1 (Done Tg 185 (Rets (Post.z6p nz wz S0 w0 Lr r)))
theorem W.z6q {nz wz S0 w0 Lr} : ∀ a r, M.a2y a = some r → (L.z6q nz wz S0 w0 Lr) a r := by
 refine M.a2y.partial_correctness (motive := (L.z6q nz wz S0 w0 Lr)) ?_
 intro upz uq0 ⟨x6, x25, x26, x27⟩ r h S1 w1 hx Gx6 nx6 cx6 ucc upw upx upy p1 fx6 lx6 uq1 uq2 junk
 try dsimp only at h
 subst lx6
 subst uq2
 refine Gn 5 [(28, .bool (decide (x27 < x26)))] (Ys 11111010010 B185 (Ys 11111010011 B185 J12w)) ?_
 refine Gi h (fun h15 h => ?_) fun h15 h => ?_
 ·
  rw [dt h15]
  refine Gn 6 [] (Yt 11111010011000 B185 [0, 1, 2] (Zc Qv2 J131)) ?_
  refine Gg h fun g16 h => ?_
  refine Gg h fun g17 h => ?_
  refine Oi 335 25 27 29 0 43 .i64 x27 (gi x25 x27) rfl rfl uq1 Xa g16 g17 fun a18 _ f19 q20 => ?_
  obtain ⟨A21, c22, rfl, f23⟩ := q20
  refine Xc 43 29 30 43 a18 (.slice A21 ((gi x25 x27).length) c22) (f19.cell 0 _ rfl) ?_
  refine Gm 5 [([8, 32], .slice A21 ((gi x25 x27).length) c22), ([31], Sl (Gp Gx6) x6 cx6)] (Zr Qv2 [2, 3] J131) ?_
  obtain ⟨uq3, f25, f26⟩ := src_rd f23
  refine Gg h fun g27 h => ?_
  refine On (K := kStr) 43 31 32 33 43 9 0 (.string ⟨#[]⟩) 16 x6.length cx6 ((gi x25 x27).length) x6 (gi x25 x27) (x6 ++ gi x25 x27) A21 c22 rfl rfl rfl p1 rfl fx6 Xa f25 f26 g27 fun w3 G28 c29 ucx z3 p3 f31 => ?_
  refine Gm 8 [([6], .slice (Gp G28) ((x6 ++ gi x25 x27).length) c29), ([34, 27], .i (wr .i64 (x27 + 1)))] J12x ?_
  exact Gj 36 [(6, .slice (Gp G28) ((x6 ++ gi x25 x27).length) c29), (25, Sl upw x25 upy), (26, .i x26), (27, .i (wr .i64 (x27 + 1)))] (uq0 _ _ h _ _ (hx.t z3) _ _ _ _ _ _ _ p3 f31 rfl (uq1.ext z3) rfl)
 ·
  rw [df h15]
  refine Gm 7 [([35, 2], Sl (Gp Gx6) x6 cx6)] (Ys 1111111 B185 []) ?_
  obtain rfl := sj h
  exact Xd Tryz.f185 (Sl (Gp Gx6) x6 cx6) ⟨_, _, _, _, _, rfl, hx, p1, fx6, rfl⟩
def J136 := Ys 1111 B185 []
def Qv6 := Yq 1110100 B185
def J138 := Zl Qv6 (Zb 0 J136)
def J139 := Zc Qv6 J138
def J13b := Zb 1 (Ys 1110100111 B185 J138)
def J13g := Ys 11101001100111 B185 J13b
def L.z6r : (List (List ByteArray)) × Int × (List (List ByteArray)) × Int × Int → (List ByteArray) → Prop := fun ⟨x0, x3, x9, x10, x11⟩ r => ∀ S1 w1, Ext S0 w0 S1 w1 → ∀ Ax0 nx0 cx0 Ax9 nx9 cx9 (_ : Hp nz wz S1 w1 (Lr)) (_ : Rd (kSl kStr) S1 w1 Ax0 cx0 x0) (_ : x0.length = nx0) (_ : Rd (kSl kStr) S1 w1 Ax9 cx9 x9) (_ : x9.length = nx9) (junk : Nat → Value),
 Goes Tg (base 185) J139 ⟨lfr 36 [(0, .slice Ax0 nx0 cx0), (3, .i x3), (9, .slice Ax9 nx9 cx9), (10, .i x10), (11, .i x11)] junk, []⟩ w1 (Done Tg 185 (Rets (Post.z6p nz wz S0 w0 Lr r)))
def L.z6s : (List (List ByteArray)) × Int × (List (List ByteArray)) × Int × Int → (List ByteArray) → Prop := fun ⟨x0, x3, x9, x10, x11⟩ r => ∀ S1 w1, Ext S0 w0 S1 w1 → ∀ Ax0 nx0 cx0 Ax9 nx9 cx9 (_ : Hp nz wz S1 w1 (Lr)) (_ : Rd (kSl kStr) S1 w1 Ax0 cx0 x0) (_ : x0.length = nx0) (_ : Rd (kSl kStr) S1 w1 Ax9 cx9 x9) (_ : x9.length = nx9) (junk : Nat → Value),
 Goes Tg (base 185) J13b ⟨lfr 36 [(0, .slice Ax0 nx0 cx0), (3, .i x3), (9, .slice Ax9 nx9 cx9), (10, .i x10), (11, .i x11)] junk, []⟩ w1 (Done Tg 185 (Rets (Post.z6p nz wz S0 w0 Lr r)))
theorem W.z6t {nz wz S0 w0 Lr} : (∀ a r, M.a1r a = some r → (L.z6r nz wz S0 w0 Lr) a r) ∧ (∀ a r, M.a4f a = some r → (L.z6s nz wz S0 w0 Lr) a r) := by
 refine M.a1r.mutual_partial_correctness (L.z6r nz wz S0 w0 Lr) (L.z6s nz wz S0 w0 Lr) ?_ ?_
 ·
  intro uq4 uq5 ⟨x0, x3, x9, x10, x11⟩ r h S1 w1 hx Ax0 nx0 cx0 Ax9 nx9 cx9 p1 fx0 lx0 fx9 lx9 junk
  try dsimp only at h
  subst lx0
  subst lx9
  refine Gn 5 [(12, .bool (decide (x11 < x10)))] (Ys 111010010 B185 (Ys 111010011 B185 J138)) ?_
  refine Gi h (fun h1 h => ?_) fun h1 h => ?_
  ·
   rw [dt h1]
   refine Gn 6 [] (Yt 111010011000 B185 [0, 1, 2] (Ys 111010011001 B185 J13b)) ?_
   refine Gg h fun g2 h => ?_
   refine Gg h fun g3 h => ?_
   refine Oi 335 9 11 13 0 43 .i64 x11 (gi x9 x11) rfl rfl fx9 Xa g2 g3 fun a4 _ f5 q6 => ?_
   obtain ⟨A7, c8, rfl, f9⟩ := q6
   refine Xc 43 13 14 43 a4 (.slice A7 ((gi x9 x11).length) c8) (f5.cell 0 _ rfl) ?_
   refine Gm 14 [([5, 16], .slice A7 ((gi x9 x11).length) c8), ([15], .i x3), ([17], .i ((gi x9 x11).length : Int)), ([18, 3, 19], .i (wr .i64 (x3 + ((gi x9 x11).length : Int)))), ([20], .bool (decide (wr .i64 (x3 + ((gi x9 x11).length : Int)) < 0)))] (Yt 11101001100110 B185 [] J13g) ?_
   refine Gn 1 [] J13g ?_
   refine Gi h (fun h10 h => ?_) fun h10 h => ?_
   ·
    rw [dt h10]
    refine Gn 2 [] (Yt 111010011001110 B185 [0, 1] J13b) ?_
    cases h
   ·
    rw [df h10]
    refine Gn 2 [] J13b ?_
    exact Gj 36 [(0, Sl Ax0 x0 cx0), (3, .i (wr .i64 (x3 + ((gi x9 x11).length : Int)))), (9, Sl Ax9 x9 cx9), (10, .i x10), (11, .i x11)] (uq5 _ _ h _ _ hx _ _ _ _ _ _ p1 fx0 rfl fx9 rfl)
  ·
   rw [df h1]
   refine Gn 5 [(23, .i x3)] (Yt 11110 B185 [1, 2] (Ys 11111 B185 [])) ?_
   refine Gb h fun y11 e12 h => ?_
   refine Gc (.call { callee := .value (.func 232), args := #[(.const (Sn)), 23], argTypes := #[43, 3] }) 24 43 232 _ (W.z6n x3 y11 e12  p1 ) ?_
   rintro _ w2 ⟨S2, u3a, u3b, u3c, u3d, rfl, z2, p2, u3e, rfl⟩
   refine Gn 11 [(6, Sl (Gp u3a) y11 u3c), (25, Sl Ax0 x0 cx0), (26, .i (x0.length : Int)), (27, .i 0)] J12x ?_
   exact Gj 36 [(6, Sl (Gp u3a) y11 u3c), (25, Sl Ax0 x0 cx0), (26, .i (x0.length : Int)), (27, .i 0)] (W.z6q _ _ h _ _ (hx.t z2) _ _ _ _ _ _ _ p2 u3e rfl (fx0.ext z2) rfl)
 ·
  intro uq6 uq7 ⟨x0, x3, x9, x10, x11⟩ r h S1 w1 hx Ax0 nx0 cx0 Ax9 nx9 cx9 p1 fx0 lx0 fx9 lx9 junk
  try dsimp only at h
  subst lx0
  subst lx9
  refine Gm 6 [([22, 11], .i (wr .i64 (x11 + 1)))] J139 ?_
  exact Gj 36 [(0, Sl Ax0 x0 cx0), (3, .i x3), (9, Sl Ax9 x9 cx9), (10, .i x10), (11, .i (wr .i64 (x11 + 1)))] (uq7 _ _ h _ _ hx _ _ _ _ _ _ p1 fx0 rfl fx9 rfl)
theorem W.z6r {nz wz S0 w0 Lr} : ∀ a r, M.a1r a = some r → (L.z6r nz wz S0 w0 Lr) a r := (W.z6t).1
theorem W.z6s {nz wz S0 w0 Lr} : ∀ a r, M.a4f a = some r → (L.z6s nz wz S0 w0 Lr) a r := (W.z6t).2
theorem W.z6p (x0 : List (List ByteArray)) (r : List ByteArray) (h : M.a5k x0 = some r) {nz wz S0 w0 Lr} (Ax0 nx0 cx0) (p0 : Hp nz wz S0 w0 (Lr)) (fx0 : Rd (kSl kStr) S0 w0 Ax0 cx0 x0) (lx0 : x0.length = nx0) :
  Calls Tg 185 #[.slice Ax0 nx0 cx0] w0 (Rets (Post.z6p nz wz S0 w0 Lr r)) := by
 subst lx0
 refine Zf Tryz.f185 B185 35 ?_
 refine Gj 36 [(0, Sl Ax0 x0 cx0)] fun junk => ?_
 delta M.a5k at h
 refine Gn 14 [(2, Sn), (3, .i 0), (9, Sl Ax0 x0 cx0), (10, .i (x0.length : Int)), (11, .i 0)] (Yt 11100 B185 [] (Ys 11101 B185 J136)) ?_
 refine Gn 3 [] J139 ?_
 exact Gj 36 [(0, Sl Ax0 x0 cx0), (3, .i 0), (9, Sl Ax0 x0 cx0), (10, .i (x0.length : Int)), (11, .i 0)] (W.z6r _ _ h _ _ (Xj S0 w0) _ _ _ _ _ _ p0 fx0 rfl fx0 rfl)
def J13x := Ys 1111111111111 B267 []
def Post.z6u (r : Int × Int) (v : Value) (w' : World) : Prop :=
 ∃ S', v = .tuple #[.u r.1, .u r.2] ∧ Ext S0 w0 S' w' ∧ Hp nz wz S' w' (Lr)
theorem W.z6u (x0 : Int) (x1 : Int) (r : Int × Int) (h : M.a7j x0 x1 = some r) {nz wz S0 w0 Lr} (p0 : Hp nz wz S0 w0 (Lr)) :
  Calls Tg 267 #[.u x0, .u x1] w0 (Rets (Post.z6u nz wz S0 w0 Lr r)) := by
 refine Zf Tryz.f267 B267 49 ?_
 refine Gj 51 [(0, .u x0), (1, .u x1)] fun junk => ?_
 delta M.a7j at h
 refine Gm 14 [([4, 5], .u 0), ([14, 16], .u x0), ([15, 6], .u (iand .u64 x0 4294967295))] (Yt 1110 B267 [1, 2] (Ys 1111 B267 [])) ?_
 refine Gm 14 [([17, 7], .u (ishr .u64 x0 32)), ([18, 20], .u x1), ([19, 8], .u (iand .u64 x1 4294967295)), ([21, 9], .u (ishr .u64 x1 32))] (Yt 111110 B267 [] (Ys 111111 B267 [])) ?_
 refine Gm 14 [([22], .u (iand .u64 x0 4294967295)), ([23, 26], .u (iand .u64 x1 4294967295)), ([24, 10, 28], .u (wr .u64 ((iand .u64 x0 4294967295) * (iand .u64 x1 4294967295)))), ([25], .u (ishr .u64 x0 32)), ([27], .u (wr .u64 ((ishr .u64 x0 32) * (iand .u64 x1 4294967295))))] (Yt 11111110 B267 [4, 5, 6] (Ys 11111111 B267 [])) ?_
 refine Gm 14 [([29], .u (ishr .u64 (wr .u64 ((iand .u64 x0 4294967295) * (iand .u64 x1 4294967295))) 32)), ([30, 11, 31, 33], .u (wr .u64 ((wr .u64 ((ishr .u64 x0 32) * (iand .u64 x1 4294967295))) + (ishr .u64 (wr .u64 ((iand .u64 x0 4294967295) * (iand .u64 x1 4294967295))) 32)))), ([32, 12], .u (iand .u64 (wr .u64 ((wr .u64 ((ishr .u64 x0 32) * (iand .u64 x1 4294967295))) + (ishr .u64 (wr .u64 ((iand .u64 x0 4294967295) * (iand .u64 x1 4294967295))) 32))) 4294967295)), ([34], .u (ishr .u64 (wr .u64 ((wr .u64 ((ishr .u64 x0 32) * (iand .u64 x1 4294967295))) + (ishr .u64 (wr .u64 ((iand .u64 x0 4294967295) * (iand .u64 x1 4294967295))) 32))) 32))] (Yt 1111111110 B267 [2] (Ys 1111111111 B267 [])) ?_
 refine Gm 14 [([13], .u (ishr .u64 (wr .u64 ((wr .u64 ((ishr .u64 x0 32) * (iand .u64 x1 4294967295))) + (ishr .u64 (wr .u64 ((iand .u64 x0 4294967295) * (iand .u64 x1 4294967295))) 32))) 32)), ([35], .u (iand .u64 (wr .u64 ((wr .u64 ((ishr .u64 x0 32) * (iand .u64 x1 4294967295))) + (ishr .u64 (wr .u64 ((iand .u64 x0 4294967295) * (iand .u64 x1 4294967295))) 32))) 4294967295)), ([36], .u (iand .u64 x0 4294967295)), ([37], .u (ishr .u64 x1 32)), ([38], .u (wr .u64 ((iand .u64 x0 4294967295) * (ishr .u64 x1 32)))), ([39, 12], .u (wr .u64 ((iand .u64 (wr .u64 ((wr .u64 ((ishr .u64 x0 32) * (iand .u64 x1 4294967295))) + (ishr .u64 (wr .u64 ((iand .u64 x0 4294967295) * (iand .u64 x1 4294967295))) 32))) 4294967295) + (wr .u64 ((iand .u64 x0 4294967295) * (ishr .u64 x1 32)))))), ([40], .u (ishr .u64 x0 32))] (Yt 111111111110 B267 [1, 2, 3, 4, 5, 6, 7, 8] (Ys 111111111111 B267 [])) ?_
 refine Gm 14 [([41], .u (ishr .u64 x1 32)), ([42], .u (wr .u64 ((ishr .u64 x0 32) * (ishr .u64 x1 32)))), ([43], .u (ishr .u64 (wr .u64 ((wr .u64 ((ishr .u64 x0 32) * (iand .u64 x1 4294967295))) + (ishr .u64 (wr .u64 ((iand .u64 x0 4294967295) * (iand .u64 x1 4294967295))) 32))) 32)), ([44], .u (wr .u64 ((wr .u64 ((ishr .u64 x0 32) * (ishr .u64 x1 32))) + (ishr .u64 (wr .u64 ((wr .u64 ((ishr .u64 x0 32) * (iand .u64 x1 4294967295))) + (ishr .u64 (wr .u64 ((iand .u64 x0 4294967295) * (iand .u64 x1 4294967295))) 32))) 32)))), ([45], .u (wr .u64 ((iand .u64 (wr .u64 ((wr .u64 ((ishr .u64 x0 32) * (iand .u64 x1 4294967295))) + (ishr .u64 (wr .u64 ((iand .u64 x0 4294967295) * (iand .u64 x1 4294967295))) 32))) 4294967295) + (wr .u64 ((iand .u64 x0 4294967295) * (ishr .u64 x1 32)))))), ([46], .u (ishr .u64 (wr .u64 ((iand .u64 (wr .u64 ((wr .u64 ((ishr .u64 x0 32) * (iand .u64 x1 4294967295))) + (ishr .u64 (wr .u64 ((iand .u64 x0 4294967295) * (iand .u64 x1 4294967295))) 32))) 4294967295) + (wr .u64 ((iand .u64 x0 4294967295) * (ishr .u64 x1 32))))) 32)), ([47, 4], .u (wr .u64 ((wr .u64 ((wr .u64 ((ishr .u64 x0 32) * (ishr .u64 x1 32))) + (ishr .u64 (wr .u64 ((wr .u64 ((ishr .u64 x0 32) * (iand .u64 x1 4294967295))) + (ishr .u64 (wr .u64 ((iand .u64 x0 4294967295) * (iand .u64 x1 4294967295))) 32))) 32))) + (ishr .u64 (wr .u64 ((iand .u64 (wr .u64 ((wr .u64 ((ishr .u64 x0 32) * (iand .u64 x1 4294967295))) + (ishr .u64 (wr .u64 ((iand .u64 x0 4294967295) * (iand .u64 x1 4294967295))) 32))) 4294967295) + (wr .u64 ((iand .u64 x0 4294967295) * (ishr .u64 x1 32))))) 32)))), ([48], .u x0), ([49], .u x1), ([50], .u (wr .u64 (x0 * x1)))] (Yt 1111111111110 B267 [3] J13x) ?_
 refine Gn 2 [(5, .u (wr .u64 (x0 * x1)))] J13x ?_
 obtain rfl := sj h
 exact Xd Tryz.f267 (.tuple #[.u (wr .u64 ((wr .u64 ((wr .u64 ((ishr .u64 x0 32) * (ishr .u64 x1 32))) + (ishr .u64 (wr .u64 ((wr .u64 ((ishr .u64 x0 32) * (iand .u64 x1 4294967295))) + (ishr .u64 (wr .u64 ((iand .u64 x0 4294967295) * (iand .u64 x1 4294967295))) 32))) 32))) + (ishr .u64 (wr .u64 ((iand .u64 (wr .u64 ((wr .u64 ((ishr .u64 x0 32) * (iand .u64 x1 4294967295))) + (ishr .u64 (wr .u64 ((iand .u64 x0 4294967295) * (iand .u64 x1 4294967295))) 32))) 4294967295) + (wr .u64 ((iand .u64 x0 4294967295) * (ishr .u64 x1 32))))) 32))), .u (wr .u64 (x0 * x1))]) ⟨_, rfl, (Xj S0 w0), p0⟩
def Post.z6v (r : Int × Int) (v : Value) (w' : World) : Prop :=
 ∃ S', v = .tuple #[.u r.1, .u r.2] ∧ Ext S0 w0 S' w' ∧ Hp nz wz S' w' (Lr)
theorem W.z6v (x0 : Int) (x1 : Int) (r : Int × Int) (h : M.a6p x0 x1 = some r) {nz wz S0 w0 Lr} (p0 : Hp nz wz S0 w0 (Lr)) :
  Calls Tg 233 #[.u x0, .u x1] w0 (Rets (Post.z6v nz wz S0 w0 Lr r)) := by
 refine Zf Tryz.f233 B233 28 ?_
 refine Gj 30 [(0, .u x0), (1, .u x1)] fun junk => ?_
 delta M.a6p at h
 refine Gm 12 [([4, 5], .u 0), ([23], .u x0), ([24], .u x1)] (Yt 1110 B233 [2, 3, 4, 5, 6, 7] (Ys 1111 B233 [])) ?_
 refine Gb h fun y1 e2 h => ?_
 refine Gc (kc 267 [23, 24] #[22, 22]) 25 361 267 _ (W.z6u x0 x1 y1 e2  p0 ) ?_
 rintro _ w2 ⟨S2, rfl, z2, p2⟩
 refine Gm 13 [([22], .tuple #[.u y1.1, .u y1.2]), ([26, 8, 28, 4], .u y1.1), ([27, 9, 29, 5], .u y1.2)] (Ys 11111 B233 []) ?_
 obtain rfl := sj h
 exact Xd Tryz.f233 (.tuple #[.u y1.1, .u y1.2]) ⟨_, rfl, z2, p2⟩
def Qvz := Yq 1111111000 B186
def J144 := Zl Qvz (Zb 0 (Ys 11111111 B186 []))
def J145 := Zc Qvz J144
def Post.z6w (r : List T26) (v : Value) (w' : World) : Prop :=
 ∃ S' Gq nq cq csq, v = .slice (Gp Gq) nq cq ∧ Ext S0 w0 S' w' ∧ Hp nz wz S' w' ((Gq, .row 27 csq (cq * kT26.size) 0) :: Lr) ∧ Els kT26 S' w' csq r ∧ r.length = nq
def L.z6x : (List T26) × Int → (List T26) → Prop := fun ⟨x7, x8⟩ r => ∀ S1 w1, Ext S0 w0 S1 w1 → ∀ Gx7 nx7 cx7 ue5 (_ : Hp nz wz S1 w1 ((Gx7, .row 27 ue5 (cx7 * kT26.size) 0) :: Lr)) (_ : Els kT26 S1 w1 ue5 x7) (_ : x7.length = nx7) (junk : Nat → Value),
 Goes Tg (base 186) J145 ⟨lfr 48 [(7, .slice (Gp Gx7) nx7 cx7), (8, .i x8)] junk, []⟩ w1 (Done Tg 186 (Rets (Post.z6w nz wz S0 w0 Lr r)))
theorem W.z6x {nz wz S0 w0 Lr} : ∀ a r, M.a2z a = some r → (L.z6x nz wz S0 w0 Lr) a r := by
 refine M.a2z.partial_correctness (motive := (L.z6x nz wz S0 w0 Lr)) ?_
 intro uq8 uq9 ⟨x7, x8⟩ r h S1 w1 hx Gx7 nx7 cx7 ue5 p1 fx7 lx7 junk
 try dsimp only at h
 subst lx7
 refine Gn 8 [(34, .i x8), (35, Sl (Gp Gx7) x7 cx7), (36, .i (x7.length : Int)), (37, .bool (decide (x8 < (x7.length : Int))))] (Ys 111111100001 B186 (Ys 11111110001 B186 J144)) ?_
 refine Gi h (fun h20 h => ?_) fun h20 h => ?_
 ·
  rw [dt h20]
  refine Gn 3 [] (Ys 111111100010 B186 (Zb 1 J144)) ?_
  have z5 : Ext S1 w1 S1 (w1).drew := Xk
  have p5 := p1.draw
  refine Gd [] (Fc S1 (w1).drew []) 9 10 ?_
  generalize (w1).drew = w5 at z5 p5 ⊢
  refine Xb 0 (.move 8) 38 3 (.i x8) Fc0 ?_
  refine Xb 1 (.move 7) 39 25 (Sl (Gp Gx7) x7 cx7) Fc0 ?_
  refine Xb 2 (.move 8) 40 3 (.i x8) Fc0 ?_
  refine Gg h fun g21 h => ?_
  refine Gg h fun g22 h => ?_
  refine AnyG.slV (K := kT26) (i := 3) 25 39 (some 40) none 41 25 27 x8 (x7.length : Int) 0 rfl p5 rfl (by decide) (fx7.ext z5) (by kernel_rfl) (by kernel_rfl) Fc0 (by kernel_rfl) (by kernel_rfl) (by kernel_rfl) (Xt .i64 (by kernel_rfl)) Xv g21 g22 (Int.le_refl _) ?_
  refine Xb 4 (.move 7) 42 25 (Sl (Gp Gx7) x7 cx7) Fc0 ?_
  refine Xb 5 (.move 8) 43 3 (.i x8) Fc0 ?_
  refine AnyG.slV (K := kT26) (i := 6) 25 42 none (some 43) 44 25 27 0 x8 0 rfl p5 rfl (by decide) (fx7.ext z5) (by kernel_rfl) (by kernel_rfl) Fc0 (by kernel_rfl) (by kernel_rfl) (by kernel_rfl) Xv (Xt .i64 (by kernel_rfl)) (by decide : (0 : Int) ≤ 0) g21 g22 ?_
  obtain ⟨uc6, f24, f25, f26⟩ := src_winI (K := kT26) p5 (q := 0) rfl rfl (by decide) (fx7.ext z5) (by decide : (0 : Int) ≤ 0) g21 g22
  refine Gl h fun v27 e28 h => ?_
  refine Op_.cpV (K := kT26) 25 25 41 44 45 3 27 0 ((x8 : Int).toNat) (((x7.length : Int) : Int).toNat - (x8 : Int).toNat) (cx7 - (x8 : Int).toNat) (sl x7 0 x8) v27 ((x8 : Int).toNat - (0 : Int).toNat) (winA Gx7 (0 : Int).toNat cx7 kT26.size) (cx7 - (0 : Int).toNat) rfl f26 e28 p5 rfl (fx7.ext z5) (Av 7) (by kernel_rfl) (by kernel_rfl) (by kernel_rfl) (by kernel_rfl) (by decide) (by have h0 : 0 ≤ (x8 : Int) := g21; have h1 : (x8 : Int) ≤ (x7.length : Int) := g22; have h2 : ((x7.length : Int) : Int) ≤ (x7.length : Int) := (Int.le_refl _); omega) f24 f25 fun w6 uc7 z6 p6 f30 => ?_
  refine Xo z6 trivial ?_
  refine Xb 8 (.binOp .add 3 38 45 3) 46 3 (.i (wr .i64 (x8 + ((min ((x8 : Int).toNat - (0 : Int).toNat) (((x7.length : Int) : Int).toNat - (x8 : Int).toNat) : Nat) : Int)))) Fc0 ?_
  refine Xb 9 (.assign 46) 8 3 (.i (wr .i64 (x8 + ((min ((x8 : Int).toNat - (0 : Int).toNat) (((x7.length : Int) : Int).toNat - (x8 : Int).toNat) : Nat) : Int)))) Fc0 ?_
  refine Ad ?_
  refine Gn 2 [] J145 ?_
  exact Gj 48 [(7, Sl (Gp Gx7) x7 cx7), (8, .i (wr .i64 (x8 + ((min ((x8 : Int).toNat - (0 : Int).toNat) (((x7.length : Int) : Int).toNat - (x8 : Int).toNat) : Nat) : Int))))] (uq9 _ _ h _ _ ((hx.t z5).t z6) _ _ _ _ p6 f30 ((congrArg List.length e28).symm.trans (cpy_length _ _ _ _ (by have h0 : 0 ≤ (x8 : Int) := g21; have h1 : (x8 : Int) ≤ (x7.length : Int) := g22; have h2 : ((x7.length : Int) : Int) ≤ (x7.length : Int) := (Int.le_refl _); omega))))
 ·
  rw [df h20]
  refine Gm 7 [([47, 4], Sl (Gp Gx7) x7 cx7)] (Ys 111111111 B186 []) ?_
  obtain rfl := sj h
  exact Xd Tryz.f186 (Sl (Gp Gx7) x7 cx7) ⟨_, _, _, _, _, rfl, hx, p1, fx7, rfl⟩
def J14b := Ys 11111 B186 []
def L.z6y : (List T26) × Int → (List T26) → Prop := fun ⟨x0, x6⟩ r => ∀ S1 w1, Ext S0 w0 S1 w1 → ∀ Ax0 nx0 cx0 (_ : Hp nz wz S1 w1 (Lr)) (_ : Rd kT26 S1 w1 Ax0 cx0 x0) (_ : x0.length = nx0) (junk : Nat → Value),
 Goes Tg (base 186) J14b ⟨lfr 48 [(0, .slice Ax0 nx0 cx0), (6, .u x6)] junk, []⟩ w1 (Done Tg 186 (Rets (Post.z6w nz wz S0 w0 Lr r)))
theorem W.z6y {nz wz S0 w0 Lr} : ∀ a r, M.a5l a = some r → L.z6y nz wz S0 w0 Lr a r := by
 intro ⟨x0, x6⟩ r h S1 w1 hx Ax0 nx0 cx0 p1 fx0 lx0 junk
 rw [M.a5l] at h
 try dsimp only at h
 subst lx0
 refine Gn 4 [(28, .u x6), (29, .i (wr .i64 x6))] (Yt 111110 B186 [2, 3] (Ys 111111 B186 [])) ?_
 refine Gg h fun g6 h => ?_
 refine Gg h fun g7 h => ?_
 refine Gl h fun v8 e9 h => ?_
 refine Op_.mk_n (K := kT26) 25 29 29 30 25 27 .i64 .i64 (wr .i64 x6) (wr .i64 x6) (.agg #[.i 0, .u 0, .u 0, .u 0, .u 0, Sn, .i 0, .i 0]) [.i 0, .u 0, .u 0, .u 0, .u 0, Sn, .i 0, .i 0] 80 (⟨0, [0, 0, 0, 0], ([] : List T26), 0, 0⟩ : T26) v8 e9 p1 Xa (by kernel_rfl) (by kernel_rfl) (by kernel_rfl) (by kernel_rfl) (by kernel_rfl) (fun _ _ => (kT26_close ⟨[.i 0], [.u 0, .u 0, .u 0, .u 0, Sn, .i 0, .i 0], rfl, rfl, ⟨[.u 0, .u 0, .u 0, .u 0], [Sn, .i 0, .i 0], rfl, ⟨rfl, (Els.cons (K := kU) (vs := [.u 0]) (x := 0) rfl (Els.cons (K := kU) (vs := [.u 0]) (x := 0) rfl (Els.cons (K := kU) (vs := [.u 0]) (x := 0) rfl (Els.cons (K := kU) (vs := [.u 0]) (x := 0) rfl Els.nil))))⟩, ⟨[Sn], [.i 0, .i 0], rfl, ⟨none, 0, rfl, Xr⟩, ⟨[.i 0], [.i 0], rfl, rfl, rfl⟩⟩⟩⟩)) g6 (Int.le_refl _) (by have := g7; omega) (by have := g7; omega) fun b10 w3 uqa z3 p3 f12 => ?_
 refine Gm 6 [([7, 31], .slice (Gp (some b10)) v8.length ((wr .i64 x6 : Int).toNat)), ([32], Sl Ax0 x0 cx0)] (Yt 1111110 B186 [2, 3] (Ys 1111111 B186 [])) ?_
 obtain ⟨uqb, f15, f16⟩ := src_rd (fx0.ext z3)
 refine Op_.cpO (K := kT26) 25 25 31 32 33 3 27 0 x0 (cpy v8 0 v8.length x0) x0.length Ax0 cx0 rfl rfl rfl p3 rfl f12 Xa (by kernel_rfl) (by kernel_rfl) (by kernel_rfl) (by kernel_rfl) (by decide) f15 f16 fun w4 u6y z4 p4 f18 => ?_
 refine Gn 5 [(8, .i ((min x0.length v8.length : Nat) : Int))] J145 ?_
 exact Gj 48 [(7, .slice (Gp (some b10)) v8.length ((wr .i64 x6 : Int).toNat)), (8, .i ((min x0.length v8.length : Nat) : Int))] (W.z6x _ _ h _ _ ((hx.t z3).t z4) (some b10) _ _ _ p4 f18 (cpy_length _ _ _ _ (by omega)))
def J14g := Ys 111101 B186 J14b
def L.z6z : (List T26) × Int × Bool → (List T26) → Prop := fun ⟨x0, x6, x26⟩ r => ∀ S1 w1, Ext S0 w0 S1 w1 → ∀ Ax0 nx0 cx0 (_ : Hp nz wz S1 w1 (Lr)) (_ : Rd kT26 S1 w1 Ax0 cx0 x0) (_ : x0.length = nx0) (junk : Nat → Value),
 Goes Tg (base 186) J14g ⟨lfr 48 [(0, .slice Ax0 nx0 cx0), (6, .u x6), (26, .bool x26)] junk, []⟩ w1 (Done Tg 186 (Rets (Post.z6w nz wz S0 w0 Lr r)))
theorem W.z6z {nz wz S0 w0 Lr} : ∀ a r, M.a4g a = some r → L.z6z nz wz S0 w0 Lr a r := by
 intro ⟨x0, x6, x26⟩ r h S1 w1 hx Ax0 nx0 cx0 p1 fx0 lx0 junk
 rw [M.a4g] at h
 try dsimp only at h
 subst lx0
 refine Gi h (fun h5 h => ?_) fun h5 h => ?_
 ·
  rw [h5]
  refine Gn 2 [] (Yt 1111010 B186 [0, 1] J14b) ?_
  cases h
 ·
  rw [bf h5]
  refine Gn 2 [] J14b ?_
  exact Gj 48 [(0, Sl Ax0 x0 cx0), (6, .u x6)] (W.z6y _ _ h _ _ hx _ _ _ p1 fx0 rfl)
def J14i := Ys 111 B186 []
def L.z70 : (List T26) × Int → (List T26) → Prop := fun ⟨x0, x1⟩ r => ∀ S1 w1, Ext S0 w0 S1 w1 → ∀ Ax0 nx0 cx0 (_ : Hp nz wz S1 w1 (Lr)) (_ : Rd kT26 S1 w1 Ax0 cx0 x0) (_ : x0.length = nx0) (junk : Nat → Value),
 Goes Tg (base 186) J14i ⟨lfr 48 [(0, .slice Ax0 nx0 cx0), (1, .i x1)] junk, []⟩ w1 (Done Tg 186 (Rets (Post.z6w nz wz S0 w0 Lr r)))
theorem W.z70 {nz wz S0 w0 Lr} : ∀ a r, M.a5m a = some r → L.z70 nz wz S0 w0 Lr a r := by
 intro ⟨x0, x1⟩ r h S1 w1 hx Ax0 nx0 cx0 p1 fx0 lx0 junk
 rw [M.a5m] at h
 try dsimp only at h
 subst lx0
 refine Gn 7 [(13, Sl Ax0 x0 cx0), (14, .i (x0.length : Int)), (15, .u (wr .u64 (x0.length : Int))), (16, .i x1), (17, .u (wr .u64 x1))] (Yt 1110 B186 [5, 6, 7, 8, 9, 10] (Ys 1111 B186 [])) ?_
 refine Gb h fun y2 e3 h => ?_
 refine Gc (kc 233 [15, 17] #[150, 150]) 18 337 233 _ (W.z6v (wr .u64 (x0.length : Int)) (wr .u64 x1) y2 e3  p1 ) ?_
 rintro _ w2 ⟨S2, rfl, z2, p2⟩
 refine Gm 12 [([12], .tuple #[.u y2.1, .u y2.2]), ([19, 5, 21], .u y2.1), ([20, 6], .u y2.2), ([22, 23], .bool (decide (y2.1 > 0)))] (Yt 111100 B186 [3, 4, 5] J14g) ?_
 refine Gi h (fun h4 h => ?_) fun h4 h => ?_
 ·
  rw [dt h4]
  refine Gm 4 [([24, 25], undef), ([26], .bool true)] J14g ?_
  exact Gj 48 [(0, Sl Ax0 x0 cx0), (6, .u y2.2), (26, .bool true)] (W.z6z _ _ h _ _ (hx.t z2) _ _ _ p2 (fx0.ext z2) rfl)
 ·
  rw [df h4]
  refine Gm 4 [([24], .u y2.2), ([25, 26], .bool (decide (y2.2 > 9223372036854775807)))] J14g ?_
  exact Gj 48 [(0, Sl Ax0 x0 cx0), (6, .u y2.2), (26, .bool (decide (y2.2 > 9223372036854775807)))] (W.z6z _ _ h _ _ (hx.t z2) _ _ _ p2 (fx0.ext z2) rfl)
theorem W.z6w (x0 : List T26) (x1 : Int) (r : List T26) (h : M.a5n x0 x1 = some r) {nz wz S0 w0 Lr} (Ax0 nx0 cx0) (p0 : Hp nz wz S0 w0 (Lr)) (fx0 : Rd kT26 S0 w0 Ax0 cx0 x0) (lx0 : x0.length = nx0) :
  Calls Tg 186 #[.slice Ax0 nx0 cx0, .i x1] w0 (Rets (Post.z6w nz wz S0 w0 Lr r)) := by
 subst lx0
 refine Zf Tryz.f186 B186 46 ?_
 refine Gj 48 [(0, Sl Ax0 x0 cx0), (1, .i x1)] fun junk => ?_
 delta M.a5n at h
 refine Gn 10 [(4, Sn), (9, .i x1), (10, .bool (decide (x1 < 0)))] (Ys 1101 B186 J14i) ?_
 refine Gi h (fun h1 h => ?_) fun h1 h => ?_
 ·
  rw [dt h1]
  refine Gn 2 [] (Yt 11010 B186 [0, 1] J14i) ?_
  cases h
 ·
  rw [df h1]
  refine Gn 2 [] J14i ?_
  exact Gj 48 [(0, Sl Ax0 x0 cx0), (1, .i x1)] (W.z70 _ _ h _ _ (Xj S0 w0) _ _ _ p0 fx0 rfl)
def Qwi := Yq 1110100 B182
def J14q := Zl Qwi (Zb 0 (Ys 1111 B182 []))
def J14r := Zc Qwi J14q
def J14s := Ys 111 B115 []
def J14t := Zb 0 J14s
def J14u := Ys 1101011111011 B115 J14t
def Qwl := Yq 1101011111010100 B115
def J14w := Zl Qwl (Zb 1 J14u)
def J14x := Zc Qwl J14w
def J14z := Zb 2 (Ys 1101011111010100111 B115 J14w)
def Qwn := Yq 11010111110101001100111 B115
def J150 := Zc Qwn J14z
def J151 := Ys 110101111101010011001101 B115 J150
def J157 := Ys 11010101 B115 J14t
def J15a := Ys 1101011101 B115 J14t
def J15h := Ys 1111 B115 []
def J15i := Ys 11101 B115 J15h
def Qx6 := Yq 11100 B115
def J15l := Ys 11111 B115 []
def Qx8 := Yq 11110 B115
def J15o := Ys 1110101 B115 J15h
def Qxh := Yq 110101111101010011001100 B115
def J15z := Ys 11010111110111 B115 J14t
def J161 := Ys 11010111110101001100110101 B115 J150
def J16c := Zb 1 (Ys 1110100111 B182 J14q)
def J16h := Ys 11101001100111 B182 J16c
def J16j := Ys 11111 B182 []
def J16k := Yt 11110 B182 [0, 1] J16j
def Post.z71 (r : T218) (v : Value) (w' : World) : Prop :=
 ∃ S' uo8 uaz ub0, v = (ag (vT218 r uo8 uaz ub0)) ∧ Ext S0 w0 S' w' ∧ Hp nz wz S' w' (Lr) ∧ Rd kStr S' w' uo8 ub0 r.l ∧ r.l.length = uaz
def Post.z72 (r : T218) (v : Value) (w' : World) : Prop :=
 ∃ S' uo8 uaz ub0, v = (ag (vT218 r uo8 uaz ub0)) ∧ Ext S0 w0 S' w' ∧ Hp nz wz S' w' (Lr) ∧ Rd kStr S' w' uo8 ub0 r.l ∧ r.l.length = uaz
def LF.z71 : T26 → T218 → Prop := fun x0 r => ∀ {nz wz S0 w0 Lr} u5 u6 u7 (_ : Hp nz wz S0 w0 (Lr)) (_ : x0.Set.length = 4) (_ : Rd kT26 S0 w0 u5 u7 x0.L) (_ : x0.L.length = u6),
 Calls Tg 115 #[(ag (vT26 x0 u5 u6 u7))] w0 (Rets (Post.z71 nz wz S0 w0 Lr r))
def LF.z72 : (List T26) → T218 → Prop := fun x0 r => ∀ {nz wz S0 w0 Lr} Ax0 nx0 cx0 (_ : Hp nz wz S0 w0 (Lr)) (_ : Rd kT26 S0 w0 Ax0 cx0 x0) (_ : x0.length = nx0),
 Calls Tg 182 #[.slice Ax0 nx0 cx0] w0 (Rets (Post.z72 nz wz S0 w0 Lr r))
def L.z73 : T218 × T218 × (List T26) × Int × Int → T218 → Prop := fun ⟨x2v, x3v, x8, x9, x10⟩ r => ∀ S1 w1, Ext S0 w0 S1 w1 → ∀ gx2 uo9 uoa uob uoc gx3 uos uot uou Ax8 nx8 cx8 (_ : Hp nz wz S1 w1 ((some gx2, .row 219 (vT218 x2v (Gp uo9) uoa uob) 2 0) :: (uo9, .row 9 uoc (uob * kStr.size) 0) :: (some gx3, .row 219 (vT218 x3v uos uot uou) 2 0) :: Lr)) (_ : Els kStr S1 w1 uoc x2v.l) (_ : x2v.l.length = uoa) (_ : Rd kStr S1 w1 uos uou x3v.l) (_ : x3v.l.length = uot) (_ : Rd kT26 S1 w1 Ax8 cx8 x8) (_ : x8.length = nx8) (junk : Nat → Value),
 Goes Tg (base 182) J14r ⟨lfr 23 [(2, (pt gx2 0)), (3, (pt gx3 0)), (8, .slice Ax8 nx8 cx8), (9, .i x9), (10, .i x10)] junk, []⟩ w1 (Done Tg 182 (Rets (Post.z72 nz wz S0 w0 Lr r)))
def LL.z73 : T218 × T218 × (List T26) × Int × Int → T218 → Prop := fun a r => ∀ {nz wz S0 w0 Lr}, L.z73 nz wz S0 w0 Lr a r
def L.z74 : T218 × T218 × (List T26) × Int × Int → T218 → Prop := fun ⟨x2v, x3v, x23, x24, x25⟩ r => ∀ S1 w1, Ext S0 w0 S1 w1 → ∀ gx2 uo9 uoa uob uoc gx3 uos uot uou u16 u17 u18 (_ : Hp nz wz S1 w1 ((some gx2, .row 219 (vT218 x2v (Gp uo9) uoa uob) 2 0) :: (uo9, .row 9 uoc (uob * kStr.size) 0) :: (some gx3, .row 219 (vT218 x3v uos uot uou) 2 0) :: Lr)) (_ : Els kStr S1 w1 uoc x2v.l) (_ : x2v.l.length = uoa) (_ : Rd kStr S1 w1 uos uou x3v.l) (_ : x3v.l.length = uot) (_ : Rd kT26 S1 w1 u16 u18 x23) (_ : x23.length = u17) (junk : Nat → Value),
 Goes Tg (base 115) J14x ⟨lfr 61 [(2, (pt gx2 0)), (3, (pt gx3 0)), (23, .slice u16 u17 u18), (24, .i x24), (25, .i x25)] junk, []⟩ w1 (Done Tg 115 (Rets (Post.z71 nz wz S0 w0 Lr r)))
def LL.z74 : T218 × T218 × (List T26) × Int × Int → T218 → Prop := fun a r => ∀ {nz wz S0 w0 Lr}, L.z74 nz wz S0 w0 Lr a r
def L.z75 : T218 × T218 × T218 × (List T26) × Int × Int × Bool → T218 → Prop := fun ⟨x2v, x3v, x6v, x23, x24, x25, x38⟩ r => ∀ S1 w1, Ext S0 w0 S1 w1 → ∀ gx2 uo9 uoa uob uoc gx3 uos uot uou gx6 uqc uqd uqe u16 u17 u18 (_ : Hp nz wz S1 w1 ((some gx2, .row 219 (vT218 x2v (Gp uo9) uoa uob) 2 0) :: (uo9, .row 9 uoc (uob * kStr.size) 0) :: (some gx3, .row 219 (vT218 x3v uos uot uou) 2 0) :: (some gx6, .row 219 (vT218 x6v uqc uqd uqe) 2 0) :: Lr)) (_ : Els kStr S1 w1 uoc x2v.l) (_ : x2v.l.length = uoa) (_ : Rd kStr S1 w1 uos uou x3v.l) (_ : x3v.l.length = uot) (_ : Rd kStr S1 w1 uqc uqe x6v.l) (_ : x6v.l.length = uqd) (_ : Rd kT26 S1 w1 u16 u18 x23) (_ : x23.length = u17) (junk : Nat → Value),
 Goes Tg (base 115) J151 ⟨lfr 61 [(2, (pt gx2 0)), (3, (pt gx3 0)), (6, (pt gx6 0)), (23, .slice u16 u17 u18), (24, .i x24), (25, .i x25), (38, .bool x38)] junk, []⟩ w1 (Done Tg 115 (Rets (Post.z71 nz wz S0 w0 Lr r)))
def LL.z75 : T218 × T218 × T218 × (List T26) × Int × Int × Bool → T218 → Prop := fun a r => ∀ {nz wz S0 w0 Lr}, L.z75 nz wz S0 w0 Lr a r
theorem W.z76 : (∀ a r, M.a9 a = some r → LF.z71 a r) ∧ (∀ a r, M.a32 a = some r → LL.z74 a r) ∧ (∀ a r, M.a33 a = some r → LL.z75 a r) ∧ (∀ a r, M.a30 a = some r → LF.z72 a r) ∧ (∀ a r, M.a31 a = some r → LL.z73 a r) := by
 refine M.a9.mutual_partial_correctness LF.z71 LL.z74 LL.z75 LF.z72 LL.z73 ?_ ?_ ?_ ?_ ?_
 ·
  intro uqf rec_gram_row uqg ih_gram_row x0 r h nz wz S0 w0 Lr u5 u6 u7 p0 unz um un
  try dsimp only at h
  subst un
  refine Zf Tryz.f115 B115 60 ?_
  refine Gj 61 [(0, (ag (vT26 x0 u5 x0.L.length u7)))] fun junk => ?_
  refine Gn 2 [] (Yt 10 B115 [0, 1] (Ys 11 B115 [])) ?_
  refine Ob 27 0 1 0 (ag (vT26 x0 u5 x0.L.length u7)) (vT26 x0 u5 x0.L.length u7) p0 Xa fun b1 w2 z2 p2 => ?_
  refine Oa 219 2 0 (.agg #[Sn, .bool false]) [Sn, .bool false] p2 Xa fun b3 w3 z3 p3 => ?_
  refine Gn 5 [(7, (pt b1 0))] (Yt 1100 B115 [1] (Ys 1101 B115 J14s)) ?_
  refine Xc 3 7 8 3 ⟨b1, 0, none⟩ (.i x0.Kind) (p3.c 1 0) ?_
  refine Gm 7 [([10, 9], .bool (decide (x0.Kind = 1)))] (Ys 110101 B115 J14t) ?_
  refine Gi h (fun h5 h => ?_) fun h5 h => ?_
  ·
   rw [dt h5]
   refine Gn 4 [(11, (pt b1 1))] (Yt 11010100 B115 [1, 2, 3] J157) ?_
   refine Xg 24 11 12 24 ⟨b1, 1, none⟩ (U4 x0.Set []) (p3.pa 1 1) ?_
   refine Gb h fun y6 e7 h => ?_
   refine Gc (kc 181 [12] #[24]) 13 219 181 _ (W.z6c x0.Set y6 e7 _ p3 (els_mk4 (S := S0) (w := w3) (k := .u64) unz) rfl) ?_
   rintro _ w4 ⟨S4, uqh, uda, udb, rfl, z4, p4, udd, rfl⟩
   have p4 := p4.dp 1
   refine So 219 2 13 0 0 b3 0 (ag (vT218 y6 uqh y6.l.length udb)) (vT218 y6 uqh y6.l.length udb) p4 rfl Xe fun w5 z5 p5 => ?_
   refine Gn 1 [] J157 ?_
   obtain rfl := sj h
   exact R1 Tryz.f115 (.cell 2 219) (ag (vT218 y6 uqh y6.l.length udb)) (Rn b3 (p5.pa 0 0)) ⟨_, _, _, _, rfl, (((z2.t z3).t z4).t z5), p5.drop, (udd.ext z5), rfl⟩
  ·
   rw [df h5]
   refine Gm 6 [([15, 14], .bool (decide (x0.Kind = 2)))] (Ys 11010111 B115 J14t) ?_
   refine Gi h (fun h8 h => ?_) fun h8 h => ?_
   ·
    rw [dt h8]
    refine Gn 4 [(16, (pt b1 5))] (Yt 1101011100 B115 [1, 2, 3] J15a) ?_
    refine Xc 25 16 17 25 ⟨b1, 5, none⟩ (Sl u5 x0.L u7) (p3.c 1 5) ?_
    refine Gb h fun y9 e10 h => ?_
    refine Gc (kc 182 [17] #[25]) 18 219 182 _ (ih_gram_row x0.L y9 e10 _ _ _ p3 (um.ext (z2.t z3)) rfl) ?_
    rintro _ w6 ⟨S6, uqi, ubn, ubo, rfl, z6, p6, ubq, rfl⟩
    have p6 := p6.dp 1
    refine So 219 2 18 0 0 b3 0 (ag (vT218 y9 uqi y9.l.length ubo)) (vT218 y9 uqi y9.l.length ubo) p6 rfl Xe fun w7 z7 p7 => ?_
    refine Gn 1 [] J15a ?_
    obtain rfl := sj h
    exact R1 Tryz.f115 (.cell 2 219) (ag (vT218 y9 uqi y9.l.length ubo)) (Rn b3 (p7.pa 0 0)) ⟨_, _, _, _, rfl, (((z2.t z3).t z6).t z7), p7.drop, (ubq.ext z7), rfl⟩
   ·
    rw [df h8]
    refine Gm 6 [([20, 19], .bool (decide (x0.Kind = 3)))] (Ys 1101011111 B115 J14t) ?_
    refine Gi h (fun h11 h => ?_) fun h11 h => ?_
    ·
     rw [dt h11]
     refine Gn 3 [] (Yt 110101111100 B115 [0, 1, 2] (Ys 110101111101 B115 J14t)) ?_
     refine Gb h fun y12 e13 h => ?_
     refine Gc (.call { callee := .value (.func 183), args := #[(.const (Sn))], argTypes := #[43] }) 21 219 183 _ (W.z6m y12 e13  p3 ) ?_
     rintro _ w8 ⟨S8, uqj, uek, uel, rfl, z8, p8, uen, rfl⟩
     refine Oa 219 3 0 (.agg #[Sn, .bool false]) [Sn, .bool false] p8 Xa fun b14 w9 z9 p9 => ?_
     refine So 219 3 21 0 0 b14 0 (ag (vT218 y12 uqj y12.l.length uel)) (vT218 y12 uqj y12.l.length uel) p9 rfl Xe fun w10 z10 p10 => ?_
     refine Gn 5 [(22, (pt b1 5))] (Yt 11010111110100 B115 [1, 2, 3] (Ys 11010111110101 B115 J14u)) ?_
     refine Xc 25 22 23 25 ⟨b1, 5, none⟩ (Sl u5 x0.L u7) (p10.c 2 5) ?_
     refine Gn 5 [(24, .i (x0.L.length : Int)), (25, .i 0)] J14x ?_
     have p10 : Hp nz wz S8 w10 ((none, .row 9 [] (0 * kStr.size) 0) :: (some b14, .row 219 (vT218 y12 uqj y12.l.length uel) 2 0) :: (some b3, .row 219 [Sn, .bool false] 2 0) :: (some b1, .row 27 (vT26 x0 u5 x0.L.length u7) 8 0) :: Lr) := p10.nilRow' 9
     have p10 := p10.dp 3
     have p10 := ((p10.fr 1).fr 1).fr 2
     exact Gj 61 [(2, (pt b3 0)), (3, (pt b14 0)), (23, Sl u5 x0.L u7), (24, .i (x0.L.length : Int)), (25, .i 0)] (uqg _ _ h _ _ ((((z2.t z3).t z8).t z9).t z10) _ none 0 0 [] _ _ _ _ _ _ _ p10 (Els.nil (K := kStr)) rfl (uen.ext (z9.t z10)) rfl (um.ext ((((z2.t z3).t z8).t z9).t z10)) rfl)
    ·
     rw [df h11]
     refine Gn 7 [(49, (pt b1 6))] (Zr Qx6 [1, 2, 3, 4] J15i) ?_
     refine Xc 3 49 50 3 ⟨b1, 6, none⟩ (.i x0.Min) (p3.c 1 6) ?_
     refine Gn 1 [(51, (pt b1 7))] (Zr Qx6 [3, 4] J15i) ?_
     refine Xc 3 51 52 3 ⟨b1, 7, none⟩ (.i x0.Max) (p3.c 1 7) ?_
     refine Gn 2 [(53, .bool (!(decide (x0.Min = x0.Max))))] J15i ?_
     refine Gi h (fun h20 h => ?_) fun h20 h => ?_
     ·
      rw [dt h20]
      refine Gn 5 [(55, (pt b1 5))] (Zr Qx8 [1, 2, 3, 4, 5, 6] J15l) ?_
      refine Xc 25 55 56 25 ⟨b1, 5, none⟩ (Sl u5 x0.L u7) (p3.c 1 5) ?_
      refine Gn 1 [(57, (pt b1 6))] (Zr Qx8 [3, 4, 5, 6] J15l) ?_
      refine Xc 3 57 58 3 ⟨b1, 6, none⟩ (.i x0.Min) (p3.c 1 6) ?_
      refine Gb h fun y21 e22 h => ?_
      refine Gc (kc 186 [56, 58] #[25, 3]) 59 25 186 _ (W.z6w x0.L x0.Min y21 e22 _ _ _ p3 (um.ext (z2.t z3)) rfl) ?_
      rintro _ w11 ⟨S11, uqk, uql, uqm, uqn, rfl, z11, p11, umy, rfl⟩
      have p11 := p11.dp 2
      obtain ⟨S12, z12, p12, f24⟩ := p11.freezeRd 0 rfl umy (by decide)
      refine Gb h fun y25 e26 h => ?_
      refine Gc (kc 182 [59] #[25]) 60 219 182 _ (ih_gram_row y21 y25 e26 _ _ _ p12 f24 rfl) ?_
      rintro _ w13 ⟨S13, uqo, uqp, uqq, rfl, z13, p13, uqr, rfl⟩
      have p13 := p13.dp 0
      refine So 219 2 60 0 0 b3 0 (ag (vT218 y25 uqo y25.l.length uqq)) (vT218 y25 uqo y25.l.length uqq) p13 rfl Xe fun w14 z14 p14 => ?_
      refine Gn 1 [] J15l ?_
      obtain rfl := sj h
      exact R1 Tryz.f115 (.cell 2 219) (ag (vT218 y25 uqo y25.l.length uqq)) (Rn b3 (p14.pa 0 0)) ⟨_, _, _, _, rfl, (((((z2.t z3).t z11).t z12).t z13).t z14), p14.drop, (uqr.ext z14), rfl⟩
     ·
      rw [df h20]
      refine Gn 3 [] (Yt 1110100 B115 [0, 1] J15o) ?_
      refine Gb h fun y27 e28 h => ?_
      refine Gc (kc 184 [] #[]) 54 219 184 _ (W.z6b y27 e28  p3 ) ?_
      rintro _ w15 ⟨S15, uqs, uqt, uqu, rfl, z15, p15, uqv, rfl⟩
      have p15 := p15.dp 1
      refine So 219 2 54 0 0 b3 0 (ag (vT218 y27 uqs y27.l.length uqu)) (vT218 y27 uqs y27.l.length uqu) p15 rfl Xe fun w16 z16 p16 => ?_
      refine Gn 1 [] J15o ?_
      obtain rfl := sj h
      exact R1 Tryz.f115 (.cell 2 219) (ag (vT218 y27 uqs y27.l.length uqu)) (Rn b3 (p16.pa 0 0)) ⟨_, _, _, _, rfl, (((z2.t z3).t z15).t z16), p16.drop, (uqv.ext z16), rfl⟩
 ·
  intro rec_gram_tell uqw ih_gram_tell uqx ⟨x2v, x3v, x23, x24, x25⟩ r h nz wz S0 w0 Lr S1 w1 hx gx2 uo9 uoa uob uoc gx3 uos uot uou u16 u17 u18 p1 uof ugb up7 uo5 u1d u1e junk
  try dsimp only at h
  subst ugb
  subst uo5
  subst u1e
  refine Gn 5 [(26, .bool (decide (x25 < x24)))] (Ys 110101111101010010 B115 (Ys 110101111101010011 B115 J14w)) ?_
  refine Gi h (fun h29 h => ?_) fun h29 h => ?_
  ·
   rw [dt h29]
   refine Gn 6 [] (Yt 110101111101010011000 B115 [0, 1, 2, 3] (Ys 110101111101010011001 B115 J14z)) ?_
   refine Gg h fun g30 h => ?_
   refine Gg h fun g31 h => ?_
   refine Oi 25 23 25 27 0 27 .i64 x25 (gi x23 x25) rfl rfl u1d Xa g30 g31 fun a32 _ f33 q34 => ?_
   have q35 := q34
   obtain ⟨_, _, rfl, rfl, ⟨_, _, rfl, ⟨l36, f37⟩, ⟨_, _, rfl, ⟨A38, c39, rfl, f40⟩, ⟨_, _, rfl, rfl, rfl⟩⟩⟩⟩ := kT26_open q35
   obtain rfl := els_lit4' f37 l36
   refine Xg 27 27 28 27 a32 ([.i ((gi x23 x25).Kind)] ++ ((U4 ((gi x23 x25).Set) []) ++ ([.slice A38 (((gi x23 x25).L).length) c39] ++ ([.i ((gi x23 x25).Min)] ++ [.i ((gi x23 x25).Max)])))) (f33.cell) ?_
   refine Oa 27 5 0 (.agg #[.i 0, .u 0, .u 0, .u 0, .u 0, Sn, .i 0, .i 0]) [.i 0, .u 0, .u 0, .u 0, .u 0, Sn, .i 0, .i 0] p1 Xa fun b41 w17 z17 p17 => ?_
   refine So 27 5 28 0 0 b41 0 (ag (.i ((gi x23 x25).Kind) :: U4 ((gi x23 x25).Set) [.slice A38 (((gi x23 x25).L).length) c39, .i ((gi x23 x25).Min), .i ((gi x23 x25).Max)])) (.i ((gi x23 x25).Kind) :: U4 ((gi x23 x25).Set) [.slice A38 (((gi x23 x25).L).length) c39, .i ((gi x23 x25).Min), .i ((gi x23 x25).Max)]) p17 rfl Xe fun w18 z18 p18 => ?_
   refine Gn 3 [] (Yt 1101011111010100110010 B115 [0, 1, 2, 3] (Ys 1101011111010100110011 B115 J14z)) ?_
   refine Xg 27 5 29 27 ⟨b41, 0, none⟩ (.i ((gi x23 x25).Kind) :: U4 ((gi x23 x25).Set) [.slice A38 (((gi x23 x25).L).length) c39, .i ((gi x23 x25).Min), .i ((gi x23 x25).Max)]) (p18.pa 0 0) ?_
   refine Gb h fun y43 e44 h => ?_
   refine Gc (kc 115 [29] #[27]) 30 219 115 _ (ih_gram_tell (⟨(gi x23 x25).Kind, ((gi x23 x25).Set), (gi x23 x25).L, (gi x23 x25).Min, (gi x23 x25).Max⟩ : T26) y43 e44 _ _ _ p18 l36 (f40.ext (z17.t z18)) rfl) ?_
   rintro _ w19 ⟨S19, uqy, uqz, ur0, rfl, z19, p19, ur1, rfl⟩
   have p19 := p19.dp 0
   refine Oa 219 6 0 (.agg #[Sn, .bool false]) [Sn, .bool false] p19 Xa fun b45 w20 z20 p20 => ?_
   refine So 219 6 30 0 0 b45 0 (ag (vT218 y43 uqy y43.l.length ur0)) (vT218 y43 uqy y43.l.length ur0) p20 rfl Xe fun w21 z21 p21 => ?_
   refine Gn 5 [(31, (pt b45 1))] (Zr Qxh [1, 2, 3, 4, 5, 6, 7] J151) ?_
   refine Xc 4 31 32 4 ⟨b45, 1, none⟩ (.bool y43.known) (p21.c 0 1) ?_
   refine Gm 2 [([33, 34], .bool (!y43.known))] (Zr Qxh [4, 5, 6, 7] J151) ?_
   refine Gi h (fun h47 h => ?_) fun h47 h => ?_
   ·
    rw [h47]
    have p21 : Hp nz wz S19 w21 ((some b45, .row 219 [Sl uqy y43.l ur0, .bool true] 2 0) :: (some gx2, .row 219 (vT218 x2v (Gp uo9) x2v.l.length uob) 2 0) :: (uo9, .row 9 uoc (uob * kStr.size) 0) :: (some gx3, .row 219 (vT218 x3v uos x3v.l.length uou) 2 0) :: Lr) := by simp only [wT29, vT69, vT165, vT26, vT134, vT370, vT218, h47] at p21; exact p21
    refine Gn 1 [(35, (pt gx3 1))] (Zr Qxh [5, 6, 7] J151) ?_
    refine Xc 4 35 36 4 ⟨gx3, 1, none⟩ (.bool x3v.known) (p21.c 3 1) ?_
    refine Gm 3 [([37, 38], .bool (!x3v.known))] J151 ?_
    have p21 := (((p21.fr 0).fr 3).fr 3).fr 3
    exact Gj 61 [(2, (pt gx2 0)), (3, (pt gx3 0)), (6, (pt b45 0)), (23, Sl u16 x23 u18), (24, .i x24), (25, .i x25), (38, .bool (!x3v.known))] (uqx _ _ h _ _ (((((hx.t z17).t z18).t z19).t z20).t z21) _ _ _ _ _ _ _ _ _ _ _ _ _ _ _ _ p21 (uof.ext ((((z17.t z18).t z19).t z20).t z21)) rfl (up7.ext ((((z17.t z18).t z19).t z20).t z21)) rfl (ur1.ext (z20.t z21)) rfl (u1d.ext ((((z17.t z18).t z19).t z20).t z21)) rfl)
   ·
    have ur2 := bf h47
    rw [ur2]
    have p21 : Hp nz wz S19 w21 ((some b45, .row 219 [Sl uqy y43.l ur0, .bool false] 2 0) :: (some gx2, .row 219 (vT218 x2v (Gp uo9) x2v.l.length uob) 2 0) :: (uo9, .row 9 uoc (uob * kStr.size) 0) :: (some gx3, .row 219 (vT218 x3v uos x3v.l.length uou) 2 0) :: Lr) := by simp only [wT29, vT69, vT165, vT26, vT134, vT370, vT218, ur2] at p21; exact p21
    refine Gm 5 [([35, 36, 37], undef), ([38], .bool true)] J151 ?_
    have p21 := (((p21.fr 0).fr 3).fr 3).fr 3
    exact Gj 61 [(2, (pt gx2 0)), (3, (pt gx3 0)), (6, (pt b45 0)), (23, Sl u16 x23 u18), (24, .i x24), (25, .i x25), (38, .bool true)] (uqx _ _ h _ _ (((((hx.t z17).t z18).t z19).t z20).t z21) _ _ _ _ _ _ _ _ _ _ _ _ _ _ _ _ p21 (uof.ext ((((z17.t z18).t z19).t z20).t z21)) rfl (up7.ext ((((z17.t z18).t z19).t z20).t z21)) rfl (ur1.ext (z20.t z21)) rfl (u1d.ext ((((z17.t z18).t z19).t z20).t z21)) rfl)
  ·
   rw [df h29]
   refine Gn 4 [] (Yt 11010111110110 B115 [0, 1] J15z) ?_
   refine Xg 219 3 48 219 ⟨gx3, 0, none⟩ (vT218 x3v uos x3v.l.length uou) (p1.pa 2 0) ?_
   refine So 219 2 48 0 0 gx2 0 (ag (vT218 x3v uos x3v.l.length uou)) (vT218 x3v uos x3v.l.length uou) p1 rfl Xe fun w22 z22 p22 => ?_
   refine Gn 1 [] J15z ?_
   obtain rfl := sj h
   have p22 := (p22.dp 1).dp 1
   exact R1 Tryz.f115 (.cell 2 219) (ag (vT218 x3v uos x3v.l.length uou)) (Rn gx2 (p22.pa 0 0)) ⟨_, _, _, _, rfl, (hx.t z22), p22.drop, (up7.ext z22), rfl⟩
 ·
  intro uqf uqg ⟨x2v, x3v, x6v, x23, x24, x25, x38⟩ r h nz wz S0 w0 Lr S1 w1 hx gx2 uo9 uoa uob uoc gx3 uos uot uou gx6 uqc uqd uqe u16 u17 u18 p1 uof ugb up7 uo5 ur3 uiz u1d u1e junk
  try dsimp only at h
  subst ugb
  subst uo5
  subst uiz
  subst u1e
  refine Gi h (fun h52 h => ?_) fun h52 h => ?_
  ·
   rw [h52]
   refine Gn 3 [] (Yt 11010111110101001100110100 B115 [0, 1] J161) ?_
   refine Gb h fun y53 e54 h => ?_
   refine Gc (kc 184 [] #[]) 39 219 184 _ (W.z6b y53 e54  p1 ) ?_
   rintro _ w23 ⟨S23, ur4, ur5, ur6, rfl, z23, p23, ur7, rfl⟩
   have p23 := (p23.dp 2).dp 2
   refine So 219 2 39 0 0 gx2 0 (ag (vT218 y53 ur4 y53.l.length ur6)) (vT218 y53 ur4 y53.l.length ur6) p23 rfl Xe fun w24 z24 p24 => ?_
   refine Gn 1 [] J161 ?_
   obtain rfl := sj h
   have p24 := p24.dp 1
   exact R1 Tryz.f115 (.cell 2 219) (ag (vT218 y53 ur4 y53.l.length ur6)) (Rn gx2 (p24.pa 0 0)) ⟨_, _, _, _, rfl, ((hx.t z23).t z24), p24.drop, (ur7.ext z24), rfl⟩
  ·
   rw [bf h52]
   refine Gn 4 [(40, (pt gx3 0))] (Zr Qwn [1, 2, 3, 4, 5, 6, 7] J14z) ?_
   refine Xc 43 40 41 43 ⟨gx3, 0, none⟩ (Sl uos x3v.l uou) (p1.c 2 0) ?_
   refine Gn 1 [(42, (pt gx6 0))] (Zr Qwn [3, 4, 5, 6, 7] J14z) ?_
   refine Xc 43 42 43 43 ⟨gx6, 0, none⟩ (Sl uqc x6v.l uqe) (p1.c 3 0) ?_
   have f56 : Els (kSl kStr) S1 w1 ([Sl uos x3v.l uou, Sl uqc x6v.l uqe] : List Value) [x3v.l, x6v.l] := by exact (Els.cons (K := (kSl kStr)) (vs := [Sl uos x3v.l uou]) (x := x3v.l) ⟨_, _, rfl, up7⟩ (Els.cons (K := (kSl kStr)) (vs := [Sl uqc x6v.l uqe]) (x := x6v.l) ⟨_, _, rfl, ur3⟩ Els.nil))
   refine Om (.buildSlice 335 2 #[(0, 41), (1, 43)]) 44 335 (fun b => .slice (Gp (some b)) 2 2) 43 ([Sl uos x3v.l uou, Sl uqc x6v.l uqe] : List Value) (2 * (kSl kStr).size) p1 Xa fun b55 w25 z25 p25 => ?_
   obtain ⟨S26, z26, p26, f58⟩ := p25.freezeRd 0 rfl (f56.ext z25) (by decide)
   refine Gb h fun y59 e60 h => ?_
   refine Gc (kc 185 [44] #[335]) 45 43 185 _ (W.z6p [x3v.l, x6v.l] y59 e60 _ _ _ p26 f58 rfl) ?_
   rintro _ w27 ⟨S27, ur9, ura, urb, urc, rfl, z27, p27, urd, rfl⟩
   have p27 := (p27.dp 1).dp 4
   refine Gb h fun y62 e63 h => ?_
   refine Gc (kc 183 [45] #[43]) 46 219 183 _ (W.z6g y59 y62 e63 _ _ _ _ p27 urd rfl) ?_
   rintro _ w28 ⟨S28, ure, urf, urg, rfl, z28, p28, urh, rfl⟩
   refine So 219 3 46 0 2 gx3 0 (ag (vT218 y62 ure y62.l.length urg)) (vT218 y62 ure y62.l.length urg) p28 rfl Xe fun w29 z29 p29 => ?_
   refine Gm 7 [([47, 25], .i (wr .i64 (x25 + 1)))] J14x ?_
   exact Gj 61 [(2, (pt gx2 0)), (3, (pt gx3 0)), (23, Sl u16 x23 u18), (24, .i x24), (25, .i (wr .i64 (x25 + 1)))] (uqg _ _ h _ _ (((((hx.t z25).t z26).t z27).t z28).t z29) _ _ _ _ _ _ _ _ _ _ _ _ p29 (uof.ext ((((z25.t z26).t z27).t z28).t z29)) rfl (urh.ext z29) rfl (u1d.ext ((((z25.t z26).t z27).t z28).t z29)) rfl)
 ·
  intro uri urj x0 r h nz wz S0 w0 Lr Ax0 nx0 cx0 p0 fx0 lx0
  try dsimp only at h
  subst lx0
  refine Zf Tryz.f182 B182 22 ?_
  refine Gj 23 [(0, Sl Ax0 x0 cx0)] fun junk => ?_
  refine Gn 2 [] (Yt 10 B182 [0] (Ys 11 B182 [])) ?_
  refine Oa 219 2 0 (.agg #[Sn, .bool false]) [Sn, .bool false] p0 Xa fun b1 w2 z2 p2 => ?_
  refine Gn 3 [] (Yt 110 B182 [0, 1, 2, 3] (Ys 111 B182 [])) ?_
  have f4 : Els kStr S0 w2 ([.string bE] : List Value) [bE] := by exact (Els.cons (K := kStr) (vs := [.string bE]) (x := bE) rfl Els.nil)
  refine Om (.buildSlice 43 1 #[(0, (.const (.string ⟨#[]⟩)))]) 6 43 (fun b => .slice (Gp (some b)) 1 1) 9 ([.string bE] : List Value) (1 * kStr.size) p2 Xa fun b3 w3 z3 p3 => ?_
  refine Gb h fun y6 e7 h => ?_
  refine Gc (kc 183 [6] #[43]) 7 219 183 _ (W.z6g [bE] y6 e7 (some b3) _ _ _ p3 (f4.ext z3) rfl) ?_
  rintro _ w4 ⟨S4, uqh, uda, udb, rfl, z4, p4, udd, rfl⟩
  refine Oa 219 3 0 (.agg #[Sn, .bool false]) [Sn, .bool false] p4 Xa fun b8 w5 z5 p5 => ?_
  refine So 219 3 7 0 0 b8 0 (ag (vT218 y6 uqh y6.l.length udb)) (vT218 y6 uqh y6.l.length udb) p5 rfl Xe fun w6 z6 p6 => ?_
  refine Gn 10 [(8, Sl Ax0 x0 cx0), (9, .i (x0.length : Int)), (10, .i 0)] J14r ?_
  have p6 : Hp nz wz S4 w6 ((none, .row 9 [] (0 * kStr.size) 0) :: (some b8, .row 219 (vT218 y6 uqh y6.l.length udb) 2 0) :: (some b1, .row 219 [Sn, .bool false] 2 0) :: Lr) := p6.nilRow' 9
  have p6 := ((p6.fr 1).fr 1).fr 2
  exact Gj 23 [(2, (pt b1 0)), (3, (pt b8 0)), (8, Sl Ax0 x0 cx0), (9, .i (x0.length : Int)), (10, .i 0)] (urj _ _ h _ _ ((((z2.t z3).t z4).t z5).t z6) _ none 0 0 [] _ _ _ _ _ _ _ p6 (Els.nil (K := kStr)) rfl (udd.ext (z5.t z6)) rfl (fx0.ext ((((z2.t z3).t z4).t z5).t z6)) rfl)
 ·
  intro rec_gram_tell uri ih_gram_tell urj ⟨x2v, x3v, x8, x9, x10⟩ r h nz wz S0 w0 Lr S1 w1 hx gx2 uo9 uoa uob uoc gx3 uos uot uou Ax8 nx8 cx8 p1 uof ugb up7 uo5 fx8 lx8 junk
  try dsimp only at h
  subst ugb
  subst uo5
  subst lx8
  refine Gn 5 [(11, .bool (decide (x10 < x9)))] (Ys 111010010 B182 (Ys 111010011 B182 J14q)) ?_
  refine Gi h (fun h14 h => ?_) fun h14 h => ?_
  ·
   rw [dt h14]
   refine Gn 6 [] (Yt 111010011000 B182 [0, 1, 2, 3] (Ys 111010011001 B182 J16c)) ?_
   refine Gg h fun g15 h => ?_
   refine Gg h fun g16 h => ?_
   refine Oi 25 8 10 12 0 27 .i64 x10 (gi x8 x10) rfl rfl fx8 Xa g15 g16 fun a17 _ f18 q19 => ?_
   have q20 := q19
   obtain ⟨_, _, rfl, rfl, ⟨_, _, rfl, ⟨l21, f22⟩, ⟨_, _, rfl, ⟨A23, c24, rfl, f25⟩, ⟨_, _, rfl, rfl, rfl⟩⟩⟩⟩ := kT26_open q20
   obtain rfl := els_lit4' f22 l21
   refine Xg 27 12 13 27 a17 ([.i ((gi x8 x10).Kind)] ++ ((U4 ((gi x8 x10).Set) []) ++ ([.slice A23 (((gi x8 x10).L).length) c24] ++ ([.i ((gi x8 x10).Min)] ++ [.i ((gi x8 x10).Max)])))) (f18.cell) ?_
   refine Oa 27 5 0 (.agg #[.i 0, .u 0, .u 0, .u 0, .u 0, Sn, .i 0, .i 0]) [.i 0, .u 0, .u 0, .u 0, .u 0, Sn, .i 0, .i 0] p1 Xa fun b26 w7 z7 p7 => ?_
   refine So 27 5 13 0 0 b26 0 (ag (.i ((gi x8 x10).Kind) :: U4 ((gi x8 x10).Set) [.slice A23 (((gi x8 x10).L).length) c24, .i ((gi x8 x10).Min), .i ((gi x8 x10).Max)])) (.i ((gi x8 x10).Kind) :: U4 ((gi x8 x10).Set) [.slice A23 (((gi x8 x10).L).length) c24, .i ((gi x8 x10).Min), .i ((gi x8 x10).Max)]) p7 rfl Xe fun w8 z8 p8 => ?_
   refine Gn 2 [] (Ys 1110100110010 B182 (Ys 1110100110011 B182 J16c)) ?_
   have z9 : Ext S1 w8 S1 (w8).drew := Xk
   have p9 := p8.draw
   refine Gd [3, 4] (Fc S1 (w8).drew [(⟨gx3, 0, none⟩, Sl uos x3v.l uou), (⟨gx3, 1, none⟩, .bool x3v.known), (⟨b26, 0, none⟩, .i ((gi x8 x10).Kind)), (⟨b26, 1, none⟩, .u (gi ((gi x8 x10).Set) 0)), (⟨b26, 2, none⟩, .u (gi ((gi x8 x10).Set) 1)), (⟨b26, 3, none⟩, .u (gi ((gi x8 x10).Set) 2)), (⟨b26, 4, none⟩, .u (gi ((gi x8 x10).Set) 3)), (⟨b26, 5, none⟩, .slice A23 (((gi x8 x10).L).length) c24), (⟨b26, 6, none⟩, .i ((gi x8 x10).Min)), (⟨b26, 7, none⟩, .i ((gi x8 x10).Max))]) 5 5 ?_
   generalize (w8).drew = w9 at z9 p9 ⊢
   refine Xw (i := 0) 219 3 14 219 ⟨gx3, 0, none⟩ (vT218 x3v uos x3v.l.length uou) (by kernel_rfl) (by kernel_rfl) (p9.k [(3, 0, 2), (0, 0, 8)]) (by kernel_rfl) (by kernel_rfl) (by kernel_rfl) (fun _ h j v hj => by match j, hj with | 0, rfl => exact h.2.at_ 0 rfl | 1, rfl => exact h.2.at_ 1 rfl | (j + 2), hj => simp at hj) ?_
   refine Xw (i := 1) 27 5 15 27 ⟨b26, 0, none⟩ (.i ((gi x8 x10).Kind) :: U4 ((gi x8 x10).Set) [.slice A23 (((gi x8 x10).L).length) c24, .i ((gi x8 x10).Min), .i ((gi x8 x10).Max)]) (by kernel_rfl) (by kernel_rfl) (p9.k [(3, 0, 2), (0, 0, 8)]) (by kernel_rfl) (by kernel_rfl) (by kernel_rfl) (fun _ h j v hj => by match j, hj with | 0, rfl => exact h.2.at_ 2 rfl | 1, rfl => exact h.2.at_ 3 rfl | 2, rfl => exact h.2.at_ 4 rfl | 3, rfl => exact h.2.at_ 5 rfl | 4, rfl => exact h.2.at_ 6 rfl | 5, rfl => exact h.2.at_ 7 rfl | 6, rfl => exact h.2.at_ 8 rfl | 7, rfl => exact h.2.at_ 9 rfl | (j + 8), hj => simp at hj) ?_
   refine Gb h fun y28 e29 h => ?_
   refine Oc (kc 115 [15] #[27]) 16 219 115 #[(ag (.i ((gi x8 x10).Kind) :: U4 ((gi x8 x10).Set) [.slice A23 (((gi x8 x10).L).length) c24, .i ((gi x8 x10).Min), .i ((gi x8 x10).Max)]))] (Ac 2) (ih_gram_tell (⟨(gi x8 x10).Kind, ((gi x8 x10).Set), (gi x8 x10).L, (gi x8 x10).Min, (gi x8 x10).Max⟩ : T26) y28 e29 _ _ _ p9 l21 (f25.ext ((z7.t z8).t z9)) rfl) ?_
   rintro _ w10 ⟨S10, urk, url, urm, rfl, z10, p10, urn, rfl⟩
   refine Xo z10 ⟨(p10.c 3 0), (p10.c 3 1), (p10.c 0 0), (p10.c 0 1), (p10.c 0 2), (p10.c 0 3), (p10.c 0 4), (p10.c 0 5), (p10.c 0 6), (p10.c 0 7), trivial⟩ ?_
   refine Gb h fun y30 e31 h => ?_
   refine Oc (kc 231 [14, 16] #[219, 219]) 17 219 231 #[(ag (vT218 x3v uos x3v.l.length uou)), (ag (vT218 y28 urk y28.l.length urm))] (Ac 3) (W.z6h x3v y28 y30 e31 _ _ _ _ _ _ p10 (up7.ext (((z7.t z8).t z9).t z10)) rfl urn rfl) ?_
   rintro _ w11 ⟨S11, uro, urp, urq, rfl, z11, p11, urr, rfl⟩
   refine Xi [4] (Fc S11 w11 []) (by decide) ?_
   refine So 219 3 17 0 3 gx3 0 (ag (vT218 y30 uro y30.l.length urq)) (vT218 y30 uro y30.l.length urq) p11 rfl (As 4) fun w12 z12 p12 => ?_
   refine Xi [] (Fc S11 w12 []) (by decide) ?_
   refine Ad ?_
   have p12 := p12.dp 0
   refine Gn 3 [(18, (pt gx3 1))] (Yt 11101001100110 B182 [1, 2] J16h) ?_
   refine Xc 4 18 19 4 ⟨gx3, 1, none⟩ (.bool y30.known) (p12.c 2 1) ?_
   refine Gn 2 [(20, .bool (!y30.known))] J16h ?_
   refine Gi h (fun h32 h => ?_) fun h32 h => ?_
   ·
    rw [h32]
    have p12 : Hp nz wz S11 w12 ((some gx2, .row 219 (vT218 x2v (Gp uo9) x2v.l.length uob) 2 0) :: (uo9, .row 9 uoc (uob * kStr.size) 0) :: (some gx3, .row 219 [Sl uro y30.l urq, .bool true] 2 0) :: Lr) := by simp only [wT29, vT69, vT165, vT26, vT134, vT370, vT218, h32] at p12; exact p12
    refine Gm 8 [([21, 10], .i (wr .i64 (x10 + 1)))] J14r ?_
    exact Gj 23 [(2, (pt gx2 0)), (3, (pt gx3 0)), (8, Sl Ax8 x8 cx8), (9, .i x9), (10, .i (wr .i64 (x10 + 1)))] (urj _ _ h _ _ ((((((hx.t z7).t z8).t z9).t z10).t z11).t z12) _ _ _ _ _ _ _ _ _ _ _ _ p12 (uof.ext (((((z7.t z8).t z9).t z10).t z11).t z12)) rfl (urr.ext z12) rfl (fx8.ext (((((z7.t z8).t z9).t z10).t z11).t z12)) rfl)
   ·
    have ud1 := bf h32
    rw [ud1]
    have p12 : Hp nz wz S11 w12 ((some gx2, .row 219 (vT218 x2v (Gp uo9) x2v.l.length uob) 2 0) :: (uo9, .row 9 uoc (uob * kStr.size) 0) :: (some gx3, .row 219 [Sl uro y30.l urq, .bool false] 2 0) :: Lr) := by simp only [wT29, vT69, vT165, vT26, vT134, vT370, vT218, ud1] at p12; exact p12
    refine Gn 4 [] J16k ?_
    refine Xg 219 3 22 219 ⟨gx3, 0, none⟩ [Sl uro y30.l urq, .bool false] (p12.pa 2 0) ?_
    refine So 219 2 22 0 0 gx2 0 (.agg #[Sl uro y30.l urq, .bool false]) [Sl uro y30.l urq, .bool false] p12 rfl Xe fun w13 z13 p13 => ?_
    refine Gn 1 [] J16j ?_
    obtain rfl := sj h
    have p13 := (p13.dp 1).dp 1
    exact R1 Tryz.f182 (.cell 2 219) (.agg #[Sl uro y30.l urq, .bool false]) (Rn gx2 (p13.pa 0 0)) ⟨_, _, _, _, rfl, (((((((hx.t z7).t z8).t z9).t z10).t z11).t z12).t z13), p13.drop, (urr.ext (z12.t z13)), rfl⟩
  ·
   rw [df h14]
   refine Gn 4 [] J16k ?_
   refine Xg 219 3 22 219 ⟨gx3, 0, none⟩ (vT218 x3v uos x3v.l.length uou) (p1.pa 2 0) ?_
   refine So 219 2 22 0 0 gx2 0 (ag (vT218 x3v uos x3v.l.length uou)) (vT218 x3v uos x3v.l.length uou) p1 rfl Xe fun w14 z14 p14 => ?_
   refine Gn 1 [] J16j ?_
   obtain rfl := sj h
   have p14 := (p14.dp 1).dp 1
   exact R1 Tryz.f182 (.cell 2 219) (ag (vT218 x3v uos x3v.l.length uou)) (Rn gx2 (p14.pa 0 0)) ⟨_, _, _, _, rfl, (hx.t z14), p14.drop, (up7.ext z14), rfl⟩
theorem W.z71 : ∀ a r, M.a9 a = some r → LF.z71 a r := (W.z76).1
theorem W.z74 : ∀ a r, M.a32 a = some r → LL.z74 a r := (W.z76).2.1
theorem W.z75 : ∀ a r, M.a33 a = some r → LL.z75 a r := (W.z76).2.2.1
theorem W.z72 : ∀ a r, M.a30 a = some r → LF.z72 a r := (W.z76).2.2.2.1
theorem W.z73 : ∀ a r, M.a31 a = some r → LL.z73 a r := (W.z76).2.2.2.2
def J16l := Ys 111 B188 []
def Post.z77 (r : Int × Int) (v : Value) (w' : World) : Prop :=
 ∃ S', v = .tuple #[.i r.1, .i r.2] ∧ Ext S0 w0 S' w' ∧ Hp nz wz S' w' (Lr)
theorem W.z77 (x0 : Int) (r : Int × Int) (h : M.a6q x0 = some r) {nz wz S0 w0 Lr} (p0 : Hp nz wz S0 w0 (Lr)) :
  Calls Tg 188 #[.i x0] w0 (Rets (Post.z77 nz wz S0 w0 Lr r)) := by
 refine Zf Tryz.f188 B188 5 ?_
 refine Gj 6 [(0, .i x0)] fun junk => ?_
 delta M.a6q at h
 refine Gm 11 [([2, 3], .i 0), ([4], .i x0), ([5], .bool (decide (x0 = 4)))] (Ys 1101 B188 J16l) ?_
 refine Gi h (fun h1 h => ?_) fun h1 h => ?_
 ·
  rw [dt h1]
  refine Gn 6 [(2, .i 1), (3, .i 0)] (Ys 110101 B188 J16l) ?_
  obtain rfl := sj h
  exact Xd Tryz.f188 (.tuple #[.i 1, .i 0]) ⟨_, rfl, (Xj S0 w0), p0⟩
 ·
  rw [df h1]
  refine Gn 7 [(2, .i 0), (3, .i 1)] (Ys 1111 B188 []) ?_
  obtain rfl := sj h
  exact Xd Tryz.f188 (.tuple #[.i 0, .i 1]) ⟨_, rfl, (Xj S0 w0), p0⟩
end
end Go.Gx
