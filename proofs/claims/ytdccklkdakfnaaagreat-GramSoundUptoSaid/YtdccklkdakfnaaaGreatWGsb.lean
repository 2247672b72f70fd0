import Derived.Test.YtdccklkdakfnaaaGreatWGsa
set_option linter.unusedVariables false
set_option linter.unusedSimpArgs false
set_option maxRecDepth 100000
set_option maxHeartbeats 4000000
namespace Go.Gx
open Go.RowKit Go.Proofs
variable (nz : Nat) (wz : World) (S0 : Fz) (w0 : World) (Lr : List Ent)
noncomputable section
def Q87 := Yq 111000 B131
def J9t := Zl Q87 (Zb 0 (Ys 1111 B131 []))
def J9u := Zc Q87 J9t
def J9w := Ys 11100001 B131 (Ys 1110001 B131 J9t)
def J9y := Zb 0 (Ys 1111 B247 [])
def J9z := Ys 111001 B247 J9y
def Ja0 := Ys 11100111 B247 J9y
def Ja1 := Ys 111 B276 []
def Q8f := Yq 111000 B68
def Ja4 := Zl Q8f (Zb 0 (Ys 1111 B68 []))
def Ja5 := Zc Q8f Ja4
def Jab := Ys 11100001 B68 (Ys 1110001 B68 Ja4)
def Jaf := Ys 11111 B68 []
def Jam := Ys 11111 B131 []
def Jas := Ys 11111 B198 []
def Jav := Zb 0 Jas
def Jaw := Ys 11110101 B198 Jav
def Jay := Ys 111111 B198 []
def Q96 := Yq 111110 B198
def Jaz := Zr Q96 [0, 1, 2, 3, 4, 5] Jay
def Jb0 := Zr Q96 [5] Jay
def Jb1 := Ys 1111010111 B198 Jav
def Jb3 := Ys 111101011111 B198 Jav
def Jb5 := Ys 11110101111111 B198 Jav
def Jb8 := Ys 1111010111111111 B198 Jav
def Q9k := Yq 111000 B247
def Jbh := Ys 11100101 B247 J9y
def Q9n := Yq 11100110 B247
def Jbl := Ys 1110011101 B247 J9y
def Jbn := Ys 1110011111 B247 J9y
def Jbp := Ys 111001111101 B247 J9y
def Q9t := Yq 111001111100 B247
def Jbs := Ys 111001111111 B247 J9y
def Jbu := Ys 11100111111101 B247 J9y
def Jbw := Ys 11100111111111 B247 J9y
def Jby := Ys 1110011111111101 B247 J9y
def Jc0 := Ys 1110011111111111 B247 J9y
def Jc2 := Ys 111001111111111101 B247 J9y
def Qa5 := Yq 111001111111111100 B247
def Jc5 := Ys 11111 B247 []
def Qa7 := Yq 11110 B247
def Jc8 := Ys 111111 B247 []
def Qa9 := Yq 111110 B247
def Jcd := Ys 1101 B276 Ja1
def Jcg := Ys 1111 B276 []
def Qag := Yq 1110 B276
def Jcl := Ys 111111 B276 []
def Qak := Yq 111110 B276
def Jcq := Ys 11111111 B276 []
def Post.z16 (gx0 : Nat) (r : T26 × T134) (v : Value) (w' : World) : Prop :=
 ∃ S' u4 u5 u6 u0, v = (ag (vT26 r.1 u4 u5 u6)) ∧ Ext S0 w0 S' w' ∧ Hp nz wz S' w' ((some gx0, .row 135 (vT134 r.2 u0) 4 0) :: Lr) ∧ r.1.Set.length = 4 ∧ Rd kT26 S' w' u4 u6 r.1.L ∧ r.1.L.length = u5 ∧ PtO kT138 S' w' u0 r.2.bad
def Post.z17 (gx0 : Nat) (r : T26 × T134) (v : Value) (w' : World) : Prop :=
 ∃ S' u4 u5 u6 u0, v = (ag (vT26 r.1 u4 u5 u6)) ∧ Ext S0 w0 S' w' ∧ Hp nz wz S' w' ((some gx0, .row 135 (vT134 r.2 u0) 4 0) :: Lr) ∧ r.1.Set.length = 4 ∧ Rd kT26 S' w' u4 u6 r.1.L ∧ r.1.L.length = u5 ∧ PtO kT138 S' w' u0 r.2.bad
def Post.z18 (gx0 : Nat) (r : T26 × T134) (v : Value) (w' : World) : Prop :=
 ∃ S' u4 u5 u6 u0, v = (ag (vT26 r.1 u4 u5 u6)) ∧ Ext S0 w0 S' w' ∧ Hp nz wz S' w' ((some gx0, .row 135 (vT134 r.2 u0) 4 0) :: Lr) ∧ r.1.Set.length = 4 ∧ Rd kT26 S' w' u4 u6 r.1.L ∧ r.1.L.length = u5 ∧ PtO kT138 S' w' u0 r.2.bad
def Post.z19 (gx0 : Nat) (r : T26 × T134) (v : Value) (w' : World) : Prop :=
 ∃ S' u4 u5 u6 u0, v = (ag (vT26 r.1 u4 u5 u6)) ∧ Ext S0 w0 S' w' ∧ Hp nz wz S' w' ((some gx0, .row 135 (vT134 r.2 u0) 4 0) :: Lr) ∧ r.1.Set.length = 4 ∧ Rd kT26 S' w' u4 u6 r.1.L ∧ r.1.L.length = u5 ∧ PtO kT138 S' w' u0 r.2.bad
def Post.z1a (gx0 : Nat) (r : T26 × T134) (v : Value) (w' : World) : Prop :=
 ∃ S' u4 u5 u6 u0, v = (ag (vT26 r.1 u4 u5 u6)) ∧ Ext S0 w0 S' w' ∧ Hp nz wz S' w' ((some gx0, .row 135 (vT134 r.2 u0) 4 0) :: Lr) ∧ r.1.Set.length = 4 ∧ Rd kT26 S' w' u4 u6 r.1.L ∧ r.1.L.length = u5 ∧ PtO kT138 S' w' u0 r.2.bad
def LF.z16 : T134 → (T26 × T134) → Prop := fun x0v r => ∀ {nz wz S0 w0 Lr} gx0 u2 (_ : Hp nz wz S0 w0 ((some gx0, .row 135 (vT134 x0v u2) 4 0) :: Lr)) (_ : PtO kT138 S0 w0 u2 x0v.bad),
 Calls Tg 68 #[(pt gx0 0)] w0 (Rets (Post.z16 nz wz S0 w0 Lr gx0 r))
def LF.z17 : T134 → (T26 × T134) → Prop := fun x0v r => ∀ {nz wz S0 w0 Lr} gx0 u2 (_ : Hp nz wz S0 w0 ((some gx0, .row 135 (vT134 x0v u2) 4 0) :: Lr)) (_ : PtO kT138 S0 w0 u2 x0v.bad),
 Calls Tg 131 #[(pt gx0 0)] w0 (Rets (Post.z17 nz wz S0 w0 Lr gx0 r))
def L.z1b (gx0 : Nat) : T26 × (List T26) × T134 → (T26 × T134) → Prop := fun ⟨x2v, x3, e0v⟩ r => ∀ S1 w1, Ext S0 w0 S1 w1 → ∀ gx2 u6o u6p u6q u6r Gx3 nx3 cx3 uo u0 (_ : Hp nz wz S1 w1 ((some gx2, .row 27 (vT26 x2v (Gp u6o) u6p u6q) 8 0) :: (u6o, .row 27 u6r (u6q * kT26.size) 0) :: (Gx3, .row 27 uo (cx3 * kT26.size) 0) :: (some gx0, .row 135 (vT134 e0v u0) 4 0) :: Lr)) (_ : x2v.Set.length = 4) (_ : Els kT26 S1 w1 u6r x2v.L) (_ : x2v.L.length = u6p) (_ : Els kT26 S1 w1 uo x3) (_ : x3.length = nx3) (_ : PtO kT138 S1 w1 u0 e0v.bad) (junk : Nat → Value),
 Goes Tg (base 131) J9u ⟨lfr 38 [(0, (pt gx0 0)), (2, (pt gx2 0)), (3, .slice (Gp Gx3) nx3 cx3)] junk, []⟩ w1 (Done Tg 131 (Rets (Post.z17 nz wz S0 w0 Lr gx0 r)))
def LL.z1b : T26 × (List T26) × T134 → (T26 × T134) → Prop := fun a r => ∀ {nz wz S0 w0 Lr} (gx0 : Nat), L.z1b nz wz S0 w0 Lr gx0 a r
def L.z1c (gx0 : Nat) : T26 × (List T26) × Bool × T134 → (T26 × T134) → Prop := fun ⟨x2v, x3, x30, e0v⟩ r => ∀ S1 w1, Ext S0 w0 S1 w1 → ∀ gx2 u6o u6p u6q u6r Gx3 nx3 cx3 uo u0 (_ : Hp nz wz S1 w1 ((some gx2, .row 27 (vT26 x2v (Gp u6o) u6p u6q) 8 0) :: (u6o, .row 27 u6r (u6q * kT26.size) 0) :: (Gx3, .row 27 uo (cx3 * kT26.size) 0) :: (some gx0, .row 135 (vT134 e0v u0) 4 0) :: Lr)) (_ : x2v.Set.length = 4) (_ : Els kT26 S1 w1 u6r x2v.L) (_ : x2v.L.length = u6p) (_ : Els kT26 S1 w1 uo x3) (_ : x3.length = nx3) (_ : PtO kT138 S1 w1 u0 e0v.bad) (junk : Nat → Value),
 Goes Tg (base 131) J9w ⟨lfr 38 [(0, (pt gx0 0)), (2, (pt gx2 0)), (3, .slice (Gp Gx3) nx3 cx3), (30, .bool x30)] junk, []⟩ w1 (Done Tg 131 (Rets (Post.z17 nz wz S0 w0 Lr gx0 r)))
def LL.z1c : T26 × (List T26) × Bool × T134 → (T26 × T134) → Prop := fun a r => ∀ {nz wz S0 w0 Lr} (gx0 : Nat), L.z1c nz wz S0 w0 Lr gx0 a r
def LF.z18 : T134 → (T26 × T134) → Prop := fun x0v r => ∀ {nz wz S0 w0 Lr} gx0 u2 (_ : Hp nz wz S0 w0 ((some gx0, .row 135 (vT134 x0v u2) 4 0) :: Lr)) (_ : PtO kT138 S0 w0 u2 x0v.bad),
 Calls Tg 198 #[(pt gx0 0)] w0 (Rets (Post.z18 nz wz S0 w0 Lr gx0 r))
def LF.z19 : T134 → (T26 × T134) → Prop := fun x0v r => ∀ {nz wz S0 w0 Lr} gx0 u2 (_ : Hp nz wz S0 w0 ((some gx0, .row 135 (vT134 x0v u2) 4 0) :: Lr)) (_ : PtO kT138 S0 w0 u2 x0v.bad),
 Calls Tg 247 #[(pt gx0 0)] w0 (Rets (Post.z19 nz wz S0 w0 Lr gx0 r))
def L.z1d (gx0 : Nat) : T26 × Int × Bool × T134 → (T26 × T134) → Prop := fun ⟨x2v, x3, x6, e0v⟩ r => ∀ S1 w1, Ext S0 w0 S1 w1 → ∀ gx2 u6o u6p u6q u6r u0 (_ : Hp nz wz S1 w1 ((some gx2, .row 27 (vT26 x2v (Gp u6o) u6p u6q) 8 0) :: (u6o, .row 27 u6r (u6q * kT26.size) 0) :: (some gx0, .row 135 (vT134 e0v u0) 4 0) :: Lr)) (_ : x2v.Set.length = 4) (_ : Els kT26 S1 w1 u6r x2v.L) (_ : x2v.L.length = u6p) (_ : PtO kT138 S1 w1 u0 e0v.bad) (junk : Nat → Value),
 Goes Tg (base 247) J9z ⟨lfr 73 [(0, (pt gx0 0)), (2, (pt gx2 0)), (3, .int .u8 x3), (6, .bool x6)] junk, []⟩ w1 (Done Tg 247 (Rets (Post.z19 nz wz S0 w0 Lr gx0 r)))
def LL.z1d : T26 × Int × Bool × T134 → (T26 × T134) → Prop := fun a r => ∀ {nz wz S0 w0 Lr} (gx0 : Nat), L.z1d nz wz S0 w0 Lr gx0 a r
def L.z1e (gx0 : Nat) : T26 × Int × Bool × T134 → (T26 × T134) → Prop := fun ⟨x2v, x3, x24, e0v⟩ r => ∀ S1 w1, Ext S0 w0 S1 w1 → ∀ gx2 u6o u6p u6q u6r u0 (_ : Hp nz wz S1 w1 ((some gx2, .row 27 (vT26 x2v (Gp u6o) u6p u6q) 8 0) :: (u6o, .row 27 u6r (u6q * kT26.size) 0) :: (some gx0, .row 135 (vT134 e0v u0) 4 0) :: Lr)) (_ : x2v.Set.length = 4) (_ : Els kT26 S1 w1 u6r x2v.L) (_ : x2v.L.length = u6p) (_ : PtO kT138 S1 w1 u0 e0v.bad) (junk : Nat → Value),
 Goes Tg (base 247) Ja0 ⟨lfr 73 [(0, (pt gx0 0)), (2, (pt gx2 0)), (3, .int .u8 x3), (24, .bool x24)] junk, []⟩ w1 (Done Tg 247 (Rets (Post.z19 nz wz S0 w0 Lr gx0 r)))
def LL.z1e : T26 × Int × Bool × T134 → (T26 × T134) → Prop := fun a r => ∀ {nz wz S0 w0 Lr} (gx0 : Nat), L.z1e nz wz S0 w0 Lr gx0 a r
def LF.z1a : T134 → (T26 × T134) → Prop := fun x0v r => ∀ {nz wz S0 w0 Lr} gx0 u2 (_ : Hp nz wz S0 w0 ((some gx0, .row 135 (vT134 x0v u2) 4 0) :: Lr)) (_ : PtO kT138 S0 w0 u2 x0v.bad),
 Calls Tg 276 #[(pt gx0 0)] w0 (Rets (Post.z1a nz wz S0 w0 Lr gx0 r))
def L.z1f (gx0 : Nat) : T26 × T134 → (T26 × T134) → Prop := fun ⟨x2v, e0v⟩ r => ∀ S1 w1, Ext S0 w0 S1 w1 → ∀ gx2 u6o u6p u6q u6r u0 (_ : Hp nz wz S1 w1 ((some gx2, .row 27 (vT26 x2v (Gp u6o) u6p u6q) 8 0) :: (u6o, .row 27 u6r (u6q * kT26.size) 0) :: (some gx0, .row 135 (vT134 e0v u0) 4 0) :: Lr)) (_ : x2v.Set.length = 4) (_ : Els kT26 S1 w1 u6r x2v.L) (_ : x2v.L.length = u6p) (_ : PtO kT138 S1 w1 u0 e0v.bad) (junk : Nat → Value),
 Goes Tg (base 276) Ja1 ⟨lfr 27 [(0, (pt gx0 0)), (2, (pt gx2 0))] junk, []⟩ w1 (Done Tg 276 (Rets (Post.z1a nz wz S0 w0 Lr gx0 r)))
def LL.z1f : T26 × T134 → (T26 × T134) → Prop := fun a r => ∀ {nz wz S0 w0 Lr} (gx0 : Nat), L.z1f nz wz S0 w0 Lr gx0 a r
def L.z1g (gx0 : Nat) : T26 × (List T26) × T134 → (T26 × T134) → Prop := fun ⟨x2v, x3, e0v⟩ r => ∀ S1 w1, Ext S0 w0 S1 w1 → ∀ gx2 u6o u6p u6q u6r Gx3 nx3 cx3 uo u0 (_ : Hp nz wz S1 w1 ((some gx2, .row 27 (vT26 x2v (Gp u6o) u6p u6q) 8 0) :: (u6o, .row 27 u6r (u6q * kT26.size) 0) :: (Gx3, .row 27 uo (cx3 * kT26.size) 0) :: (some gx0, .row 135 (vT134 e0v u0) 4 0) :: Lr)) (_ : x2v.Set.length = 4) (_ : Els kT26 S1 w1 u6r x2v.L) (_ : x2v.L.length = u6p) (_ : Els kT26 S1 w1 uo x3) (_ : x3.length = nx3) (_ : PtO kT138 S1 w1 u0 e0v.bad) (junk : Nat → Value),
 Goes Tg (base 68) Ja5 ⟨lfr 16 [(0, (pt gx0 0)), (2, (pt gx2 0)), (3, .slice (Gp Gx3) nx3 cx3)] junk, []⟩ w1 (Done Tg 68 (Rets (Post.z16 nz wz S0 w0 Lr gx0 r)))
def LL.z1g : T26 × (List T26) × T134 → (T26 × T134) → Prop := fun a r => ∀ {nz wz S0 w0 Lr} (gx0 : Nat), L.z1g nz wz S0 w0 Lr gx0 a r
theorem W.z1h : (∀ a r, M.a25 a = some r → LF.z16 a r) ∧ (∀ a r, M.a30 a = some r → LL.z1g a r) ∧ (∀ a r, M.a2w a = some r → LF.z17 a r) ∧ (∀ a r, M.a2x a = some r → LL.z1b a r) ∧ (∀ a r, M.a1j a = some r → LL.z1c a r) ∧ (∀ a r, M.a3s a = some r → LF.z18 a r) ∧ (∀ a r, M.a3t a = some r → LF.z19 a r) ∧ (∀ a r, M.a26 a = some r → LL.z1d a r) ∧ (∀ a r, M.a2y a = some r → LL.z1e a r) ∧ (∀ a r, M.a3u a = some r → LF.z1a a r) ∧ (∀ a r, M.a2z a = some r → LL.z1f a r) := by
 refine M.a25.mutual_partial_correctness LF.z16 LL.z1g LF.z17 LL.z1b LL.z1c LF.z18 LF.z19 LL.z1d LL.z1e LF.z1a LL.z1f ?_ ?_ ?_ ?_ ?_ ?_ ?_ ?_ ?_ ?_ ?_
 ·
  intro u6s rec_syntax_parser_sequence u6t ih_syntax_parser_sequence x0v r h nz wz S0 w0 Lr gx0 u2 p0 u3
  try dsimp only at h
  refine Zf Tryz.f68 B68 15 ?_
  refine Gj 16 [(0, (pt gx0 0))] fun junk => ?_
  refine Gn 2 [] (Yt 10 B68 [0] (Ys 11 B68 [])) ?_
  refine Oa 27 2 0 (.agg #[.i 0, .u 0, .u 0, .u 0, .u 0, .slice none 0 0, .i 0, .i 0]) [.i 0, .u 0, .u 0, .u 0, .u 0, .slice none 0 0, .i 0, .i 0] p0 Xa fun b2 w2 z2 p2 => ?_
  refine Gn 4 [(4, (pt gx0 0))] (Yt 110 B68 [1, 2, 3] (Ys 111 B68 [])) ?_
  have p2 := p2.fr 1
  refine Gb h fun y4 e5 h => ?_
  refine Gc (kc 131 [4] #[132]) 5 27 131 _ (ih_syntax_parser_sequence x0v y4 e5 _ _ p2 (u3.ext z2)) ?_
  rintro _ w3 ⟨S3, u5v, u5w, u5x, u2o, rfl, z3, p3, u5y, u5z, rfl, u2p⟩
  have f7 : Els kT26 S3 w3 ((vT26 y4.1 u5v y4.1.L.length u5x) : List Value) [y4.1] := by exact (Els.cons (K := kT26) (vs := (vT26 y4.1 u5v y4.1.L.length u5x)) (x := y4.1) (kT26_close ⟨[.i y4.1.Kind], (U4 y4.1.Set [.slice u5v y4.1.L.length u5x, .i y4.1.Min, .i y4.1.Max]), rfl, rfl, ⟨(U4 y4.1.Set []), [.slice u5v y4.1.L.length u5x, .i y4.1.Min, .i y4.1.Max], rfl, ⟨u5y, els_mk4 u5y⟩, ⟨[.slice u5v y4.1.L.length u5x], [.i y4.1.Min, .i y4.1.Max], rfl, ⟨_, _, rfl, u5z⟩, ⟨[.i y4.1.Min], [.i y4.1.Max], rfl, rfl, rfl⟩⟩⟩⟩) Els.nil)
  refine Om (.buildSlice 25 1 #[(0, 5)]) 6 25 (fun b => .slice (Gp (some b)) 1 1) 27 ((vT26 y4.1 u5v y4.1.L.length u5x) : List Value) (1 * kT26.size) p3 Xa fun b6 w4 z4 p4 => ?_
  refine Gn 5 [(3, .slice (Gp (some b6)) 1 1)] Ja5 ?_
  have p4 : Hp nz wz S3 w4 ((none, .row 27 [] (0 * kT26.size) 0) :: ((some b6), .row 27 ((vT26 y4.1 u5v y4.1.L.length u5x) : List Value) (1 * kT26.size) 0) :: (some gx0, .row 135 (vT134 y4.2 u2o) 4 0) :: (some b2, .row 27 [.i 0, .u 0, .u 0, .u 0, .u 0, .slice none 0 0, .i 0, .i 0] 8 0) :: Lr) := p4.nilRow' 27
  have p4 := (((p4.fr 2).fr 2).fr 2).fr 3
  exact Gj 16 [(0, (pt gx0 0)), (2, (pt b2 0)), (3, .slice (Gp (some b6)) 1 1)] (u6t _ _ h gx0 _ _ ((z2.t z3).t z4) _ none 0 0 [] (some b6) _ _ _ _ p4 rfl (Els.nil (K := kT26)) rfl (f7.ext z4) rfl (u2p.ext z4))
 ·
  intro u6s rec_syntax_parser_sequence u6t ih_syntax_parser_sequence ⟨x2v, x3, e0v⟩ r h nz wz S0 w0 Lr gx0 S1 w1 hx gx2 u6o u6p u6q u6r Gx3 nx3 cx3 uo u0 p1 u6u u6v u6w fx3 lx3 u1 junk
  try dsimp only at h
  subst u6w
  subst lx3
  refine Gn 4 [(7, (pt gx0 0))] (Yt 11100000 B68 [1] Jab) ?_
  have p1 := p1.fr 3
  refine Gb h fun y13 e14 h => ?_
  refine Gc (.call { callee := .value (.func 132), args := #[7, (.const (.int .u8 124))], argTypes := #[132, 5] }) 8 4 132 _ (W.z3 e0v 124 y13 e14 _ _ p1 u1) ?_
  rintro _ w5 ⟨S5, u3a, rfl, z5, p5, u3c⟩
  refine Gn 1 [] Jab ?_
  refine Gi h (fun h15 h => ?_) fun h15 h => ?_
  ·
   rw [h15]
   refine Gn 6 [(9, .slice (Gp Gx3) x3.length cx3), (10, (pt gx0 0))] (Yt 11100010 B68 [2, 3, 4, 5] (Zb 1 Ja4)) ?_
   refine Gb h fun y16 e17 h => ?_
   refine Gc (kc 131 [10] #[132]) 11 27 131 _ (ih_syntax_parser_sequence y13.2 y16 e17 _ _ p5 u3c) ?_
   rintro _ w6 ⟨S6, u6x, u6y, u6z, u3y, rfl, z6, p6, u70, u71, rfl, u3z⟩
   have f19 : Els kT26 S6 w6 ((vT26 y16.1 u6x y16.1.L.length u6z) : List Value) [y16.1] := by exact (Els.cons (K := kT26) (vs := (vT26 y16.1 u6x y16.1.L.length u6z)) (x := y16.1) (kT26_close ⟨[.i y16.1.Kind], (U4 y16.1.Set [.slice u6x y16.1.L.length u6z, .i y16.1.Min, .i y16.1.Max]), rfl, rfl, ⟨(U4 y16.1.Set []), [.slice u6x y16.1.L.length u6z, .i y16.1.Min, .i y16.1.Max], rfl, ⟨u70, els_mk4 u70⟩, ⟨[.slice u6x y16.1.L.length u6z], [.i y16.1.Min, .i y16.1.Max], rfl, ⟨_, _, rfl, u71⟩, ⟨[.i y16.1.Min], [.i y16.1.Max], rfl, rfl, rfl⟩⟩⟩⟩) Els.nil)
   refine Om (.buildSlice 25 1 #[(0, 11)]) 12 25 (fun b => .slice (Gp (some b)) 1 1) 27 ((vT26 y16.1 u6x y16.1.L.length u6z) : List Value) (1 * kT26.size) p6 Xa fun b18 w7 z7 p7 => ?_
   refine Gg h fun g24 h => ?_
   refine On (K := kT26) 25 9 12 13 25 27 4 (.agg #[.i 0, .u 0, .u 0, .u 0, .u 0, .slice none 0 0, .i 0, .i 0]) 80 x3.length cx3 1 x3 [y16.1] (x3 ++ [y16.1]) (Gp (some b18)) 1 rfl rfl rfl p7 rfl (fx3.ext ((z5.t z6).t z7)) Xa (f19.ext z7) (src_own p7 (q := 0) rfl) g24 fun w8 G25 c26 u72 z8 p8 f28 => ?_
   refine Gn 4 [(3, .slice (Gp G25) ((x3 ++ [y16.1]).length) c26)] Ja5 ?_
   have p8 := p8.dp 0
   have p8 := (((p8.fr 0).fr 3).fr 3).fr 3
   exact Gj 16 [(0, (pt gx0 0)), (2, (pt gx2 0)), (3, .slice (Gp G25) ((x3 ++ [y16.1]).length) c26)] (u6t _ _ h gx0 _ _ ((((hx.t z5).t z6).t z7).t z8) _ _ _ _ _ _ _ _ _ _ p8 u6u (u6v.ext (((z5.t z6).t z7).t z8)) rfl f28 rfl (u3z.ext (z7.t z8)))
  ·
   have u73 := bf h15
   rw [u73]
   refine Gn 5 [(14, .slice (Gp Gx3) x3.length cx3)] (Yt 11110 B68 [1, 2] Jaf) ?_
   obtain ⟨S9, z9, p9, f29⟩ := p5.freezeRd 3 rfl (fx3.ext z5) (by decide)
   refine Gb h fun y30 e31 h => ?_
   refine Gc (.call { callee := .value (.func 133), args := #[(.const (.int .i64 3)), 14], argTypes := #[3, 25] }) 15 27 133 _ (W.z15 3 x3 y30 e31 _ _ _ p9 f29 rfl) ?_
   rintro _ w10 ⟨S10, u74, u75, u76, rfl, z10, p10, u77, u78, rfl⟩
   have p10 := p10.dp 3
   refine So 27 2 15 0 1 gx2 0 (ag (vT26 y30 u74 y30.L.length u76)) (vT26 y30 u74 y30.L.length u76) p10 rfl Xd fun w11 z11 p11 => ?_
   refine Gn 1 [] Jaf ?_
   obtain rfl := sj h
   have p11 := p11.dp 2
   have p11 := (p11.fr 0).fr 1
   exact R1 Tryz.f68 (.cell 2 27) (ag (vT26 y30 u74 y30.L.length u76)) (Rn gx2 (p11.pa 0 0)) ⟨_, _, _, _, _, rfl, ((((hx.t z5).t z9).t z10).t z11), p11.drop, u77, (u78.ext z11), rfl, (u3c.ext ((z9.t z10).t z11))⟩
 ·
  intro u79 u7a x0v r h nz wz S0 w0 Lr gx0 u2 p0 u3
  try dsimp only at h
  refine Zf Tryz.f131 B131 37 ?_
  refine Gj 38 [(0, (pt gx0 0))] fun junk => ?_
  refine Gn 2 [] (Yt 10 B131 [0] (Ys 11 B131 [])) ?_
  refine Oa 27 2 0 (.agg #[.i 0, .u 0, .u 0, .u 0, .u 0, .slice none 0 0, .i 0, .i 0]) [.i 0, .u 0, .u 0, .u 0, .u 0, .slice none 0 0, .i 0, .i 0] p0 Xa fun b2 w2 z2 p2 => ?_
  refine Gn 8 [(3, .slice none 0 0)] J9u ?_
  have p2 : Hp nz wz S0 w2 ((none, .row 27 [] (0 * kT26.size) 0) :: (some b2, .row 27 [.i 0, .u 0, .u 0, .u 0, .u 0, .slice none 0 0, .i 0, .i 0] 8 0) :: (some gx0, .row 135 (vT134 x0v u2) 4 0) :: Lr) := p2.nilRow' 27
  have p2 : Hp nz wz S0 w2 ((none, .row 27 [] (0 * kT26.size) 0) :: (none, .row 27 [] (0 * kT26.size) 0) :: (some b2, .row 27 [.i 0, .u 0, .u 0, .u 0, .u 0, .slice (Gp none) 0 0, .i 0, .i 0] 8 0) :: (some gx0, .row 135 (vT134 x0v u2) 4 0) :: Lr) := p2.nilRow' 27
  have p2 := (((p2.fr 3).fr 1).fr 2).fr 3
  exact Gj 38 [(0, (pt gx0 0)), (2, (pt b2 0)), (3, .slice (Gp none) 0 0)] (u7a _ _ h gx0 _ _ z2 _ none 0 0 [] none 0 0 [] _ p2 rfl (Els.nil (K := kT26)) rfl (Els.nil (K := kT26)) rfl (u3.ext z2))
 ·
  intro u7b u7c ⟨x2v, x3, e0v⟩ r h nz wz S0 w0 Lr gx0 S1 w1 hx gx2 u6o u6p u6q u6r Gx3 nx3 cx3 uo u0 p1 u6u u6v u6w fx3 lx3 u1 junk
  try dsimp only at h
  subst u6w
  subst lx3
  refine Gn 2 [] (Ys 11100000 B131 J9w) ?_
  have z3 : Ext S1 w1 S1 (w1).drew := Xm
  have p3 := p1.draw
  refine Gd [19, 24] (Fc S1 (w1).drew [(⟨gx0, 3, none⟩, u0), (⟨gx0, 1, none⟩, .i e0v.at_), (⟨gx0, 0, none⟩, .string e0v.s)]) 2 27 ?_
  generalize (w1).drew = w3 at z3 p3 ⊢
  refine Xe 0 (.move 0) 4 132 ((pt gx0 0)) (p3.k [(3, 3, 1), (3, 1, 1), (3, 0, 1)]) ?_
  refine Xe 1 (.nilCheck 4) 5 0 ((pt gx0 0)) (p3.k [(3, 3, 1), (3, 1, 1), (3, 0, 1)]) ?_
  refine Xe 2 (.fieldAddr 135 5 3) 6 0 ((pt gx0 3)) (p3.k [(3, 3, 1), (3, 1, 1), (3, 0, 1)]) ?_
  refine Al 3 133 6 7 133 ⟨gx0, 3, none⟩ (u0) (p3.k [(3, 3, 1), (3, 1, 1), (3, 0, 1)]) (fun _ h => h.2.at_ 0 rfl) ?_
  refine Gl h fun v24 h9 h => ?_
  rcases v24 with _ | y10
  ·
   try dsimp only at h
   obtain rfl := PtO.nil (u1.ext z3) h9
   refine Xe 4 (.binOp .eql 133 7 (.const (.pointer none)) 133) 8 4 (.bool true) (p3.k [(3, 3, 1), (3, 1, 1), (3, 0, 1)]) ?_
   refine Xe 5 (.move 8) 9 4 (.bool true) (p3.k [(3, 3, 1), (3, 1, 1), (3, 0, 1)]) ?_
   refine Xe 6 (.move 0) 10 132 ((pt gx0 0)) (p3.k [(3, 3, 1), (3, 1, 1), (3, 0, 1)]) ?_
   refine Xe 7 (.nilCheck 10) 11 0 ((pt gx0 0)) (p3.k [(3, 3, 1), (3, 1, 1), (3, 0, 1)]) ?_
   refine Xe 8 (.fieldAddr 135 11 1) 12 0 ((pt gx0 1)) (p3.k [(3, 3, 1), (3, 1, 1), (3, 0, 1)]) ?_
   refine Al 9 3 12 13 3 ⟨gx0, 1, none⟩ (.i e0v.at_) (p3.k [(3, 3, 1), (3, 1, 1), (3, 0, 1)]) (fun _ h => h.2.at_ 1 rfl) ?_
   refine Xe 10 (.move 0) 14 132 ((pt gx0 0)) (p3.k [(3, 3, 1), (3, 1, 1), (3, 0, 1)]) ?_
   refine Xe 11 (.nilCheck 14) 15 0 ((pt gx0 0)) (p3.k [(3, 3, 1), (3, 1, 1), (3, 0, 1)]) ?_
   refine Xe 12 (.fieldAddr 135 15 0) 16 0 ((pt gx0 0)) (p3.k [(3, 3, 1), (3, 1, 1), (3, 0, 1)]) ?_
   refine Al 13 9 16 17 9 ⟨gx0, 0, none⟩ (.string e0v.s) (p3.k [(3, 3, 1), (3, 1, 1), (3, 0, 1)]) (fun _ h => h.2.at_ 2 rfl) ?_
   refine Xe 14 (.call { callee := .builtin .len, args := #[17], argTypes := #[9] }) 18 3 (.i (e0v.s.size : Int)) (p3.k [(3, 3, 1), (3, 1, 1), (3, 0, 1)]) ?_
   refine Xe 15 (.binOp .lss 3 13 18 3) 19 4 (.bool (decide (e0v.at_ < (e0v.s.size : Int)))) (p3.k [(3, 3, 1), (3, 1, 1), (3, 0, 1)]) ?_
   refine Xe 16 (.pick 9 19 (.const (.bool false))) 20 4 (.bool (decide (e0v.at_ < (e0v.s.size : Int)))) (p3.k [(3, 3, 1), (3, 1, 1), (3, 0, 1)]) ?_
   refine Xe 17 (.move 20) 21 4 (.bool (decide (e0v.at_ < (e0v.s.size : Int)))) (p3.k [(3, 3, 1), (3, 1, 1), (3, 0, 1)]) ?_
   refine Gi h (fun h15 h => ?_) fun h15 h => ?_
   ·
    rw [dt h15]
    refine Xe 18 (.move 0) 22 132 ((pt gx0 0)) (p3.k [(3, 3, 1), (3, 1, 1), (3, 0, 1)]) ?_
    have p3 := p3.fr 3
    refine Gb h fun y16 e17 h => ?_
    refine Oc (kc 197 [22] #[132]) 23 5 197 #[(pt gx0 0)] (Ac 19) (W.z0 (⟨e0v.s, e0v.at_, e0v.deep, none⟩ : T134) y16 e17 _ (.pointer none) p3 rfl) ?_
    rintro _ w4 ⟨S4, u28, rfl, z4, p4, u2b⟩
    refine Xi [24] (Fc S4 w4 []) (by decide) ?_
    refine Xe 20 (.binOp .neq 5 23 (.const (.int .u8 124)) 5) 24 4 (.bool (!(decide (y16.1 = 124)))) Fc0 ?_
    refine Xe 21 (.pick 21 24 (.const (.bool false))) 25 4 (.bool (!(decide (y16.1 = 124)))) Fc0 ?_
    refine Xe 22 (.move 25) 26 4 (.bool (!(decide (y16.1 = 124)))) Fc0 ?_
    refine Gi h (fun h18 h => ?_) fun h18 h => ?_
    ·
     rw [dt h18]
     refine Xj 23 27 Fc0 ?_
     refine Ak 24 28 ?_
     refine Xj 25 29 Fc0 ?_
     refine Xe 26 (.pick 26 29 (.const (.bool false))) 30 4 (.bool false) Fc0 ?_
     refine Ad ?_
     have p4 := (((p4.fr 0).fr 3).fr 3).fr 3
     exact Gj 38 [(0, (pt gx0 0)), (2, (pt gx2 0)), (3, .slice (Gp Gx3) x3.length cx3), (30, .bool false)] (u7c _ _ h gx0 _ _ ((hx.t z3).t z4) _ _ _ _ _ _ _ _ _ _ p4 u6u (u6v.ext (z3.t z4)) rfl (fx3.ext (z3.t z4)) rfl u2b)
    ·
     rw [df h18]
     refine Xe 23 (.move 0) 27 132 ((pt gx0 0)) Fc0 ?_
     refine Gb h fun y22 e23 h => ?_
     refine Oc (kc 197 [27] #[132]) 28 5 197 #[(pt gx0 0)] (Ac 24) (W.z0 y16.2 y22 e23 _ _ p4 u2b) ?_
     rintro _ w5 ⟨S5, u3a, rfl, z5, p5, u3c⟩
     refine Xi [] (Fc S5 w5 []) (by decide) ?_
     refine Xe 25 (.binOp .neq 5 28 (.const (.int .u8 41)) 5) 29 4 (.bool (!(decide (y22.1 = 41)))) Fc0 ?_
     refine Xe 26 (.pick 26 29 (.const (.bool false))) 30 4 (.bool (!(decide (y22.1 = 41)))) Fc0 ?_
     refine Ad ?_
     have p5 := (((p5.fr 0).fr 3).fr 3).fr 3
     exact Gj 38 [(0, (pt gx0 0)), (2, (pt gx2 0)), (3, .slice (Gp Gx3) x3.length cx3), (30, .bool (!(decide (y22.1 = 41))))] (u7c _ _ h gx0 _ _ (((hx.t z3).t z4).t z5) _ _ _ _ _ _ _ _ _ _ p5 u6u (u6v.ext ((z3.t z4).t z5)) rfl (fx3.ext ((z3.t z4).t z5)) rfl u3c)
   ·
    rw [df h15]
    refine Xj 18 22 (p3.k [(3, 3, 1), (3, 1, 1), (3, 0, 1)]) ?_
    refine Ak 19 23 ?_
    refine Xj 20 24 (p3.k [(3, 3, 1), (3, 1, 1), (3, 0, 1)]) ?_
    refine Xe 21 (.pick 21 24 (.const (.bool false))) 25 4 (.bool false) (p3.k [(3, 3, 1), (3, 1, 1), (3, 0, 1)]) ?_
    refine Xe 22 (.move 25) 26 4 (.bool false) (p3.k [(3, 3, 1), (3, 1, 1), (3, 0, 1)]) ?_
    refine Xj 23 27 (p3.k [(3, 3, 1), (3, 1, 1), (3, 0, 1)]) ?_
    refine Ak 24 28 ?_
    refine Xj 25 29 (p3.k [(3, 3, 1), (3, 1, 1), (3, 0, 1)]) ?_
    refine Xe 26 (.pick 26 29 (.const (.bool false))) 30 4 (.bool false) (p3.k [(3, 3, 1), (3, 1, 1), (3, 0, 1)]) ?_
    refine Ad ?_
    exact Gj 38 [(0, (pt gx0 0)), (2, (pt gx2 0)), (3, .slice (Gp Gx3) x3.length cx3), (30, .bool false)] (u7c _ _ h gx0 _ _ (hx.t z3) _ _ _ _ _ _ _ _ _ (.pointer none) p3 u6u (u6v.ext z3) rfl (fx3.ext z3) rfl rfl)
  ·
   try dsimp only at h
   obtain ⟨a12, _, rfl, -, f13, q14⟩ := PtO.got (u1.ext z3) h9
   obtain rfl := q14
   refine Xe 4 (.binOp .eql 133 7 (.const (.pointer none)) 133) 8 4 (.bool false) (p3.k [(3, 3, 1), (3, 1, 1), (3, 0, 1)]) ?_
   refine Xe 5 (.move 8) 9 4 (.bool false) (p3.k [(3, 3, 1), (3, 1, 1), (3, 0, 1)]) ?_
   refine Xj 6 10 (p3.k [(3, 3, 1), (3, 1, 1), (3, 0, 1)]) ?_
   refine Xj 7 11 (p3.k [(3, 3, 1), (3, 1, 1), (3, 0, 1)]) ?_
   refine Xj 8 12 (p3.k [(3, 3, 1), (3, 1, 1), (3, 0, 1)]) ?_
   refine Xj 9 13 (p3.k [(3, 3, 1), (3, 1, 1), (3, 0, 1)]) ?_
   refine Xj 10 14 (p3.k [(3, 3, 1), (3, 1, 1), (3, 0, 1)]) ?_
   refine Xj 11 15 (p3.k [(3, 3, 1), (3, 1, 1), (3, 0, 1)]) ?_
   refine Xj 12 16 (p3.k [(3, 3, 1), (3, 1, 1), (3, 0, 1)]) ?_
   refine Xj 13 17 (p3.k [(3, 3, 1), (3, 1, 1), (3, 0, 1)]) ?_
   refine Xj 14 18 (p3.k [(3, 3, 1), (3, 1, 1), (3, 0, 1)]) ?_
   refine Xj 15 19 (p3.k [(3, 3, 1), (3, 1, 1), (3, 0, 1)]) ?_
   refine Xe 16 (.pick 9 19 (.const (.bool false))) 20 4 (.bool false) (p3.k [(3, 3, 1), (3, 1, 1), (3, 0, 1)]) ?_
   refine Xe 17 (.move 20) 21 4 (.bool false) (p3.k [(3, 3, 1), (3, 1, 1), (3, 0, 1)]) ?_
   refine Xj 18 22 (p3.k [(3, 3, 1), (3, 1, 1), (3, 0, 1)]) ?_
   refine Ak 19 23 ?_
   refine Xj 20 24 (p3.k [(3, 3, 1), (3, 1, 1), (3, 0, 1)]) ?_
   refine Xe 21 (.pick 21 24 (.const (.bool false))) 25 4 (.bool false) (p3.k [(3, 3, 1), (3, 1, 1), (3, 0, 1)]) ?_
   refine Xe 22 (.move 25) 26 4 (.bool false) (p3.k [(3, 3, 1), (3, 1, 1), (3, 0, 1)]) ?_
   refine Xj 23 27 (p3.k [(3, 3, 1), (3, 1, 1), (3, 0, 1)]) ?_
   refine Ak 24 28 ?_
   refine Xj 25 29 (p3.k [(3, 3, 1), (3, 1, 1), (3, 0, 1)]) ?_
   refine Xe 26 (.pick 26 29 (.const (.bool false))) 30 4 (.bool false) (p3.k [(3, 3, 1), (3, 1, 1), (3, 0, 1)]) ?_
   refine Ad ?_
   exact Gj 38 [(0, (pt gx0 0)), (2, (pt gx2 0)), (3, .slice (Gp Gx3) x3.length cx3), (30, .bool false)] (u7c _ _ h gx0 _ _ (hx.t z3) _ _ _ _ _ _ _ _ _ _ p3 u6u (u6v.ext z3) rfl (fx3.ext z3) rfl ⟨_, _, rfl, List.cons_ne_nil _ _, f13, rfl⟩)
 ·
  intro u79 rec_syntax_parser_piece u7a ih_syntax_parser_piece ⟨x2v, x3, x30, e0v⟩ r h nz wz S0 w0 Lr gx0 S1 w1 hx gx2 u6o u6p u6q u6r Gx3 nx3 cx3 uo u0 p1 u6u u6v u6w fx3 lx3 u1 junk
  try dsimp only at h
  subst u6w
  subst lx3
  refine Gi h (fun h25 h => ?_) fun h25 h => ?_
  ·
   rw [h25]
   refine Gn 6 [(31, .slice (Gp Gx3) x3.length cx3), (32, (pt gx0 0))] (Yt 11100010 B131 [2, 3, 4, 5] (Zb 1 J9t)) ?_
   have p1 := p1.fr 3
   refine Gb h fun y26 e27 h => ?_
   refine Gc (kc 198 [32] #[132]) 33 27 198 _ (ih_syntax_parser_piece e0v y26 e27 _ _ p1 u1) ?_
   rintro _ w6 ⟨S6, u6x, u6y, u6z, u3y, rfl, z6, p6, u70, u71, rfl, u3z⟩
   have f29 : Els kT26 S6 w6 ((vT26 y26.1 u6x y26.1.L.length u6z) : List Value) [y26.1] := by exact (Els.cons (K := kT26) (vs := (vT26 y26.1 u6x y26.1.L.length u6z)) (x := y26.1) (kT26_close ⟨[.i y26.1.Kind], (U4 y26.1.Set [.slice u6x y26.1.L.length u6z, .i y26.1.Min, .i y26.1.Max]), rfl, rfl, ⟨(U4 y26.1.Set []), [.slice u6x y26.1.L.length u6z, .i y26.1.Min, .i y26.1.Max], rfl, ⟨u70, els_mk4 u70⟩, ⟨[.slice u6x y26.1.L.length u6z], [.i y26.1.Min, .i y26.1.Max], rfl, ⟨_, _, rfl, u71⟩, ⟨[.i y26.1.Min], [.i y26.1.Max], rfl, rfl, rfl⟩⟩⟩⟩) Els.nil)
   refine Om (.buildSlice 25 1 #[(0, 33)]) 34 25 (fun b => .slice (Gp (some b)) 1 1) 27 ((vT26 y26.1 u6x y26.1.L.length u6z) : List Value) (1 * kT26.size) p6 Xa fun b28 w7 z7 p7 => ?_
   refine Gg h fun g34 h => ?_
   refine On (K := kT26) 25 31 34 35 25 27 4 (.agg #[.i 0, .u 0, .u 0, .u 0, .u 0, .slice none 0 0, .i 0, .i 0]) 80 x3.length cx3 1 x3 [y26.1] (x3 ++ [y26.1]) (Gp (some b28)) 1 rfl rfl rfl p7 rfl (fx3.ext (z6.t z7)) Xa (f29.ext z7) (src_own p7 (q := 0) rfl) g34 fun w8 G35 c36 u7d z8 p8 f38 => ?_
   refine Gn 4 [(3, .slice (Gp G35) ((x3 ++ [y26.1]).length) c36)] J9u ?_
   have p8 := p8.dp 0
   have p8 := (((p8.fr 0).fr 3).fr 3).fr 3
   exact Gj 38 [(0, (pt gx0 0)), (2, (pt gx2 0)), (3, .slice (Gp G35) ((x3 ++ [y26.1]).length) c36)] (u7a _ _ h gx0 _ _ (((hx.t z6).t z7).t z8) _ _ _ _ _ _ _ _ _ _ p8 u6u (u6v.ext ((z6.t z7).t z8)) rfl f38 rfl (u3z.ext (z7.t z8)))
  ·
   rw [bf h25]
   refine Gn 5 [(36, .slice (Gp Gx3) x3.length cx3)] (Yt 11110 B131 [1, 2] Jam) ?_
   obtain ⟨S9, z9, p9, f39⟩ := p1.freezeRd 2 rfl fx3 (by decide)
   refine Gb h fun y40 e41 h => ?_
   refine Gc (.call { callee := .value (.func 133), args := #[(.const (.int .i64 2)), 36], argTypes := #[3, 25] }) 37 27 133 _ (W.z15 2 x3 y40 e41 _ _ _ p9 f39 rfl) ?_
   rintro _ w10 ⟨S10, u74, u75, u76, rfl, z10, p10, u77, u78, rfl⟩
   have p10 := p10.dp 2
   refine So 27 2 37 0 0 gx2 0 (ag (vT26 y40 u74 y40.L.length u76)) (vT26 y40 u74 y40.L.length u76) p10 rfl Xd fun w11 z11 p11 => ?_
   refine Gn 1 [] Jam ?_
   obtain rfl := sj h
   have p11 := p11.dp 1
   exact R1 Tryz.f131 (.cell 2 27) (ag (vT26 y40 u74 y40.L.length u76)) (Rn gx2 (p11.pa 0 0)) ⟨_, _, _, _, _, rfl, (((hx.t z9).t z10).t z11), p11.drop, u77, (u78.ext z11), rfl, (u1.ext ((z9.t z10).t z11))⟩
 ·
  intro rec_syntax_parser_atom ih_syntax_parser_atom x0v r h nz wz S0 w0 Lr gx0 u2 p0 u3
  try dsimp only at h
  refine Zf Tryz.f198 B198 36 ?_
  refine Gj 37 [(0, (pt gx0 0))] fun junk => ?_
  refine Gn 2 [] (Yt 10 B198 [0] (Ys 11 B198 [])) ?_
  refine Oa 27 2 0 (.agg #[.i 0, .u 0, .u 0, .u 0, .u 0, .slice none 0 0, .i 0, .i 0]) [.i 0, .u 0, .u 0, .u 0, .u 0, .slice none 0 0, .i 0, .i 0] p0 Xa fun b2 w2 z2 p2 => ?_
  refine Gn 4 [(7, (pt gx0 0))] (Yt 110 B198 [1, 2, 3] (Ys 111 B198 [])) ?_
  have p2 := p2.fr 1
  refine Gb h fun y4 e5 h => ?_
  refine Gc (kc 247 [7] #[132]) 8 27 247 _ (ih_syntax_parser_atom x0v y4 e5 _ _ p2 (u3.ext z2)) ?_
  rintro _ w3 ⟨S3, u5v, u5w, u5x, u2o, rfl, z3, p3, u5y, u5z, rfl, u2p⟩
  refine Oa 27 3 0 (.agg #[.i 0, .u 0, .u 0, .u 0, .u 0, .slice none 0 0, .i 0, .i 0]) [.i 0, .u 0, .u 0, .u 0, .u 0, .slice none 0 0, .i 0, .i 0] p3 Xa fun b6 w4 z4 p4 => ?_
  refine So 27 3 8 0 0 b6 0 (ag (vT26 y4.1 u5v y4.1.L.length u5x)) (vT26 y4.1 u5v y4.1.L.length u5x) p4 rfl Xd fun w5 z5 p5 => ?_
  refine Gm 12 [([4, 5], .i 1), ([9, 10], (pt gx0 0)), ([11], (pt gx0 1))] (Yt 111100 B198 [3, 4] (Ys 111101 B198 Jas)) ?_
  refine Xb 3 11 12 3 ⟨gx0, 1, none⟩ (.i y4.2.at_) (p5.c 1 1) ?_
  refine Gn 6 [(6, .i y4.2.at_), (15, (pt gx0 0))] (Yt 11110100 B198 [1, 2] Jaw) ?_
  have p5 := p5.fr 1
  refine Gb h fun y8 e9 h => ?_
  refine Gc (.call { callee := .value (.func 132), args := #[15, (.const (.int .u8 42))], argTypes := #[132, 5] }) 16 4 132 _ (W.z3 y4.2 42 y8 e9 _ _ p5 (u2p.ext (z4.t z5))) ?_
  rintro _ w6 ⟨S6, u3y, rfl, z6, p6, u3z⟩
  refine Gn 2 [(14, .bool y8.1)] Jaw ?_
  refine Gi h (fun h10 h => ?_) fun h10 h => ?_
  ·
   rw [h10]
   refine Gn 8 [(4, .i 0), (5, .i (-1))] Jaz ?_
   refine Xf 27 3 32 27 ⟨b6, 0, none⟩ (vT26 y4.1 u5v y4.1.L.length u5x) (p6.pa 1 0) ?_
   have f12 : Els kT26 S6 w6 ((vT26 y4.1 u5v y4.1.L.length u5x) : List Value) [y4.1] := by exact (Els.cons (K := kT26) (vs := (vT26 y4.1 u5v y4.1.L.length u5x)) (x := y4.1) (kT26_close ⟨[.i y4.1.Kind], (U4 y4.1.Set [.slice u5v y4.1.L.length u5x, .i y4.1.Min, .i y4.1.Max]), rfl, rfl, ⟨(U4 y4.1.Set []), [.slice u5v y4.1.L.length u5x, .i y4.1.Min, .i y4.1.Max], rfl, ⟨u5y, els_mk4 u5y⟩, ⟨[.slice u5v y4.1.L.length u5x], [.i y4.1.Min, .i y4.1.Max], rfl, ⟨_, _, rfl, (u5z.ext ((z4.t z5).t z6))⟩, ⟨[.i y4.1.Min], [.i y4.1.Max], rfl, rfl, rfl⟩⟩⟩⟩) Els.nil)
   refine Om (.buildSlice 25 1 #[(0, 32)]) 33 25 (fun b => .slice (Gp (some b)) 1 1) 27 ((vT26 y4.1 u5v y4.1.L.length u5x) : List Value) (1 * kT26.size) p6 Xa fun b11 w7 z7 p7 => ?_
   refine Gn 3 [(34, .i 0), (35, .i (-1)), (36, .agg #[.i 4, .u 0, .u 0, .u 0, .u 0, .slice (Gp (some b11)) 1 1, .i 0, .i (-1)])] Jb0 ?_
   refine So 27 2 36 0 3 b2 0 (.agg #[.i 4, .u 0, .u 0, .u 0, .u 0, .slice (Gp (some b11)) 1 1, .i 0, .i (-1)]) [.i 4, .u 0, .u 0, .u 0, .u 0, .slice (Gp (some b11)) 1 1, .i 0, .i (-1)] p7 rfl Xd fun w8 z8 p8 => ?_
   refine Gn 1 [] Jay ?_
   obtain ⟨S9, z9, p9, f14⟩ := p8.freezeRd 0 rfl (f12.ext (z7.t z8)) (by decide)
   obtain rfl := sj h
   have p9 := (p9.dp 0).dp 1
   have p9 := (p9.fr 0).fr 1
   exact R1 Tryz.f198 (.cell 2 27) (.agg #[.i 4, .u 0, .u 0, .u 0, .u 0, .slice (Gp (some b11)) 1 1, .i 0, .i (-1)]) (Rn b2 (p9.pa 0 0)) ⟨_, _, _, _, _, rfl, (((((((z2.t z3).t z4).t z5).t z6).t z7).t z8).t z9), p9.drop, rfl, f14, rfl, (u3z.ext ((z7.t z8).t z9))⟩
  ·
   rw [bf h10]
   refine Gn 4 [(18, (pt gx0 0))] (Yt 1111010110 B198 [1, 2] Jb1) ?_
   refine Gb h fun y15 e16 h => ?_
   refine Gc (.call { callee := .value (.func 132), args := #[18, (.const (.int .u8 43))], argTypes := #[132, 5] }) 19 4 132 _ (W.z3 y8.2 43 y15 e16 _ _ p6 u3z) ?_
   rintro _ w10 ⟨S10, u2u, rfl, z10, p10, u2v⟩
   refine Gn 2 [(17, .bool y15.1)] Jb1 ?_
   refine Gi h (fun h17 h => ?_) fun h17 h => ?_
   ·
    rw [h17]
    refine Gn 7 [(5, .i (-1))] Jaz ?_
    refine Xf 27 3 32 27 ⟨b6, 0, none⟩ (vT26 y4.1 u5v y4.1.L.length u5x) (p10.pa 1 0) ?_
    have f19 : Els kT26 S10 w10 ((vT26 y4.1 u5v y4.1.L.length u5x) : List Value) [y4.1] := by exact (Els.cons (K := kT26) (vs := (vT26 y4.1 u5v y4.1.L.length u5x)) (x := y4.1) (kT26_close ⟨[.i y4.1.Kind], (U4 y4.1.Set [.slice u5v y4.1.L.length u5x, .i y4.1.Min, .i y4.1.Max]), rfl, rfl, ⟨(U4 y4.1.Set []), [.slice u5v y4.1.L.length u5x, .i y4.1.Min, .i y4.1.Max], rfl, ⟨u5y, els_mk4 u5y⟩, ⟨[.slice u5v y4.1.L.length u5x], [.i y4.1.Min, .i y4.1.Max], rfl, ⟨_, _, rfl, (u5z.ext (((z4.t z5).t z6).t z10))⟩, ⟨[.i y4.1.Min], [.i y4.1.Max], rfl, rfl, rfl⟩⟩⟩⟩) Els.nil)
    refine Om (.buildSlice 25 1 #[(0, 32)]) 33 25 (fun b => .slice (Gp (some b)) 1 1) 27 ((vT26 y4.1 u5v y4.1.L.length u5x) : List Value) (1 * kT26.size) p10 Xa fun b18 w11 z11 p11 => ?_
    refine Gn 3 [(34, .i 1), (35, .i (-1)), (36, .agg #[.i 4, .u 0, .u 0, .u 0, .u 0, .slice (Gp (some b18)) 1 1, .i 1, .i (-1)])] Jb0 ?_
    refine So 27 2 36 0 3 b2 0 (.agg #[.i 4, .u 0, .u 0, .u 0, .u 0, .slice (Gp (some b18)) 1 1, .i 1, .i (-1)]) [.i 4, .u 0, .u 0, .u 0, .u 0, .slice (Gp (some b18)) 1 1, .i 1, .i (-1)] p11 rfl Xd fun w12 z12 p12 => ?_
    refine Gn 1 [] Jay ?_
    obtain ⟨S13, z13, p13, f21⟩ := p12.freezeRd 0 rfl (f19.ext (z11.t z12)) (by decide)
    obtain rfl := sj h
    have p13 := (p13.dp 0).dp 1
    have p13 := (p13.fr 0).fr 1
    exact R1 Tryz.f198 (.cell 2 27) (.agg #[.i 4, .u 0, .u 0, .u 0, .u 0, .slice (Gp (some b18)) 1 1, .i 1, .i (-1)]) (Rn b2 (p13.pa 0 0)) ⟨_, _, _, _, _, rfl, ((((((((z2.t z3).t z4).t z5).t z6).t z10).t z11).t z12).t z13), p13.drop, rfl, f21, rfl, (u2v.ext ((z11.t z12).t z13))⟩
   ·
    rw [bf h17]
    refine Gn 4 [(21, (pt gx0 0))] (Yt 111101011110 B198 [1, 2] Jb3) ?_
    refine Gb h fun y22 e23 h => ?_
    refine Gc (.call { callee := .value (.func 132), args := #[21, (.const (.int .u8 63))], argTypes := #[132, 5] }) 22 4 132 _ (W.z3 y15.2 63 y22 e23 _ _ p10 u2v) ?_
    rintro _ w14 ⟨S14, u7h, rfl, z14, p14, u7i⟩
    refine Gn 2 [(20, .bool y22.1)] Jb3 ?_
    refine Gi h (fun h24 h => ?_) fun h24 h => ?_
    ·
     rw [h24]
     refine Gn 7 [(4, .i 0)] Jaz ?_
     refine Xf 27 3 32 27 ⟨b6, 0, none⟩ (vT26 y4.1 u5v y4.1.L.length u5x) (p14.pa 1 0) ?_
     have f26 : Els kT26 S14 w14 ((vT26 y4.1 u5v y4.1.L.length u5x) : List Value) [y4.1] := by exact (Els.cons (K := kT26) (vs := (vT26 y4.1 u5v y4.1.L.length u5x)) (x := y4.1) (kT26_close ⟨[.i y4.1.Kind], (U4 y4.1.Set [.slice u5v y4.1.L.length u5x, .i y4.1.Min, .i y4.1.Max]), rfl, rfl, ⟨(U4 y4.1.Set []), [.slice u5v y4.1.L.length u5x, .i y4.1.Min, .i y4.1.Max], rfl, ⟨u5y, els_mk4 u5y⟩, ⟨[.slice u5v y4.1.L.length u5x], [.i y4.1.Min, .i y4.1.Max], rfl, ⟨_, _, rfl, (u5z.ext ((((z4.t z5).t z6).t z10).t z14))⟩, ⟨[.i y4.1.Min], [.i y4.1.Max], rfl, rfl, rfl⟩⟩⟩⟩) Els.nil)
     refine Om (.buildSlice 25 1 #[(0, 32)]) 33 25 (fun b => .slice (Gp (some b)) 1 1) 27 ((vT26 y4.1 u5v y4.1.L.length u5x) : List Value) (1 * kT26.size) p14 Xa fun b25 w15 z15 p15 => ?_
     refine Gn 3 [(34, .i 0), (35, .i 1), (36, .agg #[.i 4, .u 0, .u 0, .u 0, .u 0, .slice (Gp (some b25)) 1 1, .i 0, .i 1])] Jb0 ?_
     refine So 27 2 36 0 3 b2 0 (.agg #[.i 4, .u 0, .u 0, .u 0, .u 0, .slice (Gp (some b25)) 1 1, .i 0, .i 1]) [.i 4, .u 0, .u 0, .u 0, .u 0, .slice (Gp (some b25)) 1 1, .i 0, .i 1] p15 rfl Xd fun w16 z16 p16 => ?_
     refine Gn 1 [] Jay ?_
     obtain ⟨S17, z17, p17, f28⟩ := p16.freezeRd 0 rfl (f26.ext (z15.t z16)) (by decide)
     obtain rfl := sj h
     have p17 := (p17.dp 0).dp 1
     have p17 := (p17.fr 0).fr 1
     exact R1 Tryz.f198 (.cell 2 27) (.agg #[.i 4, .u 0, .u 0, .u 0, .u 0, .slice (Gp (some b25)) 1 1, .i 0, .i 1]) (Rn b2 (p17.pa 0 0)) ⟨_, _, _, _, _, rfl, (((((((((z2.t z3).t z4).t z5).t z6).t z10).t z14).t z15).t z16).t z17), p17.drop, rfl, f28, rfl, (u7i.ext ((z15.t z16).t z17))⟩
    ·
     rw [bf h24]
     refine Gn 4 [(24, (pt gx0 0))] (Yt 11110101111110 B198 [1, 2] Jb5) ?_
     refine Gb h fun y29 e30 h => ?_
     refine Gc (.call { callee := .value (.func 132), args := #[24, (.const (.int .u8 123))], argTypes := #[132, 5] }) 25 4 132 _ (W.z3 y22.2 123 y29 e30 _ _ p14 u7i) ?_
     rintro _ w18 ⟨S18, u7k, rfl, z18, p18, u7l⟩
     refine Gn 2 [(23, .bool y29.1)] Jb5 ?_
     refine Gi h (fun h31 h => ?_) fun h31 h => ?_
     ·
      rw [h31]
      refine Gn 4 [(27, (pt gx0 0)), (28, .i y4.2.at_)] (Yt 111101011111110 B198 [2, 3, 4, 5, 6, 7] Jav) ?_
      refine Gb h fun y32 e33 h => ?_
      refine Gc (kc 248 [27, 28] #[132, 3]) 29 128 248 _ (W.z12 y29.2 y4.2.at_ y32 e33 _ _ p18 u7l) ?_
      rintro _ w19 ⟨S19, u3t, rfl, z19, p19, u3w⟩
      refine Gm 9 [([26], .tuple #[.i y32.1, .i y32.2.1]), ([30, 4], .i y32.1), ([31, 5], .i y32.2.1)] Jaz ?_
      refine Xf 27 3 32 27 ⟨b6, 0, none⟩ (vT26 y4.1 u5v y4.1.L.length u5x) (p19.pa 1 0) ?_
      have f35 : Els kT26 S19 w19 ((vT26 y4.1 u5v y4.1.L.length u5x) : List Value) [y4.1] := by exact (Els.cons (K := kT26) (vs := (vT26 y4.1 u5v y4.1.L.length u5x)) (x := y4.1) (kT26_close ⟨[.i y4.1.Kind], (U4 y4.1.Set [.slice u5v y4.1.L.length u5x, .i y4.1.Min, .i y4.1.Max]), rfl, rfl, ⟨(U4 y4.1.Set []), [.slice u5v y4.1.L.length u5x, .i y4.1.Min, .i y4.1.Max], rfl, ⟨u5y, els_mk4 u5y⟩, ⟨[.slice u5v y4.1.L.length u5x], [.i y4.1.Min, .i y4.1.Max], rfl, ⟨_, _, rfl, (u5z.ext ((((((z4.t z5).t z6).t z10).t z14).t z18).t z19))⟩, ⟨[.i y4.1.Min], [.i y4.1.Max], rfl, rfl, rfl⟩⟩⟩⟩) Els.nil)
      refine Om (.buildSlice 25 1 #[(0, 32)]) 33 25 (fun b => .slice (Gp (some b)) 1 1) 27 ((vT26 y4.1 u5v y4.1.L.length u5x) : List Value) (1 * kT26.size) p19 Xa fun b34 w20 z20 p20 => ?_
      refine Gn 3 [(34, .i y32.1), (35, .i y32.2.1), (36, .agg #[.i 4, .u 0, .u 0, .u 0, .u 0, .slice (Gp (some b34)) 1 1, .i y32.1, .i y32.2.1])] Jb0 ?_
      refine So 27 2 36 0 3 b2 0 (.agg #[.i 4, .u 0, .u 0, .u 0, .u 0, .slice (Gp (some b34)) 1 1, .i y32.1, .i y32.2.1]) [.i 4, .u 0, .u 0, .u 0, .u 0, .slice (Gp (some b34)) 1 1, .i y32.1, .i y32.2.1] p20 rfl Xd fun w21 z21 p21 => ?_
      refine Gn 1 [] Jay ?_
      obtain ⟨S22, z22, p22, f37⟩ := p21.freezeRd 0 rfl (f35.ext (z20.t z21)) (by decide)
      obtain rfl := sj h
      have p22 := (p22.dp 0).dp 1
      have p22 := (p22.fr 0).fr 1
      exact R1 Tryz.f198 (.cell 2 27) (.agg #[.i 4, .u 0, .u 0, .u 0, .u 0, .slice (Gp (some b34)) 1 1, .i y32.1, .i y32.2.1]) (Rn b2 (p22.pa 0 0)) ⟨_, _, _, _, _, rfl, (((((((((((z2.t z3).t z4).t z5).t z6).t z10).t z14).t z18).t z19).t z20).t z21).t z22), p22.drop, rfl, f37, rfl, (u3w.ext ((z20.t z21).t z22))⟩
     ·
      rw [bf h31]
      refine Gn 3 [] (Yt 1111010111111110 B198 [0, 1] Jb8) ?_
      refine Xf 27 3 13 27 ⟨b6, 0, none⟩ (vT26 y4.1 u5v y4.1.L.length u5x) (p18.pa 1 0) ?_
      refine So 27 2 13 0 2 b2 0 (ag (vT26 y4.1 u5v y4.1.L.length u5x)) (vT26 y4.1 u5v y4.1.L.length u5x) p18 rfl Xd fun w23 z23 p23 => ?_
      refine Gn 1 [] Jb8 ?_
      obtain rfl := sj h
      have p23 := p23.dp 1
      have p23 := (p23.fr 0).fr 1
      exact R1 Tryz.f198 (.cell 2 27) (ag (vT26 y4.1 u5v y4.1.L.length u5x)) (Rn b2 (p23.pa 0 0)) ⟨_, _, _, _, _, rfl, ((((((((z2.t z3).t z4).t z5).t z6).t z10).t z14).t z18).t z23), p23.drop, u5y, (u5z.ext ((((((z4.t z5).t z6).t z10).t z14).t z18).t z23)), rfl, (u7l.ext z23)⟩
 ·
  intro u7n u7o x0v r h nz wz S0 w0 Lr gx0 u2 p0 u3
  try dsimp only at h
  refine Zf Tryz.f247 B247 72 ?_
  refine Gj 73 [(0, (pt gx0 0))] fun junk => ?_
  refine Gn 2 [] (Yt 10 B247 [0] (Ys 11 B247 [])) ?_
  refine Oa 27 2 0 (.agg #[.i 0, .u 0, .u 0, .u 0, .u 0, .slice none 0 0, .i 0, .i 0]) [.i 0, .u 0, .u 0, .u 0, .u 0, .slice none 0 0, .i 0, .i 0] p0 Xa fun b2 w2 z2 p2 => ?_
  refine Gn 4 [(4, (pt gx0 0))] (Yt 110 B247 [1, 2] (Ys 111 B247 [])) ?_
  have p2 := p2.fr 1
  refine Gb h fun y4 e5 h => ?_
  refine Gc (kc 197 [4] #[132]) 5 5 197 _ (W.z0 x0v y4 e5 _ _ p2 (u3.ext z2)) ?_
  rintro _ w3 ⟨S3, u2o, rfl, z3, p3, u2p⟩
  refine Gm 9 [([3, 7], .int .u8 y4.1), ([8, 9], .bool (decide (y4.1 < 32)))] (Zr Q9k [3, 4, 5, 6, 7, 8, 9, 10, 11] J9z) ?_
  refine Gi h (fun h6 h => ?_) fun h6 h => ?_
  ·
   rw [dt h6]
   refine Gm 10 [([10, 11, 14, 15, 16], undef), ([12, 13, 17, 6], .bool true)] J9z ?_
   have p3 : Hp nz wz S3 w3 ((none, .row 27 [] (0 * kT26.size) 0) :: (some gx0, .row 135 (vT134 y4.2 u2o) 4 0) :: (some b2, .row 27 [.i 0, .u 0, .u 0, .u 0, .u 0, .slice none 0 0, .i 0, .i 0] 8 0) :: Lr) := p3.nilRow' 27
   have p3 := ((p3.fr 1).fr 1).fr 2
   exact Gj 73 [(0, (pt gx0 0)), (2, (pt b2 0)), (3, .int .u8 y4.1), (6, .bool true)] (u7o _ _ h gx0 _ _ (z2.t z3) _ none 0 0 [] _ p3 rfl (Els.nil (K := kT26)) rfl u2p)
  ·
   rw [df h6]
   refine Gm 4 [([10], .int .u8 y4.1), ([11, 12, 13], .bool (decide (y4.1 > 126)))] (Zr Q9k [7, 8, 9, 10, 11] J9z) ?_
   refine Gi h (fun h10 h => ?_) fun h10 h => ?_
   ·
    rw [dt h10]
    refine Gm 6 [([14, 15, 16], undef), ([17, 6], .bool true)] J9z ?_
    have p3 : Hp nz wz S3 w3 ((none, .row 27 [] (0 * kT26.size) 0) :: (some gx0, .row 135 (vT134 y4.2 u2o) 4 0) :: (some b2, .row 27 [.i 0, .u 0, .u 0, .u 0, .u 0, .slice none 0 0, .i 0, .i 0] 8 0) :: Lr) := p3.nilRow' 27
    have p3 := ((p3.fr 1).fr 1).fr 2
    exact Gj 73 [(0, (pt gx0 0)), (2, (pt b2 0)), (3, .int .u8 y4.1), (6, .bool true)] (u7o _ _ h gx0 _ _ (z2.t z3) _ none 0 0 [] _ p3 rfl (Els.nil (K := kT26)) rfl u2p)
   ·
    rw [df h10]
    refine Gn 1 [(14, .int .u8 y4.1)] (Zr Q9k [8, 9, 10, 11] J9z) ?_
    refine Gb h fun y12 e13 h => ?_
    refine Gc (.call { callee := .value (.func 134), args := #[(.const (.string ⟨#[93, 41, 42, 43, 63, 123, 125, 94, 36, 124]⟩)), 14], argTypes := #[9, 5] }) 15 3 134 _ (W.zi (⟨#[93, 41, 42, 43, 63, 123, 125, 94, 36, 124]⟩ : ByteArray) y4.1 y12 e13  p3 ) ?_
    rintro _ w4 ⟨S4, rfl, z4, p4⟩
    refine Gm 4 [([16, 17, 6], .bool (decide (y12 ≥ 0)))] J9z ?_
    have p4 : Hp nz wz S4 w4 ((none, .row 27 [] (0 * kT26.size) 0) :: (some gx0, .row 135 (vT134 y4.2 u2o) 4 0) :: (some b2, .row 27 [.i 0, .u 0, .u 0, .u 0, .u 0, .slice none 0 0, .i 0, .i 0] 8 0) :: Lr) := p4.nilRow' 27
    have p4 := ((p4.fr 1).fr 1).fr 2
    exact Gj 73 [(0, (pt gx0 0)), (2, (pt b2 0)), (3, .int .u8 y4.1), (6, .bool (decide (y12 ≥ 0)))] (u7o _ _ h gx0 _ _ ((z2.t z3).t z4) _ none 0 0 [] _ p4 rfl (Els.nil (K := kT26)) rfl (u2p.ext z4))
 ·
  intro u7p u7q ⟨x2v, x3, x6, e0v⟩ r h nz wz S0 w0 Lr gx0 S1 w1 hx gx2 u6o u6p u6q u6r u0 p1 u6u u6v u6w u1 junk
  try dsimp only at h
  subst u6w
  refine Gi h (fun h15 h => ?_) fun h15 h => ?_
  ·
   rw [h15]
   refine Gm 7 [([18, 19, 20], (pt gx0 0)), ([21], (pt gx0 1))] (Yt 11100100 B247 [4, 5, 6] Jbh) ?_
   refine Xb 3 21 22 3 ⟨gx0, 1, none⟩ (.i e0v.at_) (p1.c 2 1) ?_
   have p1 := p1.fr 2
   refine Gb h fun y16 e17 h => ?_
   refine Gc (kc 69 [18, 22] #[132, 3]) 23 27 69 _ (W.z2 e0v e0v.at_ y16 e17 _ _ p1 u1) ?_
   rintro _ w5 ⟨S5, u7r, u7s, u7t, u3a, rfl, z5, p5, u7u, u7v, rfl, u3c⟩
   refine So 27 2 23 0 1 gx2 0 (ag (vT26 y16.1 u7r y16.1.L.length u7t)) (vT26 y16.1 u7r y16.1.L.length u7t) p5 rfl Xd fun w6 z6 p6 => ?_
   refine Gn 1 [] Jbh ?_
   obtain rfl := sj h
   have p6 := p6.dp 2
   have p6 := (p6.fr 0).fr 1
   exact R1 Tryz.f247 (.cell 2 27) (ag (vT26 y16.1 u7r y16.1.L.length u7t)) (Rn gx2 (p6.pa 0 0)) ⟨_, _, _, _, _, rfl, ((hx.t z5).t z6), p6.drop, u7u, (u7v.ext z6), rfl, (u3c.ext z6)⟩
  ·
   have u73 := bf h15
   rw [u73]
   refine Gm 6 [([25], .int .u8 x3), ([26, 27], .bool (decide (x3 = 40)))] (Zr Q9n [3, 4, 5, 6, 7, 8, 9] Ja0) ?_
   refine Gi h (fun h18 h => ?_) fun h18 h => ?_
   ·
    rw [dt h18]
    refine Gm 3 [([28, 29], (pt gx0 0)), ([30], (pt gx0 2))] (Zr Q9n [6, 7, 8, 9] Ja0) ?_
    refine Xb 3 30 31 3 ⟨gx0, 2, none⟩ (.i e0v.deep) (p1.c 2 2) ?_
    refine Gm 4 [([32, 33, 24], .bool (decide (e0v.deep = 32)))] Ja0 ?_
    exact Gj 73 [(0, (pt gx0 0)), (2, (pt gx2 0)), (3, .int .u8 x3), (24, .bool (decide (e0v.deep = 32)))] (u7q _ _ h gx0 _ _ hx _ _ _ _ _ _ p1 u6u u6v rfl u1)
   ·
    rw [df h18]
    refine Gm 8 [([28, 29, 30, 31, 32], undef), ([33, 24], .bool false)] Ja0 ?_
    exact Gj 73 [(0, (pt gx0 0)), (2, (pt gx2 0)), (3, .int .u8 x3), (24, .bool false)] (u7q _ _ h gx0 _ _ hx _ _ _ _ _ _ p1 u6u u6v rfl u1)
 ·
  intro rec_syntax_parser_group ih_syntax_parser_group ⟨x2v, x3, x24, e0v⟩ r h nz wz S0 w0 Lr gx0 S1 w1 hx gx2 u6o u6p u6q u6r u0 p1 u6u u6v u6w u1 junk
  try dsimp only at h
  subst u6w
  refine Gi h (fun h21 h => ?_) fun h21 h => ?_
  ·
   rw [h21]
   refine Gm 7 [([34, 35, 36], (pt gx0 0)), ([37], (pt gx0 1))] (Yt 1110011100 B247 [4, 5, 6] Jbl) ?_
   refine Xb 3 37 38 3 ⟨gx0, 1, none⟩ (.i e0v.at_) (p1.c 2 1) ?_
   have p1 := p1.fr 2
   refine Gb h fun y22 e23 h => ?_
   refine Gc (kc 69 [34, 38] #[132, 3]) 39 27 69 _ (W.z2 e0v e0v.at_ y22 e23 _ _ p1 u1) ?_
   rintro _ w7 ⟨S7, u6c, u6d, u6e, u65, rfl, z7, p7, u6f, u6g, rfl, u66⟩
   refine So 27 2 39 0 1 gx2 0 (ag (vT26 y22.1 u6c y22.1.L.length u6e)) (vT26 y22.1 u6c y22.1.L.length u6e) p7 rfl Xd fun w8 z8 p8 => ?_
   refine Gn 1 [] Jbl ?_
   obtain rfl := sj h
   have p8 := p8.dp 2
   have p8 := (p8.fr 0).fr 1
   exact R1 Tryz.f247 (.cell 2 27) (ag (vT26 y22.1 u6c y22.1.L.length u6e)) (Rn gx2 (p8.pa 0 0)) ⟨_, _, _, _, _, rfl, ((hx.t z7).t z8), p8.drop, u6f, (u6g.ext z8), rfl, (u66.ext z8)⟩
  ·
   rw [bf h21]
   refine Gn 4 [(41, (pt gx0 0))] (Yt 1110011110 B247 [1, 2] Jbn) ?_
   have p1 := p1.fr 2
   refine Gb h fun y24 e25 h => ?_
   refine Gc (.call { callee := .value (.func 132), args := #[41, (.const (.int .u8 46))], argTypes := #[132, 5] }) 42 4 132 _ (W.z3 e0v 46 y24 e25 _ _ p1 u1) ?_
   rintro _ w9 ⟨S9, u6k, rfl, z9, p9, u6n⟩
   refine Gn 2 [(40, .bool y24.1)] Jbn ?_
   refine Gi h (fun h26 h => ?_) fun h26 h => ?_
   ·
    rw [h26]
    refine Gn 3 [] (Zr Q9t [0, 1, 2, 3] Jbp) ?_
    refine Gb h fun y27 e28 h => ?_
    refine Gc (.call { callee := .value (.func 274), args := #[(.const (.int .u8 10))], argTypes := #[5] }) 43 24 274 _ (W.z5 10 y27 e28  p9 ) ?_
    rintro _ w10 ⟨S10, u15, rfl, z10, p10, u16, u17⟩
    refine Gb h fun y29 e30 h => ?_
    refine Gc (kc 273 [43] #[24]) 44 24 273 _ (W.z6 y27 y29 e30 _ p10 u16 u17) ?_
    rintro _ w11 ⟨S11, u7x, rfl, z11, p11, u7y, u7z⟩
    have l31 := Xh u7y u7z rfl
    obtain rfl := els_lit4 u7y u7z
    refine Gn 1 [(45, (ag (.i 1 :: U4 y29 [.slice none 0 0, .i 0, .i 0])))] (Zr Q9t [3] Jbp) ?_
    refine So 27 2 45 0 1 gx2 0 (ag (.i 1 :: U4 y29 [.slice none 0 0, .i 0, .i 0])) (.i 1 :: U4 y29 [.slice none 0 0, .i 0, .i 0]) p11 rfl Xd fun w12 z12 p12 => ?_
    refine Gn 1 [] Jbp ?_
    obtain rfl := sj h
    have p12 := p12.dp 2
    have p12 := (p12.fr 0).fr 1
    exact R1 Tryz.f247 (.cell 2 27) (ag (.i 1 :: U4 y29 [.slice none 0 0, .i 0, .i 0])) (Rn gx2 (p12.pa 0 0)) ⟨_, _, _, _, _, rfl, ((((hx.t z9).t z10).t z11).t z12), p12.drop, l31, Xq, rfl, (u6n.ext ((z10.t z11).t z12))⟩
   ·
    rw [bf h26]
    refine Gn 4 [(47, (pt gx0 0))] (Yt 111001111110 B247 [1, 2] Jbs) ?_
    refine Gb h fun y32 e33 h => ?_
    refine Gc (.call { callee := .value (.func 132), args := #[47, (.const (.int .u8 91))], argTypes := #[132, 5] }) 48 4 132 _ (W.z3 y24.2 91 y32 e33 _ _ p9 u6n) ?_
    rintro _ w13 ⟨S13, u81, rfl, z13, p13, u82⟩
    refine Gn 2 [(46, .bool y32.1)] Jbs ?_
    refine Gi h (fun h34 h => ?_) fun h34 h => ?_
    ·
     rw [h34]
     refine Gn 4 [(49, (pt gx0 0))] (Yt 11100111111100 B247 [1, 2] Jbu) ?_
     refine Gb h fun y35 e36 h => ?_
     refine Gc (kc 275 [49] #[132]) 50 27 275 _ (W.zx y32.2 y35 e36 _ _ p13 u82) ?_
     rintro _ w14 ⟨S14, u83, u84, u85, u7h, rfl, z14, p14, u86, u87, rfl, u7i⟩
     refine So 27 2 50 0 1 gx2 0 (ag (vT26 y35.1 u83 y35.1.L.length u85)) (vT26 y35.1 u83 y35.1.L.length u85) p14 rfl Xd fun w15 z15 p15 => ?_
     refine Gn 1 [] Jbu ?_
     obtain rfl := sj h
     have p15 := p15.dp 2
     have p15 := (p15.fr 0).fr 1
     exact R1 Tryz.f247 (.cell 2 27) (ag (vT26 y35.1 u83 y35.1.L.length u85)) (Rn gx2 (p15.pa 0 0)) ⟨_, _, _, _, _, rfl, ((((hx.t z9).t z13).t z14).t z15), p15.drop, u86, (u87.ext z15), rfl, (u7i.ext z15)⟩
    ·
     rw [bf h34]
     refine Gn 4 [(52, (pt gx0 0))] (Yt 11100111111110 B247 [1, 2] Jbw) ?_
     refine Gb h fun y37 e38 h => ?_
     refine Gc (.call { callee := .value (.func 132), args := #[52, (.const (.int .u8 40))], argTypes := #[132, 5] }) 53 4 132 _ (W.z3 y32.2 40 y37 e38 _ _ p13 u82) ?_
     rintro _ w16 ⟨S16, u89, rfl, z16, p16, u8a⟩
     refine Gn 2 [(51, .bool y37.1)] Jbw ?_
     refine Gi h (fun h39 h => ?_) fun h39 h => ?_
     ·
      rw [h39]
      refine Gn 4 [(54, (pt gx0 0))] (Yt 1110011111111100 B247 [1, 2] Jby) ?_
      refine Gb h fun y40 e41 h => ?_
      refine Gc (kc 276 [54] #[132]) 55 27 276 _ (ih_syntax_parser_group y37.2 y40 e41 _ _ p16 u8a) ?_
      rintro _ w17 ⟨S17, u8b, u8c, u8d, u8e, rfl, z17, p17, u8f, u8g, rfl, u8h⟩
      refine So 27 2 55 0 1 gx2 0 (ag (vT26 y40.1 u8b y40.1.L.length u8d)) (vT26 y40.1 u8b y40.1.L.length u8d) p17 rfl Xd fun w18 z18 p18 => ?_
      refine Gn 1 [] Jby ?_
      obtain rfl := sj h
      have p18 := p18.dp 2
      have p18 := (p18.fr 0).fr 1
      exact R1 Tryz.f247 (.cell 2 27) (ag (vT26 y40.1 u8b y40.1.L.length u8d)) (Rn gx2 (p18.pa 0 0)) ⟨_, _, _, _, _, rfl, (((((hx.t z9).t z13).t z16).t z17).t z18), p18.drop, u8f, (u8g.ext z18), rfl, (u8h.ext z18)⟩
     ·
      rw [bf h39]
      refine Gn 4 [(57, (pt gx0 0))] (Yt 1110011111111110 B247 [1, 2] Jc0) ?_
      refine Gb h fun y42 e43 h => ?_
      refine Gc (.call { callee := .value (.func 132), args := #[57, (.const (.int .u8 92))], argTypes := #[132, 5] }) 58 4 132 _ (W.z3 y37.2 92 y42 e43 _ _ p16 u8a) ?_
      rintro _ w19 ⟨S19, u3t, rfl, z19, p19, u3w⟩
      refine Gn 2 [(56, .bool y42.1)] Jc0 ?_
      refine Gi h (fun h44 h => ?_) fun h44 h => ?_
      ·
       rw [h44]
       refine Gn 4 [(59, (pt gx0 0))] (Zr Qa5 [1, 2, 3, 4] Jc2) ?_
       refine Gb h fun y45 e46 h => ?_
       refine Gc (kc 277 [59] #[132]) 60 371 277 _ (W.zm y42.2 y45 e46 _ _ p19 u3w) ?_
       rintro _ w20 ⟨S20, u8j, rfl, z20, p20, u8k, u8l⟩
       refine Gn 2 [(61, (ag (U4 y45.1.set_ []))), (62, (ag (.i 1 :: U4 y45.1.set_ [.slice none 0 0, .i 0, .i 0])))] (Zr Qa5 [4] Jc2) ?_
       refine So 27 2 62 0 1 gx2 0 (ag (.i 1 :: U4 y45.1.set_ [.slice none 0 0, .i 0, .i 0])) (.i 1 :: U4 y45.1.set_ [.slice none 0 0, .i 0, .i 0]) p20 rfl Xd fun w21 z21 p21 => ?_
       refine Gn 1 [] Jc2 ?_
       obtain rfl := sj h
       have p21 := p21.dp 2
       have p21 := (p21.fr 0).fr 1
       exact R1 Tryz.f247 (.cell 2 27) (ag (.i 1 :: U4 y45.1.set_ [.slice none 0 0, .i 0, .i 0])) (Rn gx2 (p21.pa 0 0)) ⟨_, _, _, _, _, rfl, ((((((hx.t z9).t z13).t z16).t z19).t z20).t z21), p21.drop, u8k, Xq, rfl, (u8l.ext z21)⟩
      ·
       rw [bf h44]
       refine Gm 8 [([63, 64], (pt gx0 0)), ([65], (pt gx0 1))] (Zr Qa7 [3, 4, 5, 6, 7] Jc5) ?_
       refine Xb 3 65 66 3 ⟨gx0, 1, none⟩ (.i y42.2.at_) (p19.c 0 1) ?_
       refine Gn 3 [(67, .i (wr .i64 (y42.2.at_ + 1))), (68, (pt gx0 0)), (69, (pt gx0 1))] (Zr Qa7 [7] Jc5) ?_
       refine So 3 69 67 0 0 gx0 1 (.i (wr .i64 (y42.2.at_ + 1))) [.i (wr .i64 (y42.2.at_ + 1))] p19 rfl Xd fun w22 z22 p22 => ?_
       refine Gn 4 [(70, .int .u8 x3)] (Zr Qa9 [1, 2, 3] Jc8) ?_
       refine Gb h fun y47 e48 h => ?_
       refine Gc (kc 274 [70] #[5]) 71 24 274 _ (W.z5 x3 y47 e48  p22 ) ?_
       rintro _ w23 ⟨S23, u1h, rfl, z23, p23, u1i, u1j⟩
       have l49 := Xh u1i u1j rfl
       obtain rfl := els_lit4 u1i u1j
       refine Gn 1 [(72, (ag (.i 1 :: U4 y47 [.slice none 0 0, .i 0, .i 0])))] (Zr Qa9 [3] Jc8) ?_
       refine So 27 2 72 0 1 gx2 0 (ag (.i 1 :: U4 y47 [.slice none 0 0, .i 0, .i 0])) (.i 1 :: U4 y47 [.slice none 0 0, .i 0, .i 0]) p23 rfl Xd fun w24 z24 p24 => ?_
       refine Gn 1 [] Jc8 ?_
       obtain rfl := sj h
       have p24 := p24.dp 2
       have p24 := (p24.fr 0).fr 1
       exact R1 Tryz.f247 (.cell 2 27) (ag (.i 1 :: U4 y47 [.slice none 0 0, .i 0, .i 0])) (Rn gx2 (p24.pa 0 0)) ⟨_, _, _, _, _, rfl, (((((((hx.t z9).t z13).t z16).t z19).t z22).t z23).t z24), p24.drop, l49, Xq, rfl, (u3w.ext ((z22.t z23).t z24))⟩
 ·
  intro u8n u8o x0v r h nz wz S0 w0 Lr gx0 u2 p0 u3
  try dsimp only at h
  refine Zf Tryz.f276 B276 26 ?_
  refine Gj 27 [(0, (pt gx0 0))] fun junk => ?_
  refine Gn 2 [] (Yt 10 B276 [0] (Ys 11 B276 [])) ?_
  refine Oa 27 2 0 (.agg #[.i 0, .u 0, .u 0, .u 0, .u 0, .slice none 0 0, .i 0, .i 0]) [.i 0, .u 0, .u 0, .u 0, .u 0, .slice none 0 0, .i 0, .i 0] p0 Xa fun b2 w2 z2 p2 => ?_
  refine Gn 5 [(4, (pt gx0 0))] (Yt 1100 B276 [1] Jcd) ?_
  have p2 := p2.fr 1
  refine Gb h fun y4 e5 h => ?_
  refine Gc (.call { callee := .value (.func 132), args := #[4, (.const (.int .u8 63))], argTypes := #[132, 5] }) 5 4 132 _ (W.z3 x0v 63 y4 e5 _ _ p2 (u3.ext z2)) ?_
  rintro _ w3 ⟨S3, u2o, rfl, z3, p3, u2p⟩
  refine Gn 1 [] Jcd ?_
  refine Gi h (fun h6 h => ?_) fun h6 h => ?_
  ·
   rw [h6]
   refine Gn 3 [(6, (pt gx0 0))] (Yt 11010 B276 [1] Ja1) ?_
   refine Gb h fun y7 e8 h => ?_
   refine Gc (.call { callee := .value (.func 279), args := #[6, (.const (.int .u8 58))], argTypes := #[132, 5] }) 7 0 279 _ (W.zy y4.2 58 y7 e8 _ _ p3 u2p) ?_
   rintro _ w4 ⟨S4, u28, rfl, z4, p4, u2b⟩
   refine Gn 1 [] Ja1 ?_
   have p4 : Hp nz wz S4 w4 ((none, .row 27 [] (0 * kT26.size) 0) :: (some gx0, .row 135 (vT134 y7 u28) 4 0) :: (some b2, .row 27 [.i 0, .u 0, .u 0, .u 0, .u 0, .slice none 0 0, .i 0, .i 0] 8 0) :: Lr) := p4.nilRow' 27
   have p4 := ((p4.fr 1).fr 1).fr 2
   exact Gj 27 [(0, (pt gx0 0)), (2, (pt b2 0))] (u8o _ _ h gx0 _ _ ((z2.t z3).t z4) _ none 0 0 [] _ p4 rfl (Els.nil (K := kT26)) rfl u2b)
  ·
   rw [bf h6]
   refine Gn 2 [] Ja1 ?_
   have p3 : Hp nz wz S3 w3 ((none, .row 27 [] (0 * kT26.size) 0) :: (some gx0, .row 135 (vT134 y4.2 u2o) 4 0) :: (some b2, .row 27 [.i 0, .u 0, .u 0, .u 0, .u 0, .slice none 0 0, .i 0, .i 0] 8 0) :: Lr) := p3.nilRow' 27
   have p3 := ((p3.fr 1).fr 1).fr 2
   exact Gj 27 [(0, (pt gx0 0)), (2, (pt b2 0))] (u8o _ _ h gx0 _ _ (z2.t z3) _ none 0 0 [] _ p3 rfl (Els.nil (K := kT26)) rfl u2p)
 ·
  intro rec_syntax_parser_alternation ih_syntax_parser_alternation ⟨x2v, e0v⟩ r h nz wz S0 w0 Lr gx0 S1 w1 hx gx2 u6o u6p u6q u6r u0 p1 u6u u6v u6w u1 junk
  try dsimp only at h
  subst u6w
  refine Gm 5 [([8, 9], (pt gx0 0)), ([10], (pt gx0 2))] (Zr Qag [3, 4, 5, 6, 7] Jcg) ?_
  refine Xb 3 10 11 3 ⟨gx0, 2, none⟩ (.i e0v.deep) (p1.c 2 2) ?_
  refine Gn 3 [(12, .i (wr .i64 (e0v.deep + 1))), (13, (pt gx0 0)), (14, (pt gx0 2))] (Zr Qag [7] Jcg) ?_
  refine So 3 14 12 0 2 gx0 2 (.i (wr .i64 (e0v.deep + 1))) [.i (wr .i64 (e0v.deep + 1))] p1 rfl Xd fun w5 z5 p5 => ?_
  refine Gn 4 [(15, (pt gx0 0))] (Yt 11110 B276 [1, 2, 3] (Ys 11111 B276 [])) ?_
  have p5 := p5.fr 2
  refine Gb h fun y13 e14 h => ?_
  refine Gc (kc 68 [15] #[132]) 16 27 68 _ (ih_syntax_parser_alternation (⟨e0v.s, e0v.at_, wr .i64 (e0v.deep + 1), e0v.bad⟩ : T134) y13 e14 _ _ p5 (u1.ext z5)) ?_
  rintro _ w6 ⟨S6, u6x, u6y, u6z, u3y, rfl, z6, p6, u70, u71, rfl, u3z⟩
  refine Oa 27 3 0 (.agg #[.i 0, .u 0, .u 0, .u 0, .u 0, .slice none 0 0, .i 0, .i 0]) [.i 0, .u 0, .u 0, .u 0, .u 0, .slice none 0 0, .i 0, .i 0] p6 Xa fun b15 w7 z7 p7 => ?_
  refine So 27 3 16 0 0 b15 0 (ag (vT26 y13.1 u6x y13.1.L.length u6z)) (vT26 y13.1 u6x y13.1.L.length u6z) p7 rfl Xd fun w8 z8 p8 => ?_
  refine Gm 6 [([17, 18], (pt gx0 0)), ([19], (pt gx0 2))] (Zr Qak [3, 4, 5, 6, 7] Jcl) ?_
  refine Xb 3 19 20 3 ⟨gx0, 2, none⟩ (.i y13.2.deep) (p8.c 1 2) ?_
  refine Gn 3 [(21, .i (wr .i64 (y13.2.deep - 1))), (22, (pt gx0 0)), (23, (pt gx0 2))] (Zr Qak [7] Jcl) ?_
  refine So 3 23 21 0 1 gx0 2 (.i (wr .i64 (y13.2.deep - 1))) [.i (wr .i64 (y13.2.deep - 1))] p8 rfl Xd fun w9 z9 p9 => ?_
  refine Gn 4 [(24, (pt gx0 0))] (Yt 1111110 B276 [1] (Ys 1111111 B276 [])) ?_
  have p9 := p9.fr 1
  refine Gb h fun y17 e18 h => ?_
  refine Gc (.call { callee := .value (.func 279), args := #[24, (.const (.int .u8 41))], argTypes := #[132, 5] }) 25 0 279 _ (W.zy (⟨y13.2.s, y13.2.at_, wr .i64 (y13.2.deep - 1), y13.2.bad⟩ : T134) 41 y17 e18 _ _ p9 (u3z.ext ((z7.t z8).t z9))) ?_
  rintro _ w10 ⟨S10, u2u, rfl, z10, p10, u2v⟩
  refine Gn 3 [] (Yt 11111110 B276 [0, 1] Jcq) ?_
  refine Xf 27 3 26 27 ⟨b15, 0, none⟩ (vT26 y13.1 u6x y13.1.L.length u6z) (p10.pa 1 0) ?_
  refine So 27 2 26 0 2 gx2 0 (ag (vT26 y13.1 u6x y13.1.L.length u6z)) (vT26 y13.1 u6x y13.1.L.length u6z) p10 rfl Xd fun w11 z11 p11 => ?_
  refine Gn 1 [] Jcq ?_
  obtain rfl := sj h
  have p11 := (p11.dp 1).dp 2
  have p11 := (p11.fr 0).fr 1
  exact R1 Tryz.f276 (.cell 2 27) (ag (vT26 y13.1 u6x y13.1.L.length u6z)) (Rn gx2 (p11.pa 0 0)) ⟨_, _, _, _, _, rfl, (((((((hx.t z5).t z6).t z7).t z8).t z9).t z10).t z11), p11.drop, u70, (u71.ext ((((z7.t z8).t z9).t z10).t z11)), rfl, (u2v.ext z11)⟩
theorem W.z16 : ∀ a r, M.a25 a = some r → LF.z16 a r := (W.z1h).1
theorem W.z1g : ∀ a r, M.a30 a = some r → LL.z1g a r := (W.z1h).2.1
theorem W.z17 : ∀ a r, M.a2w a = some r → LF.z17 a r := (W.z1h).2.2.1
theorem W.z1b : ∀ a r, M.a2x a = some r → LL.z1b a r := (W.z1h).2.2.2.1
theorem W.z1c : ∀ a r, M.a1j a = some r → LL.z1c a r := (W.z1h).2.2.2.2.1
theorem W.z18 : ∀ a r, M.a3s a = some r → LF.z18 a r := (W.z1h).2.2.2.2.2.1
theorem W.z19 : ∀ a r, M.a3t a = some r → LF.z19 a r := (W.z1h).2.2.2.2.2.2.1
theorem W.z1d : ∀ a r, M.a26 a = some r → LL.z1d a r := (W.z1h).2.2.2.2.2.2.2.1
theorem W.z1e : ∀ a r, M.a2y a = some r → LL.z1e a r := (W.z1h).2.2.2.2.2.2.2.2.1
theorem W.z1a : ∀ a r, M.a3u a = some r → LF.z1a a r := (W.z1h).2.2.2.2.2.2.2.2.2.1
theorem W.z1f : ∀ a r, M.a2z a = some r → LL.z1f a r := (W.z1h).2.2.2.2.2.2.2.2.2.2
def Jcs := Ys 1111111 B25 []
def Jct := Ys 11111101 B25 Jcs
def Jcw := Ys 11111111 B25 []
def Post.z1i (r : T26 × Int × Int) (v : Value) (w' : World) : Prop :=
 ∃ S' u8p u8q u8r, v = .tuple #[(ag (vT26 r.1 u8p u8q u8r)), .i r.2.1, .i r.2.2] ∧ Ext S0 w0 S' w' ∧ Hp nz wz S' w' (Lr) ∧ r.1.Set.length = 4 ∧ Rd kT26 S' w' u8p u8r r.1.L ∧ r.1.L.length = u8q
def L.z1j : T26 × T134 × T26 × Bool → (T26 × Int × Int) → Prop := fun ⟨x2v, x5v, x6v, x40⟩ r => ∀ S1 w1, Ext S0 w0 S1 w1 → ∀ gx2 u6o u6p u6q u6r gx5 u8s gx6 u8t u8u u8v (_ : Hp nz wz S1 w1 ((some gx2, .row 27 (vT26 x2v (Gp u6o) u6p u6q) 8 0) :: (u6o, .row 27 u6r (u6q * kT26.size) 0) :: (some gx5, .row 135 (vT134 x5v u8s) 4 0) :: (some gx6, .row 27 (vT26 x6v u8t u8u u8v) 8 0) :: Lr)) (_ : x2v.Set.length = 4) (_ : Els kT26 S1 w1 u6r x2v.L) (_ : x2v.L.length = u6p) (_ : PtO kT138 S1 w1 u8s x5v.bad) (_ : x6v.Set.length = 4) (_ : Rd kT26 S1 w1 u8t u8v x6v.L) (_ : x6v.L.length = u8u) (junk : Nat → Value),
 Goes Tg (base 25) Jct ⟨lfr 50 [(2, (pt gx2 0)), (5, (pt gx5 0)), (6, (pt gx6 0)), (40, .bool x40)] junk, []⟩ w1 (Done Tg 25 (Rets (Post.z1i nz wz S0 w0 Lr r)))
theorem W.z1j {nz wz S0 w0 Lr} : ∀ a r, M.a5r a = some r → L.z1j nz wz S0 w0 Lr a r := by
 intro ⟨x2v, x5v, x6v, x40⟩ r h S1 w1 hx gx2 u6o u6p u6q u6r gx5 u8s gx6 u8t u8u u8v p1 u6u u6v u6w u8w u8x u8y u8z junk
 rw [M.a5r] at h
 try dsimp only at h
 subst u6w
 subst u8z
 refine Gi h (fun h41 h => ?_) fun h41 h => ?_
 ·
  rw [h41]
  refine Gn 2 [] (Ys 1111110100 B25 (Ys 1111110101 B25 Jcs)) ?_
  have z9 : Ext S1 w1 S1 (w1).drew := Xm
  have p9 := p1.draw
  refine Gd [] (Fc S1 (w1).drew [(⟨gx5, 3, none⟩, u8s)]) 8 11 ?_
  generalize (w1).drew = w9 at z9 p9 ⊢
  refine Xe 0 (.build 27 #[]) 41 27 (.agg #[.i 0, .u 0, .u 0, .u 0, .u 0, .slice none 0 0, .i 0, .i 0]) (p9.k [(2, 3, 1)]) ?_
  refine Xe 1 (.move 5) 42 132 ((pt gx5 0)) (p9.k [(2, 3, 1)]) ?_
  refine Xe 2 (.nilCheck 42) 43 0 ((pt gx5 0)) (p9.k [(2, 3, 1)]) ?_
  refine Xe 3 (.fieldAddr 135 43 3) 44 0 ((pt gx5 3)) (p9.k [(2, 3, 1)]) ?_
  refine Al 4 133 44 45 133 ⟨gx5, 3, none⟩ (u8s) (p9.k [(2, 3, 1)]) (fun _ h => h.2.at_ 0 rfl) ?_
  refine Gl h fun v48 h42 h => ?_
  rcases v48 with _ | y43
  ·
   try dsimp only at h
   obtain rfl := PtO.nil (u8w.ext z9) h42
   cases h
  ·
   try dsimp only at h
   obtain ⟨a45, _, rfl, -, f46, q47⟩ := PtO.got (u8w.ext z9) h42
   obtain rfl := q47
   refine Xe 5 (.nilCheck 45) 46 0 (.pointer (some a45)) (p9.k [(2, 3, 1)]) ?_
   refine Xe 6 (.fieldAddr 139 46 0) 47 0 (.pointer (some (Addr.add a45 0))) (p9.k [(2, 3, 1)]) ?_
   refine Al 7 3 47 48 3 (Addr.add a45 0) (.i y43.at_) (p9.k [(2, 3, 1)]) (fun _ h => (Cs.left (us := [.i y43.at_]) (vs := []) (Cs.add (us := []) (vs := [.i y43.at_]) f46)).fc h 0 _ rfl) ?_
   refine So 27 2 41 0 0 gx2 0 (.agg #[.i 0, .u 0, .u 0, .u 0, .u 0, .slice none 0 0, .i 0, .i 0]) [.i 0, .u 0, .u 0, .u 0, .u 0, .slice none 0 0, .i 0, .i 0] p9 rfl (As 8) fun w10 z10 p10 => ?_
   refine Xl z10 ⟨(p10.c 2 3), trivial⟩ ?_
   refine Xe 9 (.assign 48) 3 3 (.i y43.at_) (p10.k [(2, 3, 1)]) ?_
   refine Xe 10 (.assign (.const (.int .i64 100))) 4 34 (.i 100) (p10.k [(2, 3, 1)]) ?_
   refine Ad ?_
   have p10 := ((p10.dp 1).dp 1).dp 1
   obtain rfl := sj h
   exact R3 Tryz.f25 (.cell 2 27) 3 4 (.tuple #[.agg #[.i 0, .u 0, .u 0, .u 0, .u 0, .slice none 0 0, .i 0, .i 0], .i y43.at_, .i 100]) (Rn gx2 (p10.pa 0 0)) Rt Rt ⟨_, _, _, _, rfl, ((hx.t z9).t z10), p10.drop, rfl, Xq, rfl⟩
 ·
  rw [bf h41]
  refine Gn 4 [] (Yt 11111110 B25 [0, 1, 2, 3] Jcw) ?_
  refine Xf 27 6 49 27 ⟨gx6, 0, none⟩ (vT26 x6v u8t x6v.L.length u8v) (p1.pa 3 0) ?_
  refine So 27 2 49 0 0 gx2 0 (ag (vT26 x6v u8t x6v.L.length u8v)) (vT26 x6v u8t x6v.L.length u8v) p1 rfl Xd fun w11 z11 p11 => ?_
  refine Gm 3 [([3, 4], .i 0)] Jcw ?_
  obtain rfl := sj h
  have p11 := ((p11.dp 1).dp 1).dp 1
  exact R3 Tryz.f25 (.cell 2 27) 3 4 (.tuple #[(ag (vT26 x6v u8t x6v.L.length u8v)), .i 0, .i 0]) (Rn gx2 (p11.pa 0 0)) Rt Rt ⟨_, _, _, _, rfl, (hx.t z11), p11.drop, u8x, (u8y.ext z11), rfl⟩
def Jcy := Ys 111111 B25 []
def L.z1k : T26 × T134 × T26 → (T26 × Int × Int) → Prop := fun ⟨x2v, x5v, x6v⟩ r => ∀ S1 w1, Ext S0 w0 S1 w1 → ∀ gx2 u6o u6p u6q u6r gx5 u8s gx6 u8t u8u u8v (_ : Hp nz wz S1 w1 ((some gx2, .row 27 (vT26 x2v (Gp u6o) u6p u6q) 8 0) :: (u6o, .row 27 u6r (u6q * kT26.size) 0) :: (some gx5, .row 135 (vT134 x5v u8s) 4 0) :: (some gx6, .row 27 (vT26 x6v u8t u8u u8v) 8 0) :: Lr)) (_ : x2v.Set.length = 4) (_ : Els kT26 S1 w1 u6r x2v.L) (_ : x2v.L.length = u6p) (_ : PtO kT138 S1 w1 u8s x5v.bad) (_ : x6v.Set.length = 4) (_ : Rd kT26 S1 w1 u8t u8v x6v.L) (_ : x6v.L.length = u8u) (junk : Nat → Value),
 Goes Tg (base 25) Jcy ⟨lfr 50 [(2, (pt gx2 0)), (5, (pt gx5 0)), (6, (pt gx6 0))] junk, []⟩ w1 (Done Tg 25 (Rets (Post.z1i nz wz S0 w0 Lr r)))
theorem W.z1k {nz wz S0 w0 Lr} : ∀ a r, M.a5s a = some r → L.z1k nz wz S0 w0 Lr a r := by
 intro ⟨x2v, x5v, x6v⟩ r h S1 w1 hx gx2 u6o u6p u6q u6r gx5 u8s gx6 u8t u8u u8v p1 u6u u6v u6w u8w u8x u8y u8z junk
 rw [M.a5s] at h
 try dsimp only at h
 subst u6w
 subst u8z
 refine Gm 6 [([36, 37], (pt gx5 0)), ([38], (pt gx5 3))] (Yt 11111100 B25 [3, 4] Jct) ?_
 refine Xb 133 38 39 133 ⟨gx5, 3, none⟩ (u8s) (p1.c 2 3) ?_
 refine Gl h fun v40 h30 h => ?_
 rcases v40 with _ | y31
 ·
  try dsimp only at h
  obtain rfl := PtO.nil u8w h30
  refine Gn 2 [(40, .bool false)] Jct ?_
  exact Gj 50 [(2, (pt gx2 0)), (5, (pt gx5 0)), (6, (pt gx6 0)), (40, .bool false)] (W.z1j _ _ h _ _ hx _ _ _ _ _ _ (.pointer none) _ _ _ _ p1 u6u u6v rfl rfl u8x u8y rfl)
 ·
  try dsimp only at h
  obtain ⟨a33, _, rfl, -, f34, q35⟩ := PtO.got u8w h30
  obtain rfl := q35
  refine Gn 2 [(40, .bool true)] Jct ?_
  exact Gj 50 [(2, (pt gx2 0)), (5, (pt gx5 0)), (6, (pt gx6 0)), (40, .bool true)] (W.z1j _ _ h _ _ hx _ _ _ _ _ _ _ _ _ _ _ p1 u6u u6v rfl ⟨_, _, rfl, List.cons_ne_nil _ _, f34, rfl⟩ u8x u8y rfl)
def Jd0 := Ys 1111101 B25 Jcy
def L.z1l : T26 × T134 × T26 × Bool → (T26 × Int × Int) → Prop := fun ⟨x2v, x5v, x6v, x29⟩ r => ∀ S1 w1, Ext S0 w0 S1 w1 → ∀ gx2 u6o u6p u6q u6r gx5 u8s gx6 u8t u8u u8v (_ : Hp nz wz S1 w1 ((some gx2, .row 27 (vT26 x2v (Gp u6o) u6p u6q) 8 0) :: (u6o, .row 27 u6r (u6q * kT26.size) 0) :: (some gx5, .row 135 (vT134 x5v u8s) 4 0) :: (some gx6, .row 27 (vT26 x6v u8t u8u u8v) 8 0) :: Lr)) (_ : x2v.Set.length = 4) (_ : Els kT26 S1 w1 u6r x2v.L) (_ : x2v.L.length = u6p) (_ : PtO kT138 S1 w1 u8s x5v.bad) (_ : x6v.Set.length = 4) (_ : Rd kT26 S1 w1 u8t u8v x6v.L) (_ : x6v.L.length = u8u) (junk : Nat → Value),
 Goes Tg (base 25) Jd0 ⟨lfr 50 [(2, (pt gx2 0)), (5, (pt gx5 0)), (6, (pt gx6 0)), (29, .bool x29)] junk, []⟩ w1 (Done Tg 25 (Rets (Post.z1i nz wz S0 w0 Lr r)))
theorem W.z1l {nz wz S0 w0 Lr} : ∀ a r, M.a3v a = some r → L.z1l nz wz S0 w0 Lr a r := by
 intro ⟨x2v, x5v, x6v, x29⟩ r h S1 w1 hx gx2 u6o u6p u6q u6r gx5 u8s gx6 u8t u8u u8v p1 u6u u6v u6w u8w u8x u8y u8z junk
 rw [M.a3v] at h
 try dsimp only at h
 subst u6w
 subst u8z
 refine Gi h (fun h23 h => ?_) fun h23 h => ?_
 ·
  rw [h23]
  refine Gm 6 [([30, 31, 32], (pt gx5 0)), ([33], (pt gx5 1))] (Yt 11111010 B25 [4, 5] Jcy) ?_
  refine Xb 3 33 34 3 ⟨gx5, 1, none⟩ (.i x5v.at_) (p1.c 2 1) ?_
  have p1 := p1.fr 2
  refine Gb h fun y24 e25 h => ?_
  refine Gc (kc 69 [30, 34] #[132, 3]) 35 27 69 _ (W.z2 x5v x5v.at_ y24 e25 _ _ p1 u8w) ?_
  rintro _ w8 ⟨S8, u31, u32, u33, u34, rfl, z8, p8, u35, u36, rfl, u37⟩
  refine Gn 1 [] Jcy ?_
  have p8 := (((p8.fr 3).fr 1).fr 3).fr 3
  exact Gj 50 [(2, (pt gx2 0)), (5, (pt gx5 0)), (6, (pt gx6 0))] (W.z1k _ _ h _ _ (hx.t z8) _ _ _ _ _ _ _ _ _ _ _ p8 u6u (u6v.ext z8) rfl u37 u8x (u8y.ext z8) rfl)
 ·
  rw [bf h23]
  refine Gn 2 [] Jcy ?_
  exact Gj 50 [(2, (pt gx2 0)), (5, (pt gx5 0)), (6, (pt gx6 0))] (W.z1k _ _ h _ _ hx _ _ _ _ _ _ _ _ _ _ _ p1 u6u u6v rfl u8w u8x u8y rfl)
def Jd4 := Ys 111 B25 []
def Jd6 := Ys 110101 B25 Jd4
def Qb9 := Yq 1111100 B25
theorem W.z1i (x0 : ByteArray) (r : T26 × Int × Int) (h : M.a4p x0 = some r) {nz wz S0 w0 Lr} (p0 : Hp nz wz S0 w0 (Lr)) :
  Calls Tg 25 #[.string x0] w0 (Rets (Post.z1i nz wz S0 w0 Lr r)) := by
 refine Zf Tryz.f25 B25 49 ?_
 refine Gj 50 [(0, .string x0)] fun junk => ?_
 delta M.a4p at h
 refine Gn 2 [] (Yt 10 B25 [0, 1, 2] (Ys 11 B25 [])) ?_
 refine Oa 27 2 0 (.agg #[.i 0, .u 0, .u 0, .u 0, .u 0, .slice none 0 0, .i 0, .i 0]) [.i 0, .u 0, .u 0, .u 0, .u 0, .slice none 0 0, .i 0, .i 0] p0 Xa fun b1 w2 z2 p2 => ?_
 refine Gn 10 [(3, .i 0), (4, .i 0), (7, .string x0), (8, .i (x0.size : Int)), (9, .bool (decide ((x0.size : Int) > 256)))] (Ys 1101 B25 Jd4) ?_
 refine Gi h (fun h3 h => ?_) fun h3 h => ?_
 ·
  rw [dt h3]
  refine Gn 4 [(10, .agg #[.i 0, .u 0, .u 0, .u 0, .u 0, .slice none 0 0, .i 0, .i 0])] (Yt 110100 B25 [1, 2, 3] Jd6) ?_
  refine So 27 2 10 0 0 b1 0 (.agg #[.i 0, .u 0, .u 0, .u 0, .u 0, .slice none 0 0, .i 0, .i 0]) [.i 0, .u 0, .u 0, .u 0, .u 0, .slice none 0 0, .i 0, .i 0] p2 rfl Xd fun w3 z3 p3 => ?_
  refine Gn 3 [(3, .i 0), (4, .i 3)] Jd6 ?_
  obtain rfl := sj h
  exact R3 Tryz.f25 (.cell 2 27) 3 4 (.tuple #[.agg #[.i 0, .u 0, .u 0, .u 0, .u 0, .slice none 0 0, .i 0, .i 0], .i 0, .i 3]) (Rn b1 (p3.pa 0 0)) Rt Rt ⟨_, _, _, _, rfl, (z2.t z3), p3.drop, rfl, Xq, rfl⟩
 ·
  rw [df h3]
  refine Gn 6 [(11, .string x0), (12, .agg #[.string x0, .i 0, .i 0, .pointer none])] (Yt 1110 B25 [2, 3] (Ys 1111 B25 [])) ?_
  refine Ob 135 12 13 132 (.agg #[.string x0, .i 0, .i 0, .pointer none]) [.string x0, .i 0, .i 0, .pointer none] p2 Xa fun b4 w4 z4 p4 => ?_
  refine Gm 5 [([5, 14], (pt b4 0))] (Yt 11110 B25 [1, 2, 3] (Ys 11111 B25 [])) ?_
  refine Gb h fun y6 e7 h => ?_
  refine Gc (kc 68 [14] #[132]) 15 27 68 _ (W.z16 (⟨x0, 0, 0, none⟩ : T134) y6 e7 _ (.pointer none) p4 rfl) ?_
  rintro _ w5 ⟨S5, u7r, u7s, u7t, u3a, rfl, z5, p5, u7u, u7v, rfl, u3c⟩
  refine Oa 27 6 0 (.agg #[.i 0, .u 0, .u 0, .u 0, .u 0, .slice none 0 0, .i 0, .i 0]) [.i 0, .u 0, .u 0, .u 0, .u 0, .slice none 0 0, .i 0, .i 0] p5 Xa fun b8 w6 z6 p6 => ?_
  refine So 27 6 15 0 0 b8 0 (ag (vT26 y6.1 u7r y6.1.L.length u7t)) (vT26 y6.1 u7r y6.1.L.length u7t) p6 rfl Xd fun w7 z7 p7 => ?_
  refine Gm 7 [([16, 17], (pt b4 0)), ([18], (pt b4 3))] (Zr Qb9 [3, 4, 5, 6, 7, 8, 9, 10, 11, 12, 13] Jd0) ?_
  refine Xb 133 18 19 133 ⟨b4, 3, none⟩ (u3a) (p7.c 1 3) ?_
  refine Gl h fun v22 h10 h => ?_
  rcases v22 with _ | y11
  ·
   try dsimp only at h
   obtain rfl := PtO.nil (u3c.ext (z6.t z7)) h10
   refine Gm 5 [([20, 21], .bool true), ([22, 23], (pt b4 0)), ([24], (pt b4 1))] (Zr Qb9 [9, 10, 11, 12, 13] Jd0) ?_
   refine Xb 3 24 25 3 ⟨b4, 1, none⟩ (.i y6.2.at_) (p7.c 1 1) ?_
   refine Gm 5 [([26], .string x0), ([27], .i (x0.size : Int)), ([28, 29], .bool (decide (y6.2.at_ < (x0.size : Int))))] Jd0 ?_
   have p7 : Hp nz wz S5 w7 ((none, .row 27 [] (0 * kT26.size) 0) :: (some b8, .row 27 (vT26 y6.1 u7r y6.1.L.length u7t) 8 0) :: (some b4, .row 135 [.string y6.2.s, .i y6.2.at_, .i y6.2.deep, .pointer none] 4 0) :: (some b1, .row 27 [.i 0, .u 0, .u 0, .u 0, .u 0, .slice none 0 0, .i 0, .i 0] 8 0) :: Lr) := p7.nilRow' 27
   have p7 := (((p7.fr 1).fr 2).fr 2).fr 3
   exact Gj 50 [(2, (pt b1 0)), (5, (pt b4 0)), (6, (pt b8 0)), (29, .bool (decide (y6.2.at_ < (x0.size : Int))))] (W.z1l _ _ h _ _ ((((z2.t z4).t z5).t z6).t z7) _ none 0 0 [] _ (.pointer none) _ _ _ _ p7 rfl (Els.nil (K := kT26)) rfl rfl u7u (u7v.ext (z6.t z7)) rfl)
  ·
   try dsimp only at h
   obtain ⟨a13, _, rfl, -, f14, q15⟩ := PtO.got (u3c.ext (z6.t z7)) h10
   obtain rfl := q15
   refine Gm 11 [([20, 21, 29], .bool false), ([22, 23, 24, 25, 26, 27, 28], undef)] Jd0 ?_
   have p7 : Hp nz wz S5 w7 ((none, .row 27 [] (0 * kT26.size) 0) :: (some b8, .row 27 (vT26 y6.1 u7r y6.1.L.length u7t) 8 0) :: (some b4, .row 135 [.string y6.2.s, .i y6.2.at_, .i y6.2.deep, .pointer (some a13)] 4 0) :: (some b1, .row 27 [.i 0, .u 0, .u 0, .u 0, .u 0, .slice none 0 0, .i 0, .i 0] 8 0) :: Lr) := p7.nilRow' 27
   have p7 := (((p7.fr 1).fr 2).fr 2).fr 3
   exact Gj 50 [(2, (pt b1 0)), (5, (pt b4 0)), (6, (pt b8 0)), (29, .bool false)] (W.z1l _ _ h _ _ ((((z2.t z4).t z5).t z6).t z7) _ none 0 0 [] _ _ _ _ _ _ p7 rfl (Els.nil (K := kT26)) rfl ⟨_, _, rfl, List.cons_ne_nil _ _, f14, rfl⟩ u7u (u7v.ext (z6.t z7)) rfl)
def Jde := Ys 1111 B179 []
def Jdf := Ys 11101 B179 Jde
def Jdg := Ys 11111 B179 []
def Qbd := Yq 11110100 B179
def Jdi := Zl Qbd (Zb 0 Jdg)
def Jdj := Zc Qbd Jdi
def Jdm := Ys 111 B179 []
def Qbh := Yq 110 B179
def Qbi := Yq 11100 B179
def Jdx := Zb 1 (Ys 11110100111 B179 Jdi)
def Je0 := Ys 11110100110011 B179 Jdx
def Qbs := Yq 11110100110010 B179
def Post.z1m (gx2 : Nat) (r : Bool × Int) (v : Value) (w' : World) : Prop :=
 ∃ S', v = .bool r.1 ∧ Ext S0 w0 S' w' ∧ Hp nz wz S' w' ((some gx2, .row 3 [.i r.2] 1 0) :: Lr)
def LF.z1m : T26 × Int × Int → (Bool × Int) → Prop := fun ⟨x0, x1, ua⟩ r => ∀ {nz wz S0 w0 Lr} u92 u93 u94 gx2 (_ : Hp nz wz S0 w0 ((some gx2, .row 3 [.i ua] 1 0) :: Lr)) (_ : x0.Set.length = 4) (_ : Rd kT26 S0 w0 u92 u94 x0.L) (_ : x0.L.length = u93),
 Calls Tg 179 #[(ag (vT26 x0 u92 u93 u94)), .i x1, (pt gx2 0)] w0 (Rets (Post.z1m nz wz S0 w0 Lr gx2 r))
def L.z1n (gx2 : Nat) : Int × T26 × Bool × Int → (Bool × Int) → Prop := fun ⟨x1, x3v, x21, u95⟩ r => ∀ S1 w1, Ext S0 w0 S1 w1 → ∀ gx3 u96 u97 u98 (_ : Hp nz wz S1 w1 ((some gx3, .row 27 (vT26 x3v u96 u97 u98) 8 0) :: (some gx2, .row 3 [.i u95] 1 0) :: Lr)) (_ : x3v.Set.length = 4) (_ : Rd kT26 S1 w1 u96 u98 x3v.L) (_ : x3v.L.length = u97) (junk : Nat → Value),
 Goes Tg (base 179) Jdf ⟨lfr 36 [(1, .i x1), (2, (pt gx2 0)), (3, (pt gx3 0)), (21, .bool x21)] junk, []⟩ w1 (Done Tg 179 (Rets (Post.z1m nz wz S0 w0 Lr gx2 r)))
def LL.z1n : Int × T26 × Bool × Int → (Bool × Int) → Prop := fun a r => ∀ {nz wz S0 w0 Lr} (gx2 : Nat), L.z1n nz wz S0 w0 Lr gx2 a r
def L.z1o (gx2 : Nat) : Int × (List T26) × Int × Int × Int → (Bool × Int) → Prop := fun ⟨x1, x23, x24, x25, u95⟩ r => ∀ S1 w1, Ext S0 w0 S1 w1 → ∀ u99 u9a u9b (_ : Hp nz wz S1 w1 ((some gx2, .row 3 [.i u95] 1 0) :: Lr)) (_ : Rd kT26 S1 w1 u99 u9b x23) (_ : x23.length = u9a) (junk : Nat → Value),
 Goes Tg (base 179) Jdj ⟨lfr 36 [(1, .i x1), (2, (pt gx2 0)), (23, .slice u99 u9a u9b), (24, .i x24), (25, .i x25)] junk, []⟩ w1 (Done Tg 179 (Rets (Post.z1m nz wz S0 w0 Lr gx2 r)))
def LL.z1o : Int × (List T26) × Int × Int × Int → (Bool × Int) → Prop := fun a r => ∀ {nz wz S0 w0 Lr} (gx2 : Nat), L.z1o nz wz S0 w0 Lr gx2 a r
theorem W.z1p : (∀ a r, M.a7 a = some r → LF.z1m a r) ∧ (∀ a r, M.a1k a = some r → LL.z1n a r) ∧ (∀ a r, M.as a = some r → LL.z1o a r) := by
 refine M.a7.mutual_partial_correctness LF.z1m LL.z1n LL.z1o ?_ ?_ ?_
 ·
  intro u9c u9d ⟨x0, x1, ua⟩ r h nz wz S0 w0 Lr u92 u93 u94 gx2 p0 u9e u9f u9g
  try dsimp only at h
  subst u9g
  refine Zf Tryz.f179 B179 33 ?_
  refine Gj 36 [(0, (ag (vT26 x0 u92 x0.L.length u94))), (1, .i x1), (2, (pt gx2 0))] fun junk => ?_
  refine Gn 2 [] (Yt 10 B179 [0, 1] (Ys 11 B179 [])) ?_
  refine Ob 27 0 3 0 (ag (vT26 x0 u92 x0.L.length u94)) (vT26 x0 u92 x0.L.length u94) p0 Xa fun b2 w2 z2 p2 => ?_
  refine Gm 6 [([6], .bool false), ([9, 10], (pt gx2 0))] (Zr Qbh [2, 3, 4, 5] Jdm) ?_
  refine Xb 3 10 11 3 ⟨gx2, 0, none⟩ (.i ua) (p2.c 1 0) ?_
  refine Gn 2 [(12, .i (wr .i64 (ua + 1))), (13, (pt gx2 0))] (Zr Qbh [5] Jdm) ?_
  refine So 3 13 12 0 1 gx2 0 (.i (wr .i64 (ua + 1))) [.i (wr .i64 (ua + 1))] p2 rfl Xd fun w3 z3 p3 => ?_
  refine Gm 7 [([14], .i x1), ([15, 16], .bool (decide (x1 = 0)))] (Zr Qbi [3, 4, 5, 6, 7] Jdf) ?_
  refine Gi h (fun h4 h => ?_) fun h4 h => ?_
  ·
   rw [dt h4]
   refine Gm 6 [([17, 18, 19, 20], undef), ([21], .bool true)] Jdf ?_
   exact Gj 36 [(1, .i x1), (2, (pt gx2 0)), (3, (pt b2 0)), (21, .bool true)] (u9d _ _ h gx2 _ _ (z2.t z3) _ _ _ _ p3 u9e (u9f.ext (z2.t z3)) rfl)
  ·
   rw [df h4]
   refine Gm 2 [([17, 18], (pt gx2 0))] (Zr Qbi [5, 6, 7] Jdf) ?_
   refine Xb 3 18 19 3 ⟨gx2, 0, none⟩ (.i (wr .i64 (ua + 1))) (p3.c 1 0) ?_
   refine Gm 3 [([20, 21], .bool (decide (wr .i64 (ua + 1) > 4096)))] Jdf ?_
   exact Gj 36 [(1, .i x1), (2, (pt gx2 0)), (3, (pt b2 0)), (21, .bool (decide (wr .i64 (ua + 1) > 4096)))] (u9d _ _ h gx2 _ _ (z2.t z3) _ _ _ _ p3 u9e (u9f.ext (z2.t z3)) rfl)
 ·
  intro u9h u9i ⟨x1, x3v, x21, u95⟩ r h nz wz S0 w0 Lr gx2 S1 w1 hx gx3 u96 u97 u98 p1 u9j u9k u9l junk
  try dsimp only at h
  subst u9l
  refine Gi h (fun h6 h => ?_) fun h6 h => ?_
  ·
   rw [h6]
   refine Gn 5 [(6, .bool false)] (Ys 1110101 B179 Jde) ?_
   obtain rfl := sj h
   have p1 := p1.dp 0
   exact Xc Tryz.f179 (.bool false) ⟨_, rfl, hx, p1⟩
  ·
   rw [bf h6]
   refine Gn 6 [(22, (pt gx3 5))] (Yt 111100 B179 [1, 2, 3] (Ys 111101 B179 Jdg)) ?_
   refine Xb 25 22 23 25 ⟨gx3, 5, none⟩ (.slice u96 x3v.L.length u98) (p1.c 0 5) ?_
   refine Gn 5 [(24, .i (x3v.L.length : Int)), (25, .i 0)] Jdj ?_
   have p1 := p1.dp 0
   exact Gj 36 [(1, .i x1), (2, (pt gx2 0)), (23, .slice u96 x3v.L.length u98), (24, .i (x3v.L.length : Int)), (25, .i 0)] (u9i _ _ h gx2 _ _ hx _ _ _ p1 u9k rfl)
 ·
  intro rec_syntax_count u9h ih_syntax_count u9i ⟨x1, x23, x24, x25, u95⟩ r h nz wz S0 w0 Lr gx2 S1 w1 hx u99 u9a u9b p1 u9m u9n junk
  try dsimp only at h
  subst u9n
  refine Gn 5 [(26, .bool (decide (x25 < x24)))] (Ys 1111010010 B179 (Ys 1111010011 B179 Jdi)) ?_
  refine Gi h (fun h7 h => ?_) fun h7 h => ?_
  ·
   rw [dt h7]
   refine Gn 6 [] (Yt 1111010011000 B179 [0, 1, 2, 3] (Ys 1111010011001 B179 Jdx)) ?_
   refine Gg h fun g8 h => ?_
   refine Gg h fun g9 h => ?_
   refine Oi 25 23 25 27 0 27 .i64 x25 (gi x23 x25) rfl rfl u9m Xa g8 g9 fun a10 _ f11 q12 => ?_
   have q13 := q12
   obtain ⟨_, _, rfl, rfl, ⟨_, _, rfl, ⟨l14, f15⟩, ⟨_, _, rfl, ⟨A16, c17, rfl, f18⟩, ⟨_, _, rfl, rfl, rfl⟩⟩⟩⟩ := kT26_open q13
   obtain rfl := els_lit4' f15 l14
   refine Xf 27 27 28 27 a10 ([.i ((gi x23 x25).Kind)] ++ ((U4 ((gi x23 x25).Set) []) ++ ([.slice A16 (((gi x23 x25).L).length) c17] ++ ([.i ((gi x23 x25).Min)] ++ [.i ((gi x23 x25).Max)])))) (f11.cell) ?_
   refine Oa 27 8 0 (.agg #[.i 0, .u 0, .u 0, .u 0, .u 0, .slice none 0 0, .i 0, .i 0]) [.i 0, .u 0, .u 0, .u 0, .u 0, .slice none 0 0, .i 0, .i 0] p1 Xa fun b19 w4 z4 p4 => ?_
   refine So 27 8 28 0 0 b19 0 (ag (.i ((gi x23 x25).Kind) :: U4 ((gi x23 x25).Set) [.slice A16 (((gi x23 x25).L).length) c17, .i ((gi x23 x25).Min), .i ((gi x23 x25).Max)])) (.i ((gi x23 x25).Kind) :: U4 ((gi x23 x25).Set) [.slice A16 (((gi x23 x25).L).length) c17, .i ((gi x23 x25).Min), .i ((gi x23 x25).Max)]) p4 rfl Xd fun w5 z5 p5 => ?_
   refine Gn 3 [] (Zr Qbs [0, 1, 2, 3, 4, 5] Je0) ?_
   refine Xf 27 8 29 27 ⟨b19, 0, none⟩ (.i ((gi x23 x25).Kind) :: U4 ((gi x23 x25).Set) [.slice A16 (((gi x23 x25).L).length) c17, .i ((gi x23 x25).Min), .i ((gi x23 x25).Max)]) (p5.pa 0 0) ?_
   refine Gn 3 [(30, .i x1), (31, .i (wr .i64 (x1 - 1))), (32, (pt gx2 0))] (Zr Qbs [4, 5] Je0) ?_
   have p5 := p5.fr 1
   refine Gb h fun y21 e22 h => ?_
   refine Gc (kc 179 [29, 31, 32] #[27, 3, 33]) 33 4 179 _ (ih_syntax_count ((⟨(gi x23 x25).Kind, ((gi x23 x25).Set), (gi x23 x25).L, (gi x23 x25).Min, (gi x23 x25).Max⟩ : T26), wr .i64 (x1 - 1), u95) y21 e22 _ _ _ _ p5 l14 (f18.ext (z4.t z5)) rfl) ?_
   rintro _ w6 ⟨S6, rfl, z6, p6⟩
   have p6 := p6.dp 1
   refine Gn 2 [(34, .bool (!y21.1))] Je0 ?_
   refine Gi h (fun h23 h => ?_) fun h23 h => ?_
   ·
    rw [h23]
    refine Gm 8 [([35, 25], .i (wr .i64 (x25 + 1)))] Jdj ?_
    exact Gj 36 [(1, .i x1), (2, (pt gx2 0)), (23, .slice u99 x23.length u9b), (24, .i x24), (25, .i (wr .i64 (x25 + 1)))] (u9i _ _ h gx2 _ _ (((hx.t z4).t z5).t z6) _ _ _ p6 (u9m.ext ((z4.t z5).t z6)) rfl)
   ·
    rw [bf h23]
    refine Gn 5 [(6, .bool false)] (Ys 1111010011001101 B179 Jdx) ?_
    obtain rfl := sj h
    exact Xc Tryz.f179 (.bool false) ⟨_, rfl, (((hx.t z4).t z5).t z6), p6⟩
  ·
   rw [df h7]
   refine Gn 6 [(6, .bool true)] (Ys 111111 B179 []) ?_
   obtain rfl := sj h
   exact Xc Tryz.f179 (.bool true) ⟨_, rfl, hx, p1⟩
theorem W.z1m : ∀ a r, M.a7 a = some r → LF.z1m a r := (W.z1p).1
theorem W.z1n : ∀ a r, M.a1k a = some r → LL.z1n a r := (W.z1p).2.1
theorem W.z1o : ∀ a r, M.as a = some r → LL.z1o a r := (W.z1p).2.2
def Je5 := Ys 11111 B230 []
def Je6 := Zb 0 Je5
def Je7 := Ys 111101011111011 B230 Je6
def Je8 := Ys 1111010111110111 B230 Je6
def Qby := Yq 1111010111110110 B230
def Post.z1q (r : Bool) (v : Value) (w' : World) : Prop :=
 ∃ S', v = .bool r ∧ Ext S0 w0 S' w' ∧ Hp nz wz S' w' (Lr)
def L.z1r : T26 × (List Int) × Bool × Bool → Bool → Prop := fun ⟨x1v, u9o, x5, x6⟩ r => ∀ S1 w1, Ext S0 w0 S1 w1 → ∀ gx1 u9p u9q u9r gx3 (_ : Hp nz wz S1 w1 ((some gx1, .row 27 (vT26 x1v u9p u9q u9r) 8 0) :: (some gx3, .row 24 (U4 u9o []) 4 0) :: Lr)) (_ : x1v.Set.length = 4) (_ : Rd kT26 S1 w1 u9p u9r x1v.L) (_ : x1v.L.length = u9q) (_ : u9o.length = 4) (junk : Nat → Value),
 Goes Tg (base 230) Je7 ⟨lfr 77 [(1, (pt gx1 0)), (3, (pt gx3 0)), (5, .bool x5), (6, .bool x6)] junk, []⟩ w1 (Done Tg 230 (Rets (Post.z1q nz wz S0 w0 Lr r)))
theorem W.z1r {nz wz S0 w0 Lr} : ∀ a r, M.a3i a = some r → L.z1r nz wz S0 w0 Lr a r := by
 intro ⟨x1v, u9o, x5, x6⟩ r h S1 w1 hx gx1 u9p u9q u9r gx3 p1 u9s u9t u9u u9v junk
 rw [M.a3i] at h
 try dsimp only at h
 subst u9u
 refine Gn 3 [(61, (pt gx1 5))] (Zr Qby [1, 2, 3, 4, 5, 6, 7, 8, 9, 10, 11, 12, 13, 14, 15, 16] Je8) ?_
 refine Xb 25 61 62 25 ⟨gx1, 5, none⟩ (.slice u9p x1v.L.length u9r) (p1.c 0 5) ?_
 refine Gm 3 [([63], .i (x1v.L.length : Int)), ([64, 65], .bool (decide ((x1v.L.length : Int) = 1)))] (Zr Qby [5, 6, 7, 8, 9, 10, 11, 12, 13, 14, 15, 16] Je8) ?_
 refine Gi h (fun h23 h => ?_) fun h23 h => ?_
 ·
  rw [dt h23]
  refine Gn 1 [(66, (pt gx1 1))] (Zr Qby [6, 7, 8, 9, 10, 11, 12, 13, 14, 15, 16] Je8) ?_
  refine Xf 24 66 67 24 ⟨gx1, 1, none⟩ (U4 x1v.Set []) (p1.pa 0 1) ?_
  refine Xf 24 3 68 24 ⟨gx3, 0, none⟩ (U4 u9o []) (p1.pa 1 0) ?_
  refine Op_.eqA 24 67 68 24 69 4 22 4 .u64 (us := ((U4 x1v.Set []) : List Value)) (vs := ((U4 u9o []) : List Value)) Xa (by kernel_rfl) (by kernel_rfl) (by kernel_rfl) (by kernel_rfl) (by kernel_rfl) (by kernel_rfl) (by kernel_rfl) (els_mk4 (S := S1) (w := w1) (k := .u64) u9s) (els_mk4 (S := S1) (w := w1) (k := .u64) u9v) (Xh (els_mk4 (S := S1) (w := w1) (k := .u64) u9s) rfl rfl) (Xh (els_mk4 (S := S1) (w := w1) (k := .u64) u9v) rfl rfl) ?_
  refine Gm 2 [([70, 71], .bool (decide (x1v.Set = u9o)))] (Zr Qby [11, 12, 13, 14, 15, 16] Je8) ?_
  refine Gi h (fun h24 h => ?_) fun h24 h => ?_
  ·
   rw [dt h24]
   refine Gm 3 [([72, 73, 74], .bool x5)] (Zr Qby [14, 15, 16] Je8) ?_
   refine Gi h (fun h25 h => ?_) fun h25 h => ?_
   ·
    rw [h25]
    refine Gm 4 [([75, 76, 2], .bool x6)] Je8 ?_
    obtain rfl := sj h
    have p1 := (p1.dp 0).dp 0
    exact Xc Tryz.f230 (.bool x6) ⟨_, rfl, hx, p1⟩
   ·
    rw [bf h25]
    refine Gm 4 [([75], undef), ([76, 2], .bool false)] Je8 ?_
    obtain rfl := sj h
    have p1 := (p1.dp 0).dp 0
    exact Xc Tryz.f230 (.bool false) ⟨_, rfl, hx, p1⟩
  ·
   rw [df h24]
   refine Gm 7 [([72, 75], undef), ([73, 74, 76, 2], .bool false)] Je8 ?_
   obtain rfl := sj h
   have p1 := (p1.dp 0).dp 0
   exact Xc Tryz.f230 (.bool false) ⟨_, rfl, hx, p1⟩
 ·
  rw [df h23]
  refine Gm 13 [([66, 67, 68, 69, 72, 75], undef), ([70, 71, 73, 74, 76, 2], .bool false)] Je8 ?_
  obtain rfl := sj h
  have p1 := (p1.dp 0).dp 0
  exact Xc Tryz.f230 (.bool false) ⟨_, rfl, hx, p1⟩
def Jee := Ys 11110101111101 B230 Je6
def Qc0 := Yq 111101011111010 B230
def L.z1s : T26 × (List Int) × Bool → Bool → Prop := fun ⟨x1v, u9o, x5⟩ r => ∀ S1 w1, Ext S0 w0 S1 w1 → ∀ gx1 u9p u9q u9r gx3 (_ : Hp nz wz S1 w1 ((some gx1, .row 27 (vT26 x1v u9p u9q u9r) 8 0) :: (some gx3, .row 24 (U4 u9o []) 4 0) :: Lr)) (_ : x1v.Set.length = 4) (_ : Rd kT26 S1 w1 u9p u9r x1v.L) (_ : x1v.L.length = u9q) (_ : u9o.length = 4) (junk : Nat → Value),
 Goes Tg (base 230) Jee ⟨lfr 77 [(1, (pt gx1 0)), (3, (pt gx3 0)), (5, .bool x5)] junk, []⟩ w1 (Done Tg 230 (Rets (Post.z1q nz wz S0 w0 Lr r)))
theorem W.z1s {nz wz S0 w0 Lr} : ∀ a r, M.a47 a = some r → L.z1s nz wz S0 w0 Lr a r := by
 intro ⟨x1v, u9o, x5⟩ r h S1 w1 hx gx1 u9p u9q u9r gx3 p1 u9s u9t u9u u9v junk
 rw [M.a47] at h
 try dsimp only at h
 subst u9u
 refine Gn 3 [(46, (pt gx1 7))] (Zr Qc0 [1, 2, 3, 4, 5, 6, 7, 8, 9, 10, 11, 12, 13, 14, 15] Je7) ?_
 refine Xb 3 46 47 3 ⟨gx1, 7, none⟩ (.i x1v.Max) (p1.c 0 7) ?_
 refine Gm 2 [([48, 49], .bool (decide (x1v.Max = (-1))))] (Zr Qc0 [4, 5, 6, 7, 8, 9, 10, 11, 12, 13, 14, 15] Je7) ?_
 refine Gi h (fun h19 h => ?_) fun h19 h => ?_
 ·
  rw [dt h19]
  refine Gm 13 [([50, 51, 52, 53, 54, 55, 56, 57, 58, 59], undef), ([60, 6], .bool true)] Je7 ?_
  exact Gj 77 [(1, (pt gx1 0)), (3, (pt gx3 0)), (5, .bool x5), (6, .bool true)] (W.z1r _ _ h _ _ hx _ _ _ _ _ p1 u9s u9t rfl u9v)
 ·
  rw [df h19]
  refine Gn 1 [(50, (pt gx1 7))] (Zr Qc0 [5, 6, 7, 8, 9, 10, 11, 12, 13, 14, 15] Je7) ?_
  refine Xb 3 50 51 3 ⟨gx1, 7, none⟩ (.i x1v.Max) (p1.c 0 7) ?_
  refine Gn 1 [(52, (pt gx1 6))] (Zr Qc0 [7, 8, 9, 10, 11, 12, 13, 14, 15] Je7) ?_
  refine Xb 3 52 53 3 ⟨gx1, 6, none⟩ (.i x1v.Min) (p1.c 0 6) ?_
  refine Gm 2 [([54, 55], .bool (decide (x1v.Max ≥ x1v.Min)))] (Zr Qc0 [10, 11, 12, 13, 14, 15] Je7) ?_
  refine Gi h (fun h22 h => ?_) fun h22 h => ?_
  ·
   rw [dt h22]
   refine Gn 1 [(56, (pt gx1 7))] (Zr Qc0 [11, 12, 13, 14, 15] Je7) ?_
   refine Xb 3 56 57 3 ⟨gx1, 7, none⟩ (.i x1v.Max) (p1.c 0 7) ?_
   refine Gm 5 [([58, 59, 60, 6], .bool (decide (x1v.Max ≤ 64)))] Je7 ?_
   exact Gj 77 [(1, (pt gx1 0)), (3, (pt gx3 0)), (5, .bool x5), (6, .bool (decide (x1v.Max ≤ 64)))] (W.z1r _ _ h _ _ hx _ _ _ _ _ p1 u9s u9t rfl u9v)
  ·
   rw [df h22]
   refine Gm 7 [([56, 57, 58], undef), ([59, 60, 6], .bool false)] Je7 ?_
   exact Gj 77 [(1, (pt gx1 0)), (3, (pt gx3 0)), (5, .bool x5), (6, .bool false)] (W.z1r _ _ h _ _ hx _ _ _ _ _ p1 u9s u9t rfl u9v)
def Jel := Ys 1111010111 B230 Je6
def Jem := Ys 111101011101 B230 Je6
def Qc3 := Yq 111101011100 B230
def Qc5 := Yq 11110101111100 B230
def L.z1t : T26 × (List Int) × Bool × Int × Bool → Bool → Prop := fun ⟨x1v, u9o, x4, x16, x26⟩ r => ∀ S1 w1, Ext S0 w0 S1 w1 → ∀ gx1 u9p u9q u9r gx3 (_ : Hp nz wz S1 w1 ((some gx1, .row 27 (vT26 x1v u9p u9q u9r) 8 0) :: (some gx3, .row 24 (U4 u9o []) 4 0) :: Lr)) (_ : x1v.Set.length = 4) (_ : Rd kT26 S1 w1 u9p u9r x1v.L) (_ : x1v.L.length = u9q) (_ : u9o.length = 4) (junk : Nat → Value),
 Goes Tg (base 230) Jel ⟨lfr 77 [(1, (pt gx1 0)), (3, (pt gx3 0)), (4, .bool x4), (16, .i x16), (26, .bool x26)] junk, []⟩ w1 (Done Tg 230 (Rets (Post.z1q nz wz S0 w0 Lr r)))
theorem W.z1t {nz wz S0 w0 Lr} : ∀ a r, M.a48 a = some r → L.z1t nz wz S0 w0 Lr a r := by
 intro ⟨x1v, u9o, x4, x16, x26⟩ r h S1 w1 hx gx1 u9p u9q u9r gx3 p1 u9s u9t u9u u9v junk
 rw [M.a48] at h
 try dsimp only at h
 subst u9u
 refine Gi h (fun h13 h => ?_) fun h13 h => ?_
 ·
  rw [h13]
  refine Gn 4 [(29, (pt gx1 1))] (Zr Qc3 [1, 2, 3, 4, 5, 6, 7] Jem) ?_
  refine Xf 24 29 30 24 ⟨gx1, 1, none⟩ (U4 x1v.Set []) (p1.pa 0 1) ?_
  refine Xf 24 3 31 24 ⟨gx3, 0, none⟩ (U4 u9o []) (p1.pa 1 0) ?_
  refine Op_.eqA 24 30 31 24 32 4 22 4 .u64 (us := ((U4 x1v.Set []) : List Value)) (vs := ((U4 u9o []) : List Value)) Xa (by kernel_rfl) (by kernel_rfl) (by kernel_rfl) (by kernel_rfl) (by kernel_rfl) (by kernel_rfl) (by kernel_rfl) (els_mk4 (S := S1) (w := w1) (k := .u64) u9s) (els_mk4 (S := S1) (w := w1) (k := .u64) u9v) (Xh (els_mk4 (S := S1) (w := w1) (k := .u64) u9s) rfl rfl) (Xh (els_mk4 (S := S1) (w := w1) (k := .u64) u9v) rfl rfl) ?_
  refine Gn 1 [(33, .bool (decide (x1v.Set = u9o)))] (Zr Qc3 [5, 6, 7] Jem) ?_
  refine Gi h (fun h14 h => ?_) fun h14 h => ?_
  ·
   rw [dt h14]
   refine Gm 4 [([34, 35, 2], .bool x4)] Jem ?_
   obtain rfl := sj h
   have p1 := (p1.dp 0).dp 0
   exact Xc Tryz.f230 (.bool x4) ⟨_, rfl, hx, p1⟩
  ·
   rw [df h14]
   refine Gm 4 [([34], undef), ([35, 2], .bool false)] Jem ?_
   obtain rfl := sj h
   have p1 := (p1.dp 0).dp 0
   exact Xc Tryz.f230 (.bool false) ⟨_, rfl, hx, p1⟩
 ·
  rw [bf h13]
  refine Gm 6 [([37, 36], .bool (decide (x16 = 4)))] (Ys 111101011111 B230 Je6) ?_
  refine Gi h (fun h15 h => ?_) fun h15 h => ?_
  ·
   rw [dt h15]
   refine Gn 4 [(38, (pt gx1 6))] (Zr Qc5 [1, 2, 3, 4, 5, 6, 7, 8] Jee) ?_
   refine Xb 3 38 39 3 ⟨gx1, 6, none⟩ (.i x1v.Min) (p1.c 0 6) ?_
   refine Gm 2 [([40, 41], .bool (decide (x1v.Min ≥ 0)))] (Zr Qc5 [4, 5, 6, 7, 8] Jee) ?_
   refine Gi h (fun h16 h => ?_) fun h16 h => ?_
   ·
    rw [dt h16]
    refine Gn 1 [(42, (pt gx1 6))] (Zr Qc5 [5, 6, 7, 8] Jee) ?_
    refine Xb 3 42 43 3 ⟨gx1, 6, none⟩ (.i x1v.Min) (p1.c 0 6) ?_
    refine Gm 4 [([44, 45, 5], .bool (decide (x1v.Min ≤ 64)))] Jee ?_
    exact Gj 77 [(1, (pt gx1 0)), (3, (pt gx3 0)), (5, .bool (decide (x1v.Min ≤ 64)))] (W.z1s _ _ h _ _ hx _ _ _ _ _ p1 u9s u9t rfl u9v)
   ·
    rw [df h16]
    refine Gm 6 [([42, 43, 44], undef), ([45, 5], .bool false)] Jee ?_
    exact Gj 77 [(1, (pt gx1 0)), (3, (pt gx3 0)), (5, .bool false)] (W.z1s _ _ h _ _ hx _ _ _ _ _ p1 u9s u9t rfl u9v)
  ·
   rw [df h15]
   refine Gn 7 [(2, .bool false)] (Ys 111111 B230 []) ?_
   obtain rfl := sj h
   have p1 := (p1.dp 0).dp 0
   exact Xc Tryz.f230 (.bool false) ⟨_, rfl, hx, p1⟩
def Jeu := Ys 1111 B230 []
def Jey := Ys 1111010101 B230 Je6
def Qcc := Yq 1111010100 B230
def L.z1u : T26 × (List Int) × Bool → Bool → Prop := fun ⟨x1v, u9o, x4⟩ r => ∀ S1 w1, Ext S0 w0 S1 w1 → ∀ gx1 u9p u9q u9r gx3 (_ : Hp nz wz S1 w1 ((some gx1, .row 27 (vT26 x1v u9p u9q u9r) 8 0) :: (some gx3, .row 24 (U4 u9o []) 4 0) :: Lr)) (_ : x1v.Set.length = 4) (_ : Rd kT26 S1 w1 u9p u9r x1v.L) (_ : x1v.L.length = u9q) (_ : u9o.length = 4) (junk : Nat → Value),
 Goes Tg (base 230) Jeu ⟨lfr 77 [(1, (pt gx1 0)), (3, (pt gx3 0)), (4, .bool x4)] junk, []⟩ w1 (Done Tg 230 (Rets (Post.z1q nz wz S0 w0 Lr r)))
theorem W.z1u {nz wz S0 w0 Lr} : ∀ a r, M.a49 a = some r → L.z1u nz wz S0 w0 Lr a r := by
 intro ⟨x1v, u9o, x4⟩ r h S1 w1 hx gx1 u9p u9q u9r gx3 p1 u9s u9t u9u u9v junk
 rw [M.a49] at h
 try dsimp only at h
 subst u9u
 refine Gn 4 [(15, (pt gx1 0))] (Yt 111100 B230 [1] (Ys 111101 B230 Je5)) ?_
 refine Xb 3 15 16 3 ⟨gx1, 0, none⟩ (.i x1v.Kind) (p1.c 0 0) ?_
 refine Gm 7 [([18, 17], .bool (decide (x1v.Kind = 1)))] (Ys 11110101 B230 Je6) ?_
 refine Gi h (fun h8 h => ?_) fun h8 h => ?_
 ·
  rw [dt h8]
  refine Gn 4 [(19, (pt gx1 5))] (Zr Qcc [1, 2, 3, 4, 5, 6, 7] Jey) ?_
  refine Xb 25 19 20 25 ⟨gx1, 5, none⟩ (.slice u9p x1v.L.length u9r) (p1.c 0 5) ?_
  refine Gm 3 [([21], .i (x1v.L.length : Int)), ([22, 23], .bool (decide ((x1v.L.length : Int) = 0)))] (Zr Qcc [5, 6, 7] Jey) ?_
  refine Gi h (fun h9 h => ?_) fun h9 h => ?_
  ·
   rw [dt h9]
   refine Gm 4 [([24, 25, 2], .bool x4)] Jey ?_
   obtain rfl := sj h
   have p1 := (p1.dp 0).dp 0
   exact Xc Tryz.f230 (.bool x4) ⟨_, rfl, hx, p1⟩
  ·
   rw [df h9]
   refine Gm 4 [([24], undef), ([25, 2], .bool false)] Jey ?_
   obtain rfl := sj h
   have p1 := (p1.dp 0).dp 0
   exact Xc Tryz.f230 (.bool false) ⟨_, rfl, hx, p1⟩
 ·
  rw [df h8]
  refine Gm 7 [([27, 26], .bool (decide (x1v.Kind = 2)))] (Ys 11110101101 B230 Jel) ?_
  refine Gi h (fun h10 h => ?_) fun h10 h => ?_
  ·
   rw [dt h10]
   refine Gn 2 [] Jel ?_
   exact Gj 77 [(1, (pt gx1 0)), (3, (pt gx3 0)), (4, .bool x4), (16, .i x1v.Kind), (26, .bool true)] (W.z1t _ _ h _ _ hx _ _ _ _ _ p1 u9s u9t rfl u9v)
  ·
   rw [df h10]
   refine Gm 5 [([28, 26], .bool (decide (x1v.Kind = 3)))] Jel ?_
   exact Gj 77 [(1, (pt gx1 0)), (3, (pt gx3 0)), (4, .bool x4), (16, .i x1v.Kind), (26, .bool (decide (x1v.Kind = 3)))] (W.z1t _ _ h _ _ hx _ _ _ _ _ p1 u9s u9t rfl u9v)
def Qci := Yq 1110 B230
theorem W.z1q (x0 : T26) (r : Bool) (h : M.a3w x0 = some r) {nz wz S0 w0 Lr} (u92 u93 u94) (p0 : Hp nz wz S0 w0 (Lr)) (u9e : x0.Set.length = 4) (u9f : Rd kT26 S0 w0 u92 u94 x0.L) (u9g : x0.L.length = u93) :
  Calls Tg 230 #[(ag (vT26 x0 u92 u93 u94))] w0 (Rets (Post.z1q nz wz S0 w0 Lr r)) := by
 subst u9g
 refine Zf Tryz.f230 B230 76 ?_
 refine Gj 77 [(0, (ag (vT26 x0 u92 x0.L.length u94)))] fun junk => ?_
 delta M.a3w at h
 refine Gn 2 [] (Yt 10 B230 [0, 1] (Ys 11 B230 [])) ?_
 refine Ob 27 0 1 0 (ag (vT26 x0 u92 x0.L.length u94)) (vT26 x0 u92 x0.L.length u94) p0 Xa fun b1 w2 z2 p2 => ?_
 refine Gn 4 [(2, .bool false)] (Yt 110 B230 [0] (Ys 111 B230 [])) ?_
 refine Oa 24 3 0 (.agg #[.u 0, .u 0, .u 0, .u 0]) [.u 0, .u 0, .u 0, .u 0] p2 Xa fun b3 w3 z3 p3 => ?_
 refine Gn 4 [(7, (pt b1 6))] (Zr Qci [1, 2, 3, 4, 5, 6, 7, 8] Jeu) ?_
 refine Xb 3 7 8 3 ⟨b1, 6, none⟩ (.i x0.Min) (p3.c 1 6) ?_
 refine Gm 2 [([9, 10], .bool (decide (x0.Min = 0)))] (Zr Qci [4, 5, 6, 7, 8] Jeu) ?_
 refine Gi h (fun h5 h => ?_) fun h5 h => ?_
 ·
  rw [dt h5]
  refine Gn 1 [(11, (pt b1 7))] (Zr Qci [5, 6, 7, 8] Jeu) ?_
  refine Xb 3 11 12 3 ⟨b1, 7, none⟩ (.i x0.Max) (p3.c 1 7) ?_
  refine Gm 4 [([13, 14, 4], .bool (decide (x0.Max = 0)))] Jeu ?_
  have p3 := (p3.fr 0).fr 1
  exact Gj 77 [(1, (pt b1 0)), (3, (pt b3 0)), (4, .bool (decide (x0.Max = 0)))] (W.z1u _ _ h _ _ (z2.t z3) _ _ _ _ _ p3 u9e (u9f.ext (z2.t z3)) rfl rfl)
 ·
  rw [df h5]
  refine Gm 6 [([11, 12, 13], undef), ([14, 4], .bool false)] Jeu ?_
  have p3 := (p3.fr 0).fr 1
  exact Gj 77 [(1, (pt b1 0)), (3, (pt b3 0)), (4, .bool false)] (W.z1u _ _ h _ _ (z2.t z3) _ _ _ _ _ p3 u9e (u9f.ext (z2.t z3)) rfl rfl)
def Jf9 := Ys 111 B180 []
def Qck := Yq 110100 B180
def Jfb := Zl Qck (Zb 0 Jf9)
def Jfc := Zc Qck Jfb
def Jfk := Zb 1 (Ys 110100111 B180 Jfb)
def Jfn := Ys 110100110011 B180 Jfk
def Jfq := Ys 1111 B180 []
def Post.z1v (r : Bool) (v : Value) (w' : World) : Prop :=
 ∃ S', v = .bool r ∧ Ext S0 w0 S' w' ∧ Hp nz wz S' w' (Lr)
def LF.z1v : T26 → Bool → Prop := fun x0 r => ∀ {nz wz S0 w0 Lr} u92 u93 u94 (_ : Hp nz wz S0 w0 (Lr)) (_ : x0.Set.length = 4) (_ : Rd kT26 S0 w0 u92 u94 x0.L) (_ : x0.L.length = u93),
 Calls Tg 180 #[(ag (vT26 x0 u92 u93 u94))] w0 (Rets (Post.z1v nz wz S0 w0 Lr r))
def L.z1w : T26 × (List T26) × Int × Int → Bool → Prop := fun ⟨x1v, x6, x7, x8⟩ r => ∀ S1 w1, Ext S0 w0 S1 w1 → ∀ gx1 u9p u9q u9r Ax6 nx6 cx6 (_ : Hp nz wz S1 w1 ((some gx1, .row 27 (vT26 x1v u9p u9q u9r) 8 0) :: Lr)) (_ : x1v.Set.length = 4) (_ : Rd kT26 S1 w1 u9p u9r x1v.L) (_ : x1v.L.length = u9q) (_ : Rd kT26 S1 w1 Ax6 cx6 x6) (_ : x6.length = nx6) (junk : Nat → Value),
 Goes Tg (base 180) Jfc ⟨lfr 18 [(1, (pt gx1 0)), (6, .slice Ax6 nx6 cx6), (7, .i x7), (8, .i x8)] junk, []⟩ w1 (Done Tg 180 (Rets (Post.z1v nz wz S0 w0 Lr r)))
def LL.z1w : T26 × (List T26) × Int × Int → Bool → Prop := fun a r => ∀ {nz wz S0 w0 Lr}, L.z1w nz wz S0 w0 Lr a r
theorem W.z1x : (∀ a r, M.ak a = some r → LF.z1v a r) ∧ (∀ a r, M.at a = some r → LL.z1w a r) := by
 refine M.ak.mutual_partial_correctness LF.z1v LL.z1w ?_ ?_
 ·
  intro u9w u9x x0 r h nz wz S0 w0 Lr u92 u93 u94 p0 u9e u9f u9g
  try dsimp only at h
  subst u9g
  refine Zf Tryz.f180 B180 17 ?_
  refine Gj 18 [(0, (ag (vT26 x0 u92 x0.L.length u94)))] fun junk => ?_
  refine Gn 2 [] (Yt 10 B180 [0, 1] (Ys 11 B180 [])) ?_
  refine Ob 27 0 1 0 (ag (vT26 x0 u92 x0.L.length u94)) (vT26 x0 u92 x0.L.length u94) p0 Xa fun b1 w2 z2 p2 => ?_
  refine Gn 6 [(2, .bool false), (5, (pt b1 5))] (Yt 1100 B180 [1, 2, 3] (Ys 1101 B180 Jf9)) ?_
  refine Xb 25 5 6 25 ⟨b1, 5, none⟩ (.slice u92 x0.L.length u94) (p2.c 0 5) ?_
  refine Gn 5 [(7, .i (x0.L.length : Int)), (8, .i 0)] Jfc ?_
  exact Gj 18 [(1, (pt b1 0)), (6, .slice u92 x0.L.length u94), (7, .i (x0.L.length : Int)), (8, .i 0)] (u9x _ _ h _ _ z2 _ _ _ _ _ _ _ p2 u9e (u9f.ext z2) rfl (u9f.ext z2) rfl)
 ·
  intro rec_syntax_right u9w ih_syntax_right u9x ⟨x1v, x6, x7, x8⟩ r h nz wz S0 w0 Lr S1 w1 hx gx1 u9p u9q u9r Ax6 nx6 cx6 p1 u9s u9t u9u fx6 lx6 junk
  try dsimp only at h
  subst u9u
  subst lx6
  refine Gn 5 [(9, .bool (decide (x8 < x7)))] (Ys 11010010 B180 (Ys 11010011 B180 Jfb)) ?_
  refine Gi h (fun h4 h => ?_) fun h4 h => ?_
  ·
   rw [dt h4]
   refine Gn 6 [] (Yt 11010011000 B180 [0, 1, 2, 3] (Ys 11010011001 B180 Jfk)) ?_
   refine Gg h fun g5 h => ?_
   refine Gg h fun g6 h => ?_
   refine Oi 25 6 8 10 0 27 .i64 x8 (gi x6 x8) rfl rfl fx6 Xa g5 g6 fun a7 _ f8 q9 => ?_
   have q10 := q9
   obtain ⟨_, _, rfl, rfl, ⟨_, _, rfl, ⟨l11, f12⟩, ⟨_, _, rfl, ⟨A13, c14, rfl, f15⟩, ⟨_, _, rfl, rfl, rfl⟩⟩⟩⟩ := kT26_open q10
   obtain rfl := els_lit4' f12 l11
   refine Xf 27 10 11 27 a7 ([.i ((gi x6 x8).Kind)] ++ ((U4 ((gi x6 x8).Set) []) ++ ([.slice A13 (((gi x6 x8).L).length) c14] ++ ([.i ((gi x6 x8).Min)] ++ [.i ((gi x6 x8).Max)])))) (f8.cell) ?_
   refine Oa 27 4 0 (.agg #[.i 0, .u 0, .u 0, .u 0, .u 0, .slice none 0 0, .i 0, .i 0]) [.i 0, .u 0, .u 0, .u 0, .u 0, .slice none 0 0, .i 0, .i 0] p1 Xa fun b16 w3 z3 p3 => ?_
   refine So 27 4 11 0 0 b16 0 (ag (.i ((gi x6 x8).Kind) :: U4 ((gi x6 x8).Set) [.slice A13 (((gi x6 x8).L).length) c14, .i ((gi x6 x8).Min), .i ((gi x6 x8).Max)])) (.i ((gi x6 x8).Kind) :: U4 ((gi x6 x8).Set) [.slice A13 (((gi x6 x8).L).length) c14, .i ((gi x6 x8).Min), .i ((gi x6 x8).Max)]) p3 rfl Xd fun w4 z4 p4 => ?_
   refine Gn 3 [] (Yt 110100110010 B180 [0, 1, 2] Jfn) ?_
   refine Xf 27 4 12 27 ⟨b16, 0, none⟩ (.i ((gi x6 x8).Kind) :: U4 ((gi x6 x8).Set) [.slice A13 (((gi x6 x8).L).length) c14, .i ((gi x6 x8).Min), .i ((gi x6 x8).Max)]) (p4.pa 0 0) ?_
   refine Gb h fun y18 e19 h => ?_
   refine Gc (kc 180 [12] #[27]) 13 4 180 _ (ih_syntax_right (⟨(gi x6 x8).Kind, ((gi x6 x8).Set), (gi x6 x8).L, (gi x6 x8).Min, (gi x6 x8).Max⟩ : T26) y18 e19 _ _ _ p4 l11 (f15.ext (z3.t z4)) rfl) ?_
   rintro _ w5 ⟨S5, rfl, z5, p5⟩
   have p5 := p5.dp 0
   refine Gn 2 [(14, .bool (!y18))] Jfn ?_
   refine Gi h (fun h20 h => ?_) fun h20 h => ?_
   ·
    rw [h20]
    refine Gm 8 [([15, 8], .i (wr .i64 (x8 + 1)))] Jfc ?_
    exact Gj 18 [(1, (pt gx1 0)), (6, .slice Ax6 x6.length cx6), (7, .i x7), (8, .i (wr .i64 (x8 + 1)))] (u9x _ _ h _ _ (((hx.t z3).t z4).t z5) _ _ _ _ _ _ _ p5 u9s (u9t.ext ((z3.t z4).t z5)) rfl (fx6.ext ((z3.t z4).t z5)) rfl)
   ·
    rw [bf h20]
    refine Gn 5 [(2, .bool false)] (Ys 11010011001101 B180 Jfk) ?_
    obtain rfl := sj h
    have p5 := p5.dp 0
    exact Xc Tryz.f180 (.bool false) ⟨_, rfl, (((hx.t z3).t z4).t z5), p5⟩
  ·
   rw [df h4]
   refine Gn 4 [] (Yt 1110 B180 [0, 1, 2] Jfq) ?_
   refine Xf 27 1 16 27 ⟨gx1, 0, none⟩ (vT26 x1v u9p x1v.L.length u9r) (p1.pa 0 0) ?_
   refine Gb h fun y21 e22 h => ?_
   refine Gc (kc 230 [16] #[27]) 17 4 230 _ (W.z1q x1v y21 e22 _ _ _ p1 u9s u9t rfl) ?_
   rintro _ w6 ⟨S6, rfl, z6, p6⟩
   have p6 := p6.dp 0
   refine Gn 2 [(2, .bool y21)] Jfq ?_
   obtain rfl := sj h
   exact Xc Tryz.f180 (.bool y21) ⟨_, rfl, (hx.t z6), p6⟩
theorem W.z1v : ∀ a r, M.ak a = some r → LF.z1v a r := (W.z1x).1
theorem W.z1w : ∀ a r, M.at a = some r → LL.z1w a r := (W.z1x).2
def Jfw := Ys 1111 B114 []
def Jfx := Ys 11101 B114 Jfw
def Qd5 := Yq 11100 B114
def Jg0 := Ys 11111 B114 []
def Jg2 := Ys 1110101 B114 Jfw
def Post.z1y (r : Int) (v : Value) (w' : World) : Prop :=
 ∃ S', v = .i r ∧ Ext S0 w0 S' w' ∧ Hp nz wz S' w' (Lr)
theorem W.z1y (x0 : T26) (r : Int) (h : M.a31 x0 = some r) {nz wz S0 w0 Lr} (u92 u93 u94) (p0 : Hp nz wz S0 w0 (Lr)) (u9e : x0.Set.length = 4) (u9f : Rd kT26 S0 w0 u92 u94 x0.L) (u9g : x0.L.length = u93) :
  Calls Tg 114 #[(ag (vT26 x0 u92 u93 u94))] w0 (Rets (Post.z1y nz wz S0 w0 Lr r)) := by
 subst u9g
 refine Zf Tryz.f114 B114 12 ?_
 refine Gj 13 [(0, (ag (vT26 x0 u92 x0.L.length u94)))] fun junk => ?_
 delta M.a31 at h
 refine Gn 2 [] (Yt 10 B114 [0, 1] (Ys 11 B114 [])) ?_
 refine Ob 27 0 1 0 (ag (vT26 x0 u92 x0.L.length u94)) (vT26 x0 u92 x0.L.length u94) p0 Xa fun b1 w2 z2 p2 => ?_
 refine Gn 4 [(2, .i 0)] (Yt 110 B114 [0, 1] (Ys 111 B114 [])) ?_
 refine Oa 3 3 0 (.i 0) [.i 0] p2 Xa fun b3 w3 z3 p3 => ?_
 refine So 3 3 (.const (.int .i64 0)) 0 0 b3 0 (.i 0) [.i 0] p3 rfl Xd fun w4 z4 p4 => ?_
 refine Gn 4 [] (Zr Qd5 [0, 1, 2, 3, 4, 5, 6, 7] Jfx) ?_
 refine Xf 27 1 4 27 ⟨b1, 0, none⟩ (vT26 x0 u92 x0.L.length u94) (p4.pa 1 0) ?_
 refine Gb h fun y5 e6 h => ?_
 refine Gc (.call { callee := .value (.func 179), args := #[4, (.const (.int .i64 128)), 3], argTypes := #[27, 3, 33] }) 5 4 179 _ (W.z1m (x0, 128, 0) y5 e6 _ _ _ _ p4 u9e (u9f.ext ((z2.t z3).t z4)) rfl) ?_
 rintro _ w5 ⟨S5, rfl, z5, p5⟩
 refine Gm 2 [([6, 7], .bool (!y5.1))] (Zr Qd5 [4, 5, 6, 7] Jfx) ?_
 refine Gi h (fun h7 h => ?_) fun h7 h => ?_
 ·
  rw [h7]
  refine Xf 27 1 8 27 ⟨b1, 0, none⟩ (vT26 x0 u92 x0.L.length u94) (p5.pa 1 0) ?_
  refine Gb h fun y8 e9 h => ?_
  refine Gc (kc 180 [8] #[27]) 9 4 180 _ (W.z1v x0 y8 e9 _ _ _ p5 u9e (u9f.ext (((z2.t z3).t z4).t z5)) rfl) ?_
  rintro _ w6 ⟨S6, rfl, z6, p6⟩
  have p6 := p6.dp 1
  refine Gm 3 [([10, 11], .bool (!y8))] Jfx ?_
  refine Gi h (fun h10 h => ?_) fun h10 h => ?_
  ·
   rw [h10]
   refine Gn 4 [] (Yt 11110 B114 [0, 1] Jg0) ?_
   refine Xb 3 3 12 3 ⟨b3, 0, none⟩ (.i y5.2) (p6.c 0 0) ?_
   refine Gn 2 [(2, .i y5.2)] Jg0 ?_
   obtain rfl := sj h
   have p6 := p6.dp 0
   exact Xc Tryz.f114 (.i y5.2) ⟨_, rfl, ((((z2.t z3).t z4).t z5).t z6), p6⟩
  ·
   rw [bf h10]
   refine Gn 5 [(2, .i 0)] Jg2 ?_
   obtain rfl := sj h
   have p6 := p6.dp 0
   exact Xc Tryz.f114 (.i 0) ⟨_, rfl, ((((z2.t z3).t z4).t z5).t z6), p6⟩
 ·
  rw [bf h7]
  refine Gm 10 [([8, 9, 10], undef), ([11], .bool true), ([2], .i 0)] Jg2 ?_
  obtain rfl := sj h
  have p5 := (p5.dp 0).dp 0
  exact Xc Tryz.f114 (.i 0) ⟨_, rfl, (((z2.t z3).t z4).t z5), p5⟩
def Jg5 := Ys 111 B53 []
def Post.z1z (r : Bool) (v : Value) (w' : World) : Prop :=
 ∃ S', v = .bool r ∧ Ext S0 w0 S' w' ∧ Hp nz wz S' w' (Lr)
theorem W.z1z (x0 : T26) (r : Bool) (h : M.a27 x0 = some r) {nz wz S0 w0 Lr} (u92 u93 u94) (p0 : Hp nz wz S0 w0 (Lr)) (u9e : x0.Set.length = 4) (u9f : Rd kT26 S0 w0 u92 u94 x0.L) (u9g : x0.L.length = u93) :
  Calls Tg 53 #[(ag (vT26 x0 u92 u93 u94))] w0 (Rets (Post.z1z nz wz S0 w0 Lr r)) := by
 subst u9g
 refine Zf Tryz.f53 B53 5 ?_
 refine Gj 6 [(0, (ag (vT26 x0 u92 x0.L.length u94)))] fun junk => ?_
 delta M.a27 at h
 refine Gn 2 [] (Yt 10 B53 [0, 1] (Ys 11 B53 [])) ?_
 refine Ob 27 0 1 0 (ag (vT26 x0 u92 x0.L.length u94)) (vT26 x0 u92 x0.L.length u94) p0 Xa fun b1 w2 z2 p2 => ?_
 refine Gn 4 [(2, .bool false)] (Yt 110 B53 [0, 1, 2, 3] Jg5) ?_
 refine Xf 27 1 3 27 ⟨b1, 0, none⟩ (vT26 x0 u92 x0.L.length u94) (p2.pa 0 0) ?_
 refine Gb h fun y3 e4 h => ?_
 refine Gc (kc 114 [3] #[27]) 4 3 114 _ (W.z1y x0 y3 e4 _ _ _ p2 u9e (u9f.ext z2) rfl) ?_
 rintro _ w3 ⟨S3, rfl, z3, p3⟩
 have p3 := p3.dp 0
 refine Gm 3 [([5, 2], .bool (decide (y3 > 0)))] Jg5 ?_
 obtain rfl := sj h
 exact Xc Tryz.f53 (.bool (decide (y3 > 0))) ⟨_, rfl, (z2.t z3), p3⟩
def Jg9 := Ys 111 B214 []
def Qdg := Yq 110 B214
def Post.z20 (r : Bool) (v : Value) (w' : World) : Prop :=
 ∃ S', v = .bool r ∧ Ext S0 w0 S' w' ∧ Hp nz wz S' w' (Lr)
theorem W.z20 (x0 : List Int) (x1 : Int) (r : Bool) (h : M.a8 x0 x1 = some r) {nz wz S0 w0 Lr} (ug) (p0 : Hp nz wz S0 w0 (Lr)) (fx0 : Els (kInt .u64) S0 w0 ug x0) (lx0 : ug.length = 4) :
  Calls Tg 214 #[.agg ug.toArray, .int .u8 x1] w0 (Rets (Post.z20 nz wz S0 w0 Lr r)) := by
 refine Zf Tryz.f214 B214 12 ?_
 refine Gj 14 [(0, .agg ug.toArray), (1, .int .u8 x1)] fun junk => ?_
 delta M.a8 at h
 refine Gn 2 [] (Yt 10 B214 [0, 1] (Ys 11 B214 [])) ?_
 refine Op_.box 24 0 2 0 (.agg ug.toArray) ug p0 Xa (by kernel_rfl) rfl fun b1 w2 z2 p2 => ?_
 replace p2 : Hp nz wz S0 w2 ((some b1, .row 24 ug 4 0) :: Lr) := by rw [show (ug).length = 4 from lx0] at p2; exact p2
 refine Gn 6 [(4, .bool false), (5, .int .u8 x1), (6, .int .u8 (iquo .u8 x1 64))] (Zr Qdg [2, 3, 4, 5, 6, 7, 8, 9] Jg9) ?_
 refine Gg h fun g3 h => ?_
 refine Gg h fun g4 h => ?_
 refine Op_.ixA_n (K := (kInt .u64)) 24 2 6 7 0 22 4 .u8 (iquo .u8 x1 64) 0 (gi x0 (iquo .u8 x1 64)) rfl p2 rfl (fx0.ext z2) (Xh (fx0.ext z2) lx0 rfl) Xa (by kernel_rfl) (by kernel_rfl) (by kernel_rfl) (by kernel_rfl) g3 g4 fun _ q6 f5 => ?_
 obtain rfl := q6
 refine Xb 22 7 8 22 ⟨b1, (iquo .u8 x1 64 : Int).toNat * (kInt .u64).size, none⟩ (.u (gi x0 (iquo .u8 x1 64))) (f5 0 _ rfl) ?_
 refine Gn 2 [(9, .int .u8 x1), (10, .int .u8 (irem .u8 x1 64))] (Zr Qdg [6, 7, 8, 9] Jg9) ?_
 refine Gg h fun g7 h => ?_
 refine Op_.binshr 22 8 10 5 11 22 .u64 .u8 (gi x0 (iquo .u8 x1 64)) (irem .u8 x1 64) Xa (by kernel_rfl) (by kernel_rfl) g7 ?_
 refine Gm 4 [([12], .u (iand .u64 (ishr .u64 (gi x0 (iquo .u8 x1 64)) (irem .u8 x1 64)) 1)), ([13, 4], .bool (decide (iand .u64 (ishr .u64 (gi x0 (iquo .u8 x1 64)) (irem .u8 x1 64)) 1 = 1)))] Jg9 ?_
 obtain rfl := sj h
 have p2 := p2.dp 0
 exact Xc Tryz.f214 (.bool (decide (iand .u64 (ishr .u64 (gi x0 (iquo .u8 x1 64)) (irem .u8 x1 64)) 1 = 1))) ⟨_, rfl, z2, p2⟩
def Jge := Ys 111 B184 []
def Post.z21 (r : T218) (v : Value) (w' : World) : Prop :=
 ∃ S' u9z ua0 ua1, v = (ag (vT218 r u9z ua0 ua1)) ∧ Ext S0 w0 S' w' ∧ Hp nz wz S' w' (Lr) ∧ Rd kStr S' w' u9z ua1 r.l ∧ r.l.length = ua0
theorem W.z21 (r : T218) (h : M.a4 = some r) {nz wz S0 w0 Lr} (p0 : Hp nz wz S0 w0 (Lr)) :
  Calls Tg 184 #[] w0 (Rets (Post.z21 nz wz S0 w0 Lr r)) := by
 refine Zf Tryz.f184 B184 2 ?_
 refine Gj 2 [] fun junk => ?_
 delta M.a4 at h
 refine Gn 2 [] (Yt 10 B184 [0] (Ys 11 B184 [])) ?_
 refine Oa 219 0 0 (.agg #[.slice none 0 0, .bool false]) [.slice none 0 0, .bool false] p0 Xa fun b1 w2 z2 p2 => ?_
 refine Gn 4 [(1, .agg #[.slice none 0 0, .bool false])] (Yt 110 B184 [1] Jge) ?_
 refine So 219 0 1 0 0 b1 0 (.agg #[.slice none 0 0, .bool false]) [.slice none 0 0, .bool false] p2 rfl Xd fun w3 z3 p3 => ?_
 refine Gn 1 [] Jge ?_
 obtain rfl := sj h
 exact R1 Tryz.f184 (.cell 0 219) (.agg #[.slice none 0 0, .bool false]) (Rn b1 (p3.pa 0 0)) ⟨_, _, _, _, rfl, (z2.t z3), p3.drop, Xq, rfl⟩
def Qdm := Yq 1110100 B181
def Jgi := Zl Qdm (Zb 0 (Ys 1111 B181 []))
def Jgj := Zc Qdm Jgi
def Jgl := Zb 1 (Ys 1110100111 B181 Jgi)
def Jgo := Ys 1110100110011 B181 Jgl
def Qdr := Yq 1110100110010 B181
def Jgs := Ys 11111 B181 []
def Jgu := Ys 11110101 B181 Jgs
def Jgw := Ys 111111 B181 []
def Post.z22 (r : T218) (v : Value) (w' : World) : Prop :=
 ∃ S' u9z ua0 ua1, v = (ag (vT218 r u9z ua0 ua1)) ∧ Ext S0 w0 S' w' ∧ Hp nz wz S' w' (Lr) ∧ Rd kStr S' w' u9z ua1 r.l ∧ r.l.length = ua0
def L.z23 : (List Int) × T218 × (List ByteArray) × Int → T218 → Prop := fun ⟨x1, x2v, x3, x5⟩ r => ∀ S1 w1, Ext S0 w0 S1 w1 → ∀ gx1 ub gx2 ua2 ua3 ua4 ua5 Gx3 nx3 cx3 uo (_ : Hp nz wz S1 w1 ((some gx1, .row 24 ub 4 0) :: (some gx2, .row 219 (vT218 x2v (Gp ua2) ua3 ua4) 2 0) :: (ua2, .row 9 ua5 (ua4 * kStr.size) 0) :: (Gx3, .row 9 uo (cx3 * kStr.size) 0) :: Lr)) (_ : Els (kInt .u64) S1 w1 ub x1) (_ : ub.length = 4) (_ : Els kStr S1 w1 ua5 x2v.l) (_ : x2v.l.length = ua3) (_ : Els kStr S1 w1 uo x3) (_ : x3.length = nx3) (junk : Nat → Value),
 Goes Tg (base 181) Jgj ⟨lfr 26 [(1, (pt gx1 0)), (2, (pt gx2 0)), (3, .slice (Gp Gx3) nx3 cx3), (5, .i x5)] junk, []⟩ w1 (Done Tg 181 (Rets (Post.z22 nz wz S0 w0 Lr r)))
def L.z24 : (List Int) × T218 × (List ByteArray) × Int → T218 → Prop := fun ⟨x1, x2v, x3, x5⟩ r => ∀ S1 w1, Ext S0 w0 S1 w1 → ∀ gx1 ub gx2 ua2 ua3 ua4 ua5 Gx3 nx3 cx3 uo (_ : Hp nz wz S1 w1 ((some gx1, .row 24 ub 4 0) :: (some gx2, .row 219 (vT218 x2v (Gp ua2) ua3 ua4) 2 0) :: (ua2, .row 9 ua5 (ua4 * kStr.size) 0) :: (Gx3, .row 9 uo (cx3 * kStr.size) 0) :: Lr)) (_ : Els (kInt .u64) S1 w1 ub x1) (_ : ub.length = 4) (_ : Els kStr S1 w1 ua5 x2v.l) (_ : x2v.l.length = ua3) (_ : Els kStr S1 w1 uo x3) (_ : x3.length = nx3) (junk : Nat → Value),
 Goes Tg (base 181) Jgl ⟨lfr 26 [(1, (pt gx1 0)), (2, (pt gx2 0)), (3, .slice (Gp Gx3) nx3 cx3), (5, .i x5)] junk, []⟩ w1 (Done Tg 181 (Rets (Post.z22 nz wz S0 w0 Lr r)))
theorem W.z25 {nz wz S0 w0 Lr} : (∀ a r, M.a9 a = some r → (L.z23 nz wz S0 w0 Lr) a r) ∧ (∀ a r, M.a1l a = some r → (L.z24 nz wz S0 w0 Lr) a r) := by
 refine M.a9.mutual_partial_correctness (L.z23 nz wz S0 w0 Lr) (L.z24 nz wz S0 w0 Lr) ?_ ?_
 ·
  intro ua6 ua7 ⟨x1, x2v, x3, x5⟩ r h S1 w1 hx gx1 ub gx2 ua2 ua3 ua4 ua5 Gx3 nx3 cx3 uo p1 fx1 lx1 ua8 ue fx3 lx3 junk
  try dsimp only at h
  subst ue
  subst lx3
  refine Gn 5 [(6, .bool (decide (x5 < 256)))] (Ys 111010010 B181 (Ys 111010011 B181 Jgi)) ?_
  refine Gi h (fun h11 h => ?_) fun h11 h => ?_
  ·
   rw [dt h11]
   refine Gm 11 [([7, 4], .i x5)] (Zr Qdr [0, 1, 2, 3] Jgo) ?_
   refine Xp 24 1 8 24 ⟨gx1, 0, none⟩ ub Xa (by kernel_rfl) (by kernel_rfl) (by rw [lx1]; kernel_rfl) (At_all (p1.mem 0 rfl)) ?_
   refine Gn 2 [(9, .i x5), (10, .int .u8 (wr .u8 x5))] (Zr Qdr [3] Jgo) ?_
   refine Gb h fun y12 e13 h => ?_
   refine Gc (kc 214 [8, 10] #[24, 5]) 11 4 214 _ (W.z20 x1 (wr .u8 x5) y12 e13 _ p1 fx1 lx1) ?_
   rintro _ w4 ⟨S4, rfl, z4, p4⟩
   refine Gn 1 [] Jgo ?_
   refine Gi h (fun h14 h => ?_) fun h14 h => ?_
   ·
    rw [h14]
    refine Gn 5 [(12, .slice (Gp Gx3) x3.length cx3), (13, .i x5), (14, .int .u8 (wr .u8 x5))] (Yt 11101001100110 B181 [3, 4, 5, 6, 7] Jgl) ?_
    have f16 : Els (kInt .u8) S4 w4 ([.int .u8 (wr .u8 x5)] : List Value) [wr .u8 x5] := by exact (Els.cons (K := (kInt .u8)) (vs := [.int .u8 (wr .u8 x5)]) (x := wr .u8 x5) rfl Els.nil)
    refine Om (.buildSlice 141 1 #[(0, 14)]) 15 141 (fun b => .slice (Gp (some b)) 1 1) 5 ([.int .u8 (wr .u8 x5)] : List Value) (1 * (kInt .u8).size) p4 Xa fun b15 w5 z5 p5 => ?_
    obtain ⟨S6, z6, p6, f18⟩ := p5.freezeRd 0 rfl (f16.ext z5) (by decide)
    refine Op_.b2s_n 141 9 15 16 9 5 (b2s [wr .u8 x5]) rfl rfl f18 Xa (by kernel_rfl) (by kernel_rfl) (by kernel_rfl) (by kernel_rfl) ?_
    have f20 : Els kStr S6 w5 ([.string (b2s [wr .u8 x5])] : List Value) [b2s [wr .u8 x5]] := by exact (Els.cons (K := kStr) (vs := [.string (b2s [wr .u8 x5])]) (x := b2s [wr .u8 x5]) rfl Els.nil)
    refine Om (.buildSlice 43 1 #[(0, 16)]) 17 43 (fun b => .slice (Gp (some b)) 1 1) 9 ([.string (b2s [wr .u8 x5])] : List Value) (1 * kStr.size) p6 Xa fun b19 w7 z7 p7 => ?_
    refine Gg h fun g25 h => ?_
    refine On (K := kStr) 43 12 17 18 43 9 5 (.string ⟨#[]⟩) 16 x3.length cx3 1 x3 [b2s [wr .u8 x5]] (x3 ++ [b2s [wr .u8 x5]]) (Gp (some b19)) 1 rfl rfl rfl p7 rfl (fx3.ext (((z4.t z5).t z6).t z7)) Xa (f20.ext z7) (src_own p7 (q := 0) rfl) g25 fun w8 G26 c27 ua9 z8 p8 f29 => ?_
    refine Gn 2 [(3, .slice (Gp G26) ((x3 ++ [b2s [wr .u8 x5]]).length) c27)] Jgl ?_
    have p8 := (p8.dp 0).dp 0
    exact Gj 26 [(1, (pt gx1 0)), (2, (pt gx2 0)), (3, .slice (Gp G26) ((x3 ++ [b2s [wr .u8 x5]]).length) c27), (5, .i x5)] (ua7 _ _ h _ _ (((((hx.t z4).t z5).t z6).t z7).t z8) _ _ _ _ _ _ _ _ _ _ _ p8 (fx1.ext ((((z4.t z5).t z6).t z7).t z8)) lx1 (ua8.ext ((((z4.t z5).t z6).t z7).t z8)) rfl f29 rfl)
   ·
    rw [bf h14]
    refine Gn 2 [] Jgl ?_
    exact Gj 26 [(1, (pt gx1 0)), (2, (pt gx2 0)), (3, .slice (Gp Gx3) x3.length cx3), (5, .i x5)] (ua7 _ _ h _ _ (hx.t z4) _ _ _ _ _ _ _ _ _ _ _ p4 (fx1.ext z4) lx1 (ua8.ext z4) rfl (fx3.ext z4) rfl)
  ·
   rw [df h11]
   refine Gn 9 [(20, .slice (Gp Gx3) x3.length cx3), (21, .i (x3.length : Int)), (22, .bool (decide ((x3.length : Int) > 8)))] (Ys 111101 B181 Jgs) ?_
   refine Gi h (fun h34 h => ?_) fun h34 h => ?_
   ·
    rw [dt h34]
    refine Gn 3 [] (Yt 11110100 B181 [0, 1] Jgu) ?_
    refine Gb h fun y35 e36 h => ?_
    refine Gc (kc 184 [] #[]) 23 219 184 _ (W.z21 y35 e36  p1 ) ?_
    rintro _ w9 ⟨S9, uaa, uab, uac, rfl, z9, p9, uad, rfl⟩
    have p9 := (p9.dp 0).dp 2
    refine So 219 2 23 0 0 gx2 0 (ag (vT218 y35 uaa y35.l.length uac)) (vT218 y35 uaa y35.l.length uac) p9 rfl Xd fun w10 z10 p10 => ?_
    refine Gn 1 [] Jgu ?_
    obtain rfl := sj h
    have p10 := p10.dp 1
    exact R1 Tryz.f181 (.cell 2 219) (ag (vT218 y35 uaa y35.l.length uac)) (Rn gx2 (p10.pa 0 0)) ⟨_, _, _, _, rfl, ((hx.t z9).t z10), p10.drop, (uad.ext z10), rfl⟩
   ·
    rw [df h34]
    refine Gn 6 [(24, .slice (Gp Gx3) x3.length cx3), (25, .agg #[.slice (Gp Gx3) x3.length cx3, .bool true])] (Yt 111110 B181 [2] Jgw) ?_
    refine So 219 2 25 0 1 gx2 0 (.agg #[.slice (Gp Gx3) x3.length cx3, .bool true]) [.slice (Gp Gx3) x3.length cx3, .bool true] p1 rfl Xd fun w11 z11 p11 => ?_
    refine Gn 1 [] Jgw ?_
    obtain ⟨S12, z12, p12, f37⟩ := p11.freezeRd 3 rfl (fx3.ext z11) (by decide)
    obtain rfl := sj h
    have p12 := ((p12.dp 0).dp 1).dp 1
    exact R1 Tryz.f181 (.cell 2 219) (.agg #[.slice (Gp Gx3) x3.length cx3, .bool true]) (Rn gx2 (p12.pa 0 0)) ⟨_, _, _, _, rfl, ((hx.t z11).t z12), p12.drop, f37, rfl⟩
 ·
  intro uae uaf ⟨x1, x2v, x3, x5⟩ r h S1 w1 hx gx1 ub gx2 ua2 ua3 ua4 ua5 Gx3 nx3 cx3 uo p1 fx1 lx1 ua8 ue fx3 lx3 junk
  try dsimp only at h
  subst ue
  subst lx3
  refine Gm 6 [([19, 5], .i (wr .i64 (x5 + 1)))] Jgj ?_
  exact Gj 26 [(1, (pt gx1 0)), (2, (pt gx2 0)), (3, .slice (Gp Gx3) x3.length cx3), (5, .i (wr .i64 (x5 + 1)))] (uaf _ _ h _ _ hx _ _ _ _ _ _ _ _ _ _ _ p1 fx1 lx1 ua8 rfl fx3 rfl)
theorem W.z23 {nz wz S0 w0 Lr} : ∀ a r, M.a9 a = some r → (L.z23 nz wz S0 w0 Lr) a r := (W.z25).1
theorem W.z24 {nz wz S0 w0 Lr} : ∀ a r, M.a1l a = some r → (L.z24 nz wz S0 w0 Lr) a r := (W.z25).2
theorem W.z22 (x0 : List Int) (r : T218) (h : M.a3x x0 = some r) {nz wz S0 w0 Lr} (ug) (p0 : Hp nz wz S0 w0 (Lr)) (fx0 : Els (kInt .u64) S0 w0 ug x0) (lx0 : ug.length = 4) :
  Calls Tg 181 #[.agg ug.toArray] w0 (Rets (Post.z22 nz wz S0 w0 Lr r)) := by
 refine Zf Tryz.f181 B181 25 ?_
 refine Gj 26 [(0, .agg ug.toArray)] fun junk => ?_
 delta M.a3x at h
 refine Gn 2 [] (Yt 10 B181 [0, 1] (Ys 11 B181 [])) ?_
 refine Op_.box 24 0 1 0 (.agg ug.toArray) ug p0 Xa (by kernel_rfl) rfl fun b1 w2 z2 p2 => ?_
 replace p2 : Hp nz wz S0 w2 ((some b1, .row 24 ug 4 0) :: Lr) := by rw [show (ug).length = 4 from lx0] at p2; exact p2
 refine Oa 219 2 0 (.agg #[.slice none 0 0, .bool false]) [.slice none 0 0, .bool false] p2 Xa fun b3 w3 z3 p3 => ?_
 refine Gn 12 [(3, .slice none 0 0), (5, .i 0)] Jgj ?_
 have p3 : Hp nz wz S0 w3 ((none, .row 9 [] (0 * kStr.size) 0) :: (some b3, .row 219 [.slice none 0 0, .bool false] 2 0) :: (some b1, .row 24 ug 4 0) :: Lr) := p3.nilRow' 9
 have p3 : Hp nz wz S0 w3 ((none, .row 9 [] (0 * kStr.size) 0) :: (none, .row 9 [] (0 * kStr.size) 0) :: (some b3, .row 219 [.slice (Gp none) 0 0, .bool false] 2 0) :: (some b1, .row 24 ug 4 0) :: Lr) := p3.nilRow' 9
 have p3 := (((p3.fr 0).fr 1).fr 2).fr 3
 exact Gj 26 [(1, (pt b1 0)), (2, (pt b3 0)), (3, .slice (Gp none) 0 0), (5, .i 0)] (W.z23 _ _ h _ _ (z2.t z3) _ _ _ none 0 0 [] none 0 0 [] p3 (fx0.ext (z2.t z3)) lx0 (Els.nil (K := kStr)) rfl (Els.nil (K := kStr)) rfl)
def Jh1 := Yt 10 B183 [0] (Ys 11 B183 [])
def Jh3 := Yt 110 B183 [1] (Ys 111 B183 [])
def Jh5 := Yt 1110 B183 [1, 2] (Ys 1111 B183 [])
def Jh6 := Ys 11111 B183 []
def Jh7 := Ys 111101 B183 Jh6
def Jh8 := Ys 11110101 B183 Jh6
def Jh9 := Yt 11110100 B183 [0, 1] Jh8
def Jha := Ys 111111 B183 []
def Jhb := Yt 111110 B183 [2] Jha
def Post.z26 (r : T218) (v : Value) (w' : World) : Prop :=
 ∃ S' u9z ua0 ua1, v = (ag (vT218 r u9z ua0 ua1)) ∧ Ext S0 w0 S' w' ∧ Hp nz wz S' w' (Lr) ∧ Rd kStr S' w' u9z ua1 r.l ∧ r.l.length = ua0
theorem W.z26 (x0 : List ByteArray) (r : T218) (h : M.au x0 = some r) {nz wz S0 w0 Lr} (Gx0 nx0 cx0 uag) (p0 : Hp nz wz S0 w0 ((Gx0, .row 9 uag (cx0 * kStr.size) 0) :: Lr)) (fx0 : Els kStr S0 w0 uag x0) (lx0 : x0.length = nx0) :
  Calls Tg 183 #[.slice (Gp Gx0) nx0 cx0] w0 (Rets (Post.z26 nz wz S0 w0 Lr r)) := by
 subst lx0
 refine Zf Tryz.f183 B183 12 ?_
 refine Gj 13 [(0, .slice (Gp Gx0) x0.length cx0)] fun junk => ?_
 delta M.au at h
 refine Gn 2 [] Jh1 ?_
 refine Oa 219 2 0 (.agg #[.slice none 0 0, .bool false]) [.slice none 0 0, .bool false] p0 Xa fun b2 w2 z2 p2 => ?_
 refine Gn 4 [(3, .slice (Gp Gx0) x0.length cx0)] Jh3 ?_
 have p2 := p2.fr 1
 refine Gg h fun g4 h => ?_
 refine Gc (kc 126 [3] #[43]) 4 0 126 _ (sortS_calls Tryz.sortS p2 (fx0.ext z2) rfl g4) ?_
 rintro _ w3 ⟨rfl, z3, cs5, p3, f6⟩
 refine Gn 4 [(5, .slice (Gp Gx0) x0.length cx0)] Jh5 ?_
 refine Gc (kc 57 [5] #[43]) 6 43 57 _ (compactS_calls (zs := (cmpL (srtS x0))) Tryz.compS p3 f6 (srtS_len rfl) rfl g4) ?_
 rintro _ w4 ⟨rfl, z4, cs7, p4, f8⟩
 refine Gm 9 [([0, 7], .slice (Gp Gx0) ((cmpL (srtS x0)).length) cx0), ([8], .i ((cmpL (srtS x0)).length : Int)), ([9], .bool (decide (((cmpL (srtS x0)).length : Int) > 32)))] Jh7 ?_
 refine Gi h (fun h9 h => ?_) fun h9 h => ?_
 ·
  rw [dt h9]
  refine Gn 3 [] Jh9 ?_
  refine Gb h fun y10 e11 h => ?_
  refine Gc (kc 184 [] #[]) 10 219 184 _ (W.z21 y10 e11  p4 ) ?_
  rintro _ w5 ⟨S5, uah, uai, uaj, rfl, z5, p5, uak, rfl⟩
  refine So 219 2 10 0 1 b2 0 (ag (vT218 y10 uah y10.l.length uaj)) (vT218 y10 uah y10.l.length uaj) p5 rfl Xd fun w6 z6 p6 => ?_
  refine Gn 1 [] Jh8 ?_
  obtain rfl := sj h
  have p6 := p6.dp 0
  exact R1 Tryz.f183 (.cell 2 219) (ag (vT218 y10 uah y10.l.length uaj)) (Rn b2 (p6.pa 0 0)) ⟨_, _, _, _, rfl, ((((z2.t z3).t z4).t z5).t z6), p6.drop, (uak.ext z6), rfl⟩
 ·
  rw [df h9]
  refine Gn 6 [(11, .slice (Gp Gx0) ((cmpL (srtS x0)).length) cx0), (12, .agg #[.slice (Gp Gx0) ((cmpL (srtS x0)).length) cx0, .bool true])] Jhb ?_
  refine So 219 2 12 0 1 b2 0 (.agg #[.slice (Gp Gx0) ((cmpL (srtS x0)).length) cx0, .bool true]) [.slice (Gp Gx0) ((cmpL (srtS x0)).length) cx0, .bool true] p4 rfl Xd fun w7 z7 p7 => ?_
  refine Gn 1 [] Jha ?_
  obtain ⟨S8, z8, p8, f12⟩ := p7.freezeRd 0 rfl (f8.ext z7) (by decide)
  obtain rfl := sj h
  have p8 := p8.dp 0
  exact R1 Tryz.f183 (.cell 2 219) (.agg #[.slice (Gp Gx0) ((cmpL (srtS x0)).length) cx0, .bool true]) (Rn b2 (p8.pa 0 0)) ⟨_, _, _, _, rfl, ((((z2.t z3).t z4).t z7).t z8), p8.drop, f12, rfl⟩
def Jhc := Ys 11111 B231 []
def Qee := Yq 11110100 B231
def Jhe := Zl Qee (Zb 0 Jhc)
def Jhf := Zc Qee Jhe
def Jhh := Zb 1 (Ys 11110100111 B231 Jhe)
def Qeg := Yq 1111010011001100 B231
def Jhj := Zl Qeg (Zb 2 Jhh)
def Jhk := Zc Qeg Jhj
def Jhr := Ys 111111 B231 []
def Jhw := Zb 3 (Ys 1111010011001100111 B231 Jhj)
def Qeu := Yq 1111010011001100110011 B231
def Jhz := Zc Qeu Jhw
def Ji1 := Ys 1111010011001100110010101 B231 Jhz
def Post.z27 (r : T218) (v : Value) (w' : World) : Prop :=
 ∃ S' u9z ua0 ua1, v = (ag (vT218 r u9z ua0 ua1)) ∧ Ext S0 w0 S' w' ∧ Hp nz wz S' w' (Lr) ∧ Rd kStr S' w' u9z ua1 r.l ∧ r.l.length = ua0
def L.z28 : T218 × T218 × (List ByteArray) × (List ByteArray) × Int × Int → T218 → Prop := fun ⟨x3v, x4v, x5, x20, x21, x22⟩ r => ∀ S1 w1, Ext S0 w0 S1 w1 → ∀ gx3 ual uam uan gx4 uao uap uaq uar Gx5 nx5 cx5 uj uas uat uau (_ : Hp nz wz S1 w1 ((some gx3, .row 219 (vT218 x3v ual uam uan) 2 0) :: (some gx4, .row 219 (vT218 x4v (Gp uao) uap uaq) 2 0) :: (uao, .row 9 uar (uaq * kStr.size) 0) :: (Gx5, .row 9 uj (cx5 * kStr.size) 0) :: Lr)) (_ : Rd kStr S1 w1 ual uan x3v.l) (_ : x3v.l.length = uam) (_ : Els kStr S1 w1 uar x4v.l) (_ : x4v.l.length = uap) (_ : Els kStr S1 w1 uj x5) (_ : x5.length = nx5) (_ : Rd kStr S1 w1 uas uau x20) (_ : x20.length = uat) (junk : Nat → Value),
 Goes Tg (base 231) Jhf ⟨lfr 50 [(3, (pt gx3 0)), (4, (pt gx4 0)), (5, .slice (Gp Gx5) nx5 cx5), (20, .slice uas uat uau), (21, .i x21), (22, .i x22)] junk, []⟩ w1 (Done Tg 231 (Rets (Post.z27 nz wz S0 w0 Lr r)))
def L.z29 : T218 × T218 × (List ByteArray) × ByteArray × (List ByteArray) × Int × Int × (List ByteArray) × Int × Int → T218 → Prop := fun ⟨x3v, x4v, x5, x7, x20, x21, x22, x27, x28, x29⟩ r => ∀ S1 w1, Ext S0 w0 S1 w1 → ∀ gx3 ual uam uan gx4 uao uap uaq uar Gx5 nx5 cx5 uj uas uat uau uav uaw uax (_ : Hp nz wz S1 w1 ((some gx3, .row 219 (vT218 x3v ual uam uan) 2 0) :: (some gx4, .row 219 (vT218 x4v (Gp uao) uap uaq) 2 0) :: (uao, .row 9 uar (uaq * kStr.size) 0) :: (Gx5, .row 9 uj (cx5 * kStr.size) 0) :: Lr)) (_ : Rd kStr S1 w1 ual uan x3v.l) (_ : x3v.l.length = uam) (_ : Els kStr S1 w1 uar x4v.l) (_ : x4v.l.length = uap) (_ : Els kStr S1 w1 uj x5) (_ : x5.length = nx5) (_ : Rd kStr S1 w1 uas uau x20) (_ : x20.length = uat) (_ : Rd kStr S1 w1 uav uax x27) (_ : x27.length = uaw) (junk : Nat → Value),
 Goes Tg (base 231) Jhk ⟨lfr 50 [(3, (pt gx3 0)), (4, (pt gx4 0)), (5, .slice (Gp Gx5) nx5 cx5), (7, .string x7), (20, .slice uas uat uau), (21, .i x21), (22, .i x22), (27, .slice uav uaw uax), (28, .i x28), (29, .i x29)] junk, []⟩ w1 (Done Tg 231 (Rets (Post.z27 nz wz S0 w0 Lr r)))
theorem W.z2a {nz wz S0 w0 Lr} : (∀ a r, M.aa a = some r → (L.z28 nz wz S0 w0 Lr) a r) ∧ (∀ a r, M.av a = some r → (L.z29 nz wz S0 w0 Lr) a r) := by
 refine M.aa.mutual_partial_correctness (L.z28 nz wz S0 w0 Lr) (L.z29 nz wz S0 w0 Lr) ?_ ?_
 ·
  intro uay uaz ⟨x3v, x4v, x5, x20, x21, x22⟩ r h S1 w1 hx gx3 ual uam uan gx4 uao uap uaq uar Gx5 nx5 cx5 uj uas uat uau p1 ub0 u9v ub1 um fx5 lx5 ub2 ub3 junk
  try dsimp only at h
  subst u9v
  subst um
  subst lx5
  subst ub3
  refine Gn 5 [(23, .bool (decide (x22 < x21)))] (Ys 1111010010 B231 (Ys 1111010011 B231 Jhe)) ?_
  refine Gi h (fun h22 h => ?_) fun h22 h => ?_
  ·
   rw [dt h22]
   refine Gn 6 [] (Yt 1111010011000 B231 [0, 1, 2] (Ys 1111010011001 B231 Jhh)) ?_
   refine Gg h fun g23 h => ?_
   refine Gg h fun g24 h => ?_
   refine Oi 43 20 22 24 0 9 .i64 x22 (gi x20 x22) rfl rfl ub2 Xa g23 g24 fun a25 _ f26 q27 => ?_
   obtain rfl := q27
   refine Xb 9 24 25 9 a25 (.string (gi x20 x22)) (f26.cell 0 _ rfl) ?_
   refine Gn 5 [(7, .string (gi x20 x22)), (26, (pt gx3 0))] (Yt 11110100110010 B231 [1, 2, 3] (Ys 11110100110011 B231 Jhh)) ?_
   refine Xb 43 26 27 43 ⟨gx3, 0, none⟩ (.slice ual x3v.l.length uan) (p1.c 0 0) ?_
   refine Gn 5 [(28, .i (x3v.l.length : Int)), (29, .i 0)] Jhk ?_
   exact Gj 50 [(3, (pt gx3 0)), (4, (pt gx4 0)), (5, .slice (Gp Gx5) x5.length cx5), (7, .string (gi x20 x22)), (20, .slice uas x20.length uau), (21, .i x21), (22, .i x22), (27, .slice ual x3v.l.length uan), (28, .i (x3v.l.length : Int)), (29, .i 0)] (uaz _ _ h _ _ hx _ _ _ _ _ _ _ _ _ _ _ _ _ _ _ _ _ _ _ p1 ub0 rfl ub1 rfl fx5 rfl ub2 rfl ub0 rfl)
  ·
   rw [df h22]
   refine Gn 5 [(48, .slice (Gp Gx5) x5.length cx5)] (Yt 111110 B231 [1, 2] Jhr) ?_
   have p1 := p1.fr 3
   refine Gb h fun y32 e33 h => ?_
   refine Gc (kc 183 [48] #[43]) 49 219 183 _ (W.z26 x5 y32 e33 _ _ _ _ p1 fx5 rfl) ?_
   rintro _ w7 ⟨S7, ub4, ub5, ub6, rfl, z7, p7, ub7, rfl⟩
   have p7 := p7.dp 0
   refine So 219 4 49 0 0 gx4 0 (ag (vT218 y32 ub4 y32.l.length ub6)) (vT218 y32 ub4 y32.l.length ub6) p7 rfl Xd fun w8 z8 p8 => ?_
   refine Gn 1 [] Jhr ?_
   obtain rfl := sj h
   have p8 := p8.dp 1
   exact R1 Tryz.f231 (.cell 4 219) (ag (vT218 y32 ub4 y32.l.length ub6)) (Rn gx4 (p8.pa 0 0)) ⟨_, _, _, _, rfl, ((hx.t z7).t z8), p8.drop, (ub7.ext z8), rfl⟩
 ·
  intro ub8 uay ub9 uaz ⟨x3v, x4v, x5, x7, x20, x21, x22, x27, x28, x29⟩ r h S1 w1 hx gx3 ual uam uan gx4 uao uap uaq uar Gx5 nx5 cx5 uj uas uat uau uav uaw uax p1 ub0 u9v ub1 um fx5 lx5 ub2 ub3 uba ubb junk
  try dsimp only at h
  subst u9v
  subst um
  subst lx5
  subst ub3
  subst ubb
  refine Gn 5 [(30, .bool (decide (x29 < x28)))] (Ys 111101001100110010 B231 (Ys 111101001100110011 B231 Jhj)) ?_
  refine Gi h (fun h34 h => ?_) fun h34 h => ?_
  ·
   rw [dt h34]
   refine Gn 6 [] (Yt 111101001100110011000 B231 [0, 1, 2] (Ys 111101001100110011001 B231 Jhw)) ?_
   refine Gg h fun g35 h => ?_
   refine Gg h fun g36 h => ?_
   refine Oi 43 27 29 31 0 9 .i64 x29 (gi x27 x29) rfl rfl uba Xa g35 g36 fun a37 _ f38 q39 => ?_
   obtain rfl := q39
   refine Xb 9 31 32 9 a37 (.string (gi x27 x29)) (f38.cell 0 _ rfl) ?_
   refine Gm 12 [([9, 35], .string (gi x27 x29)), ([33], .string x7), ([34], .i (x7.size : Int)), ([36], .i ((gi x27 x29).size : Int)), ([37], .i (wr .i64 ((x7.size : Int) + ((gi x27 x29).size : Int)))), ([38], .bool (decide (wr .i64 ((x7.size : Int) + ((gi x27 x29).size : Int)) > 32)))] (Ys 11110100110011001100101 B231 Jhz) ?_
   refine Gi h (fun h40 h => ?_) fun h40 h => ?_
   ·
    rw [dt h40]
    refine Gn 3 [] (Yt 1111010011001100110010100 B231 [0, 1] Ji1) ?_
    refine Gb h fun y41 e42 h => ?_
    refine Gc (kc 184 [] #[]) 39 219 184 _ (W.z21 y41 e42  p1 ) ?_
    rintro _ w9 ⟨S9, uaa, uab, uac, rfl, z9, p9, uad, rfl⟩
    have p9 := (p9.dp 0).dp 2
    refine So 219 4 39 0 0 gx4 0 (ag (vT218 y41 uaa y41.l.length uac)) (vT218 y41 uaa y41.l.length uac) p9 rfl Xd fun w10 z10 p10 => ?_
    refine Gn 1 [] Ji1 ?_
    obtain rfl := sj h
    have p10 := p10.dp 1
    exact R1 Tryz.f231 (.cell 4 219) (ag (vT218 y41 uaa y41.l.length uac)) (Rn gx4 (p10.pa 0 0)) ⟨_, _, _, _, rfl, ((hx.t z9).t z10), p10.drop, (uad.ext z10), rfl⟩
   ·
    rw [df h40]
    refine Gn 6 [(40, .slice (Gp Gx5) x5.length cx5), (41, .string x7), (42, .string (gi x27 x29))] (Zr Qeu [3, 4, 5, 6] Jhw) ?_
    refine Gg h fun g43 h => ?_
    refine Op_.cat_n 9 41 42 9 43 9 x7 (gi x27 x29) (x7 ++ (gi x27 x29)) rfl Xa (by kernel_rfl) (by kernel_rfl) g43 ?_
    have f45 : Els kStr S1 w1 ([.string (x7 ++ (gi x27 x29))] : List Value) [x7 ++ (gi x27 x29)] := by exact (Els.cons (K := kStr) (vs := [.string (x7 ++ (gi x27 x29))]) (x := x7 ++ (gi x27 x29)) rfl Els.nil)
    refine Om (.buildSlice 43 1 #[(0, 43)]) 44 43 (fun b => .slice (Gp (some b)) 1 1) 9 ([.string (x7 ++ (gi x27 x29))] : List Value) (1 * kStr.size) p1 Xa fun b44 w11 z11 p11 => ?_
    refine Gg h fun g50 h => ?_
    refine On (K := kStr) 43 40 44 45 43 9 4 (.string ⟨#[]⟩) 16 x5.length cx5 1 x5 [x7 ++ (gi x27 x29)] (x5 ++ [x7 ++ (gi x27 x29)]) (Gp (some b44)) 1 rfl rfl rfl p11 rfl (fx5.ext z11) Xa (f45.ext z11) (src_own p11 (q := 0) rfl) g50 fun w12 G51 c52 ubc z12 p12 f54 => ?_
    refine Gm 8 [([5], .slice (Gp G51) ((x5 ++ [x7 ++ (gi x27 x29)]).length) c52), ([46, 29], .i (wr .i64 (x29 + 1)))] Jhk ?_
    have p12 := p12.dp 0
    exact Gj 50 [(3, (pt gx3 0)), (4, (pt gx4 0)), (5, .slice (Gp G51) ((x5 ++ [x7 ++ (gi x27 x29)]).length) c52), (7, .string x7), (20, .slice uas x20.length uau), (21, .i x21), (22, .i x22), (27, .slice uav x27.length uax), (28, .i x28), (29, .i (wr .i64 (x29 + 1)))] (uaz _ _ h _ _ ((hx.t z11).t z12) _ _ _ _ _ _ _ _ _ _ _ _ _ _ _ _ _ _ _ p12 (ub0.ext (z11.t z12)) rfl (ub1.ext (z11.t z12)) rfl f54 rfl (ub2.ext (z11.t z12)) rfl (uba.ext (z11.t z12)) rfl)
  ·
   rw [df h34]
   refine Gm 8 [([47, 22], .i (wr .i64 (x22 + 1)))] Jhf ?_
   exact Gj 50 [(3, (pt gx3 0)), (4, (pt gx4 0)), (5, .slice (Gp Gx5) x5.length cx5), (20, .slice uas x20.length uau), (21, .i x21), (22, .i (wr .i64 (x22 + 1)))] (ub9 _ _ h _ _ hx _ _ _ _ _ _ _ _ _ _ _ _ _ _ _ _ p1 ub0 rfl ub1 rfl fx5 rfl ub2 rfl)
theorem W.z28 {nz wz S0 w0 Lr} : ∀ a r, M.aa a = some r → (L.z28 nz wz S0 w0 Lr) a r := (W.z2a).1
theorem W.z29 {nz wz S0 w0 Lr} : ∀ a r, M.av a = some r → (L.z29 nz wz S0 w0 Lr) a r := (W.z2a).2
def Ji4 := Ys 111 B231 []
def Ji5 := Ys 1101 B231 Ji4
def Ji6 := Ys 110101 B231 Ji4
def L.z2b : T218 × T218 × T218 × Bool → T218 → Prop := fun ⟨x2v, x3v, x4v, x17⟩ r => ∀ S1 w1, Ext S0 w0 S1 w1 → ∀ gx2 ubd ua3 ua4 gx3 ual uam uan gx4 uao uap uaq uar (_ : Hp nz wz S1 w1 ((some gx2, .row 219 (vT218 x2v ubd ua3 ua4) 2 0) :: (some gx3, .row 219 (vT218 x3v ual uam uan) 2 0) :: (some gx4, .row 219 (vT218 x4v (Gp uao) uap uaq) 2 0) :: (uao, .row 9 uar (uaq * kStr.size) 0) :: Lr)) (_ : Rd kStr S1 w1 ubd ua4 x2v.l) (_ : x2v.l.length = ua3) (_ : Rd kStr S1 w1 ual uan x3v.l) (_ : x3v.l.length = uam) (_ : Els kStr S1 w1 uar x4v.l) (_ : x4v.l.length = uap) (junk : Nat → Value),
 Goes Tg (base 231) Ji5 ⟨lfr 50 [(2, (pt gx2 0)), (3, (pt gx3 0)), (4, (pt gx4 0)), (17, .bool x17)] junk, []⟩ w1 (Done Tg 231 (Rets (Post.z27 nz wz S0 w0 Lr r)))
theorem W.z2b {nz wz S0 w0 Lr} : ∀ a r, M.a28 a = some r → L.z2b nz wz S0 w0 Lr a r := by
 intro ⟨x2v, x3v, x4v, x17⟩ r h S1 w1 hx gx2 ubd ua3 ua4 gx3 ual uam uan gx4 uao uap uaq uar p1 ua8 ue ub0 u9v ub1 um junk
 rw [M.a28] at h
 try dsimp only at h
 subst ue
 subst u9v
 subst um
 refine Gi h (fun h14 h => ?_) fun h14 h => ?_
 ·
  rw [h14]
  refine Gn 3 [] (Yt 110100 B231 [0, 1] Ji6) ?_
  refine Gb h fun y15 e16 h => ?_
  refine Gc (kc 184 [] #[]) 18 219 184 _ (W.z21 y15 e16  p1 ) ?_
  rintro _ w5 ⟨S5, uah, uai, uaj, rfl, z5, p5, uak, rfl⟩
  have p5 := (p5.dp 0).dp 0
  refine So 219 4 18 0 0 gx4 0 (ag (vT218 y15 uah y15.l.length uaj)) (vT218 y15 uah y15.l.length uaj) p5 rfl Xd fun w6 z6 p6 => ?_
  refine Gn 1 [] Ji6 ?_
  obtain rfl := sj h
  have p6 := p6.dp 1
  exact R1 Tryz.f231 (.cell 4 219) (ag (vT218 y15 uah y15.l.length uaj)) (Rn gx4 (p6.pa 0 0)) ⟨_, _, _, _, rfl, ((hx.t z5).t z6), p6.drop, (uak.ext z6), rfl⟩
 ·
  rw [bf h14]
  refine Gn 10 [(5, .slice none 0 0), (19, (pt gx2 0))] (Yt 111100 B231 [1, 2, 3] (Ys 111101 B231 Jhc)) ?_
  refine Xb 43 19 20 43 ⟨gx2, 0, none⟩ (.slice ubd x2v.l.length ua4) (p1.c 0 0) ?_
  refine Gn 5 [(21, .i (x2v.l.length : Int)), (22, .i 0)] Jhf ?_
  have p1 := p1.dp 0
  have p1 : Hp nz wz S1 w1 ((none, .row 9 [] (0 * kStr.size) 0) :: (some gx3, .row 219 (vT218 x3v ual x3v.l.length uan) 2 0) :: (some gx4, .row 219 (vT218 x4v (Gp uao) x4v.l.length uaq) 2 0) :: (uao, .row 9 uar (uaq * kStr.size) 0) :: Lr) := p1.nilRow' 9
  have p1 := (((p1.fr 0).fr 3).fr 3).fr 3
  exact Gj 50 [(3, (pt gx3 0)), (4, (pt gx4 0)), (5, .slice (Gp none) 0 0), (20, .slice ubd x2v.l.length ua4), (21, .i (x2v.l.length : Int)), (22, .i 0)] (W.z28 _ _ h _ _ hx _ _ _ _ _ _ _ _ _ none 0 0 [] _ _ _ p1 ub0 rfl ub1 rfl (Els.nil (K := kStr)) rfl ua8 rfl)
def Qf6 := Yq 1100 B231
theorem W.z27 (x0 : T218) (x1 : T218) (r : T218) (h : M.a29 x0 x1 = some r) {nz wz S0 w0 Lr} (ube ubf ubg ubh ubi ubj) (p0 : Hp nz wz S0 w0 (Lr)) (ubk : Rd kStr S0 w0 ube ubg x0.l) (ubl : x0.l.length = ubf) (ubm : Rd kStr S0 w0 ubh ubj x1.l) (ubn : x1.l.length = ubi) :
  Calls Tg 231 #[(ag (vT218 x0 ube ubf ubg)), (ag (vT218 x1 ubh ubi ubj))] w0 (Rets (Post.z27 nz wz S0 w0 Lr r)) := by
 subst ubl
 subst ubn
 refine Zf Tryz.f231 B231 48 ?_
 refine Gj 50 [(0, (ag (vT218 x0 ube x0.l.length ubg))), (1, (ag (vT218 x1 ubh x1.l.length ubj)))] fun junk => ?_
 delta M.a29 at h
 refine Gn 2 [] (Yt 10 B231 [0, 1, 2] (Ys 11 B231 [])) ?_
 refine Ob 219 0 2 0 (ag (vT218 x0 ube x0.l.length ubg)) (vT218 x0 ube x0.l.length ubg) p0 Xa fun b1 w2 z2 p2 => ?_
 refine Ob 219 1 3 0 (ag (vT218 x1 ubh x1.l.length ubj)) (vT218 x1 ubh x1.l.length ubj) p2 Xa fun b3 w3 z3 p3 => ?_
 refine Oa 219 4 0 (.agg #[.slice none 0 0, .bool false]) [.slice none 0 0, .bool false] p3 Xa fun b5 w4 z4 p4 => ?_
 refine Gn 5 [(10, (pt b1 1))] (Zr Qf6 [1, 2, 3, 4, 5, 6, 7] Ji5) ?_
 refine Xb 4 10 11 4 ⟨b1, 1, none⟩ (.bool x0.known) (p4.c 2 1) ?_
 refine Gm 2 [([12, 13], .bool (!x0.known))] (Zr Qf6 [4, 5, 6, 7] Ji5) ?_
 refine Gi h (fun h7 h => ?_) fun h7 h => ?_
 ·
  rw [h7]
  have p4 : Hp nz wz S0 w4 ((some b5, .row 219 [.slice none 0 0, .bool false] 2 0) :: (some b3, .row 219 (vT218 x1 ubh x1.l.length ubj) 2 0) :: (some b1, .row 219 [.slice ube x0.l.length ubg, .bool true] 2 0) :: Lr) := by simp only [vT26, vT134, vT370, vT218, vT29, vT174, h7] at p4; exact p4
  refine Gn 1 [(14, (pt b3 1))] (Zr Qf6 [5, 6, 7] Ji5) ?_
  refine Xb 4 14 15 4 ⟨b3, 1, none⟩ (.bool x1.known) (p4.c 1 1) ?_
  refine Gm 3 [([16, 17], .bool (!x1.known))] Ji5 ?_
  have p4 : Hp nz wz S0 w4 ((none, .row 9 [] (0 * kStr.size) 0) :: (some b5, .row 219 [.slice none 0 0, .bool false] 2 0) :: (some b3, .row 219 (vT218 x1 ubh x1.l.length ubj) 2 0) :: (some b1, .row 219 [.slice ube x0.l.length ubg, .bool true] 2 0) :: Lr) := p4.nilRow' 9
  have p4 := (((p4.fr 0).fr 1).fr 2).fr 3
  exact Gj 50 [(2, (pt b1 0)), (3, (pt b3 0)), (4, (pt b5 0)), (17, .bool (!x1.known))] (W.z2b _ _ h _ _ ((z2.t z3).t z4) _ _ _ _ _ _ _ _ _ none 0 0 [] p4 (ubk.ext ((z2.t z3).t z4)) rfl (ubm.ext ((z2.t z3).t z4)) rfl (Els.nil (K := kStr)) rfl)
 ·
  have h7' := bf h7
  rw [h7']
  have p4 : Hp nz wz S0 w4 ((some b5, .row 219 [.slice none 0 0, .bool false] 2 0) :: (some b3, .row 219 (vT218 x1 ubh x1.l.length ubj) 2 0) :: (some b1, .row 219 [.slice ube x0.l.length ubg, .bool false] 2 0) :: Lr) := by simp only [vT26, vT134, vT370, vT218, vT29, vT174, h7'] at p4; exact p4
  refine Gm 5 [([14, 15, 16], undef), ([17], .bool true)] Ji5 ?_
  have p4 : Hp nz wz S0 w4 ((none, .row 9 [] (0 * kStr.size) 0) :: (some b5, .row 219 [.slice none 0 0, .bool false] 2 0) :: (some b3, .row 219 (vT218 x1 ubh x1.l.length ubj) 2 0) :: (some b1, .row 219 [.slice ube x0.l.length ubg, .bool false] 2 0) :: Lr) := p4.nilRow' 9
  have p4 := (((p4.fr 0).fr 1).fr 2).fr 3
  exact Gj 50 [(2, (pt b1 0)), (3, (pt b3 0)), (4, (pt b5 0)), (17, .bool true)] (W.z2b _ _ h _ _ ((z2.t z3).t z4) _ _ _ _ _ _ _ _ _ none 0 0 [] p4 (ubk.ext ((z2.t z3).t z4)) rfl (ubm.ext ((z2.t z3).t z4)) rfl (Els.nil (K := kStr)) rfl)
def Post.z2c (r : T218) (v : Value) (w' : World) : Prop :=
 ∃ S' u9z ua0 ua1, v = (ag (vT218 r u9z ua0 ua1)) ∧ Ext S0 w0 S' w' ∧ Hp nz wz S' w' (Lr) ∧ Rd kStr S' w' u9z ua1 r.l ∧ r.l.length = ua0
theorem W.z2c (r : T218) (h : M.a32 = some r) {nz wz S0 w0 Lr} (p0 : Hp nz wz S0 w0 (Lr)) :
  Calls Tg 183 #[.slice none 0 0] w0 (Rets (Post.z2c nz wz S0 w0 Lr r)) := by
 refine Zf Tryz.f183 B183 12 ?_
 refine Gj 13 [(0, .slice none 0 0)] fun junk => ?_
 delta M.a32 at h
 refine Gn 2 [] Jh1 ?_
 refine Oa 219 2 0 (.agg #[.slice none 0 0, .bool false]) [.slice none 0 0, .bool false] p0 Xa fun b1 w2 z2 p2 => ?_
 refine Gn 4 [(3, .slice none 0 0)] Jh3 ?_
 have p2 : Hp nz wz S0 w2 ((none, .row 9 [] (0 * kStr.size) 0) :: (some b1, .row 219 [.slice none 0 0, .bool false] 2 0) :: Lr) := p2.nilRow' 9
 refine Gg h fun g4 h => ?_
 refine Gc (kc 126 [3] #[43]) 4 0 126 _ (sortS_calls Tryz.sortS p2 (Els.nil (K := kStr)) rfl g4) ?_
 rintro _ w3 ⟨rfl, z3, cs5, p3, f6⟩
 refine Gn 4 [(5, .slice (Gp none) 0 0)] Jh5 ?_
 refine Gc (kc 57 [5] #[43]) 6 43 57 _ (compactS_calls (zs := (cmpL (srtS ([] : List ByteArray)))) Tryz.compS p3 f6 (srtS_len rfl) rfl g4) ?_
 rintro _ w4 ⟨rfl, z4, cs7, p4, f8⟩
 refine Gm 9 [([0, 7], .slice (Gp none) ((cmpL (srtS ([] : List ByteArray))).length) 0), ([8], .i ((cmpL (srtS ([] : List ByteArray))).length : Int)), ([9], .bool (decide (((cmpL (srtS ([] : List ByteArray))).length : Int) > 32)))] Jh7 ?_
 refine Gi h (fun h9 h => ?_) fun h9 h => ?_
 ·
  rw [dt h9]
  refine Gn 3 [] Jh9 ?_
  refine Gb h fun y10 e11 h => ?_
  refine Gc (kc 184 [] #[]) 10 219 184 _ (W.z21 y10 e11  p4 ) ?_
  rintro _ w5 ⟨S5, uah, uai, uaj, rfl, z5, p5, uak, rfl⟩
  have p5 := p5.dp 0
  refine So 219 2 10 0 0 b1 0 (ag (vT218 y10 uah y10.l.length uaj)) (vT218 y10 uah y10.l.length uaj) p5 rfl Xd fun w6 z6 p6 => ?_
  refine Gn 1 [] Jh8 ?_
  obtain rfl := sj h
  exact R1 Tryz.f183 (.cell 2 219) (ag (vT218 y10 uah y10.l.length uaj)) (Rn b1 (p6.pa 0 0)) ⟨_, _, _, _, rfl, ((((z2.t z3).t z4).t z5).t z6), p6.drop, (uak.ext z6), rfl⟩
 ·
  rw [df h9]
  refine Gn 6 [(11, .slice (Gp none) ((cmpL (srtS ([] : List ByteArray))).length) 0), (12, .agg #[.slice (Gp none) ((cmpL (srtS ([] : List ByteArray))).length) 0, .bool true])] Jhb ?_
  refine So 219 2 12 0 1 b1 0 (.agg #[.slice (Gp none) ((cmpL (srtS ([] : List ByteArray))).length) 0, .bool true]) [.slice (Gp none) ((cmpL (srtS ([] : List ByteArray))).length) 0, .bool true] p4 rfl Xd fun w7 z7 p7 => ?_
  refine Gn 1 [] Jha ?_
  obtain ⟨S8, z8, p8, f12⟩ := p7.freezeRd 0 rfl (f8.ext z7) (by decide)
  obtain rfl := sj h
  have p8 := p8.dp 0
  exact R1 Tryz.f183 (.cell 2 219) (.agg #[.slice (Gp none) ((cmpL (srtS ([] : List ByteArray))).length) 0, .bool true]) (Rn b1 (p8.pa 0 0)) ⟨_, _, _, _, rfl, ((((z2.t z3).t z4).t z7).t z8), p8.drop, f12, rfl⟩
def Jif := Ys 111 B232 []
def Jig := Ys 1111 B232 []
def Jih := Ys 111011 B232 Jig
def Qfb := Yq 1110110 B232
def Jim := Ys 11111 B232 []
def Post.z2d (r : List ByteArray) (v : Value) (w' : World) : Prop :=
 ∃ S' Gq nq cq csq, v = .slice (Gp Gq) nq cq ∧ Ext S0 w0 S' w' ∧ Hp nz wz S' w' ((Gq, .row 9 csq (cq * kStr.size) 0) :: Lr) ∧ Els kStr S' w' csq r ∧ r.length = nq
def L.z2e : Int → (List ByteArray) → Prop := fun x1 r => ∀ S1 w1, Ext S0 w0 S1 w1 → ∀ (_ : Hp nz wz S1 w1 (Lr)) (junk : Nat → Value),
 Goes Tg (base 232) Jif ⟨lfr 27 [(0, .slice none 0 0), (1, .i x1)] junk, []⟩ w1 (Done Tg 232 (Rets (Post.z2d nz wz S0 w0 Lr r)))
theorem W.z2e {nz wz S0 w0 Lr} : ∀ a r, M.a5t a = some r → L.z2e nz wz S0 w0 Lr a r := by
 intro x1 r h S1 w1 hx p1 junk
 rw [M.a5t] at h
 try dsimp only at h
 refine Gm 14 [([8], .i x1), ([9, 11], .slice none 0 0), ([10, 12, 13], .i 0), ([14, 1], .i (wr .i64 (x1 - 0)))] (Yt 111010 B232 [0, 1] Jih) ?_
 refine Gn 3 [(15, .i (wr .i64 (x1 - 0))), (16, .bool (decide (wr .i64 (x1 - 0) > 0)))] Jih ?_
 refine Gi h (fun h2 h => ?_) fun h2 h => ?_
 ·
  rw [dt h2]
  refine Gm 5 [([17, 18], .slice none 0 0), ([19], .i 0)] (Zr Qfb [3, 4, 5, 6, 7, 8, 9] Jig) ?_
  refine Op_.slN (sz := 1) 43 17 none (some 19) 20 43 9 Xa (by kernel_rfl) (by kernel_rfl) (by kernel_rfl) Bnd.no (Bnd.at_ .i64 (by kernel_rfl)) ?_
  refine Gn 1 [(21, .i (wr .i64 (x1 - 0)))] (Zr Qfb [5, 6, 7, 8, 9] Jig) ?_
  have p1 : Hp nz wz S1 w1 ((none, .row 9 [] (0 * kStr.size) 0) :: Lr) := p1.nilRow' 9
  refine Gg h fun g7 h => ?_
  refine Gg h fun g8 h => ?_
  refine Gl h fun v9 e10 h => ?_
  refine Op_.apz_n (K := kStr) 43 3 20 21 22 43 9 0 (.string ⟨#[]⟩) 16 0 0 ([] : List ByteArray) ((⟨#[]⟩ : ByteArray) : ByteArray) v9 .i64 .i64 (wr .i64 (x1 - 0)) rfl e10 p1 rfl (Els.nil (K := kStr)) Xa (by kernel_rfl) (by kernel_rfl) (by kernel_rfl) (by kernel_rfl) (by kernel_rfl) rfl rfl rfl (fun _ _ => rfl) g7 (by have := g8; omega) g8 fun w2 G11 c12 u9 z2 p2 f14 => ?_
  refine Gn 2 [(23, .slice none 0 0), (24, .i 0)] (Zr Qfb [8, 9] Jig) ?_
  refine Op_.slO (K := kStr) 43 22 24 25 43 9 .i64 0 0 (sl v9 0 0) rfl rfl p2 rfl rfl (by decide) f14 Xa (by kernel_rfl) (by kernel_rfl) (by kernel_rfl) (by kernel_rfl) (by decide : (0 : Int) ≤ 0) (Int.natCast_nonneg _) fun uf p2 f16 => ?_
  refine Gm 7 [([0, 26, 4], .slice (Gp G11) ((sl v9 0 0).length) c12)] Jim ?_
  obtain rfl := sj h
  exact Xc Tryz.f232 (.slice (Gp G11) ((sl v9 0 0).length) c12) ⟨_, _, _, _, _, rfl, (hx.t z2), p2, f16, rfl⟩
 ·
  rw [df h2]
  refine Gm 7 [([26, 4], .slice none 0 0)] Jim ?_
  have p1 : Hp nz wz S1 w1 ((none, .row 9 [] (0 * kStr.size) 0) :: Lr) := p1.nilRow' 9
  obtain rfl := sj h
  exact Xc Tryz.f232 (.slice (Gp none) 0 0) ⟨_, _, _, _, _, rfl, hx, p1, (Els.nil (K := kStr)), rfl⟩
theorem W.z2d (x1 : Int) (r : List ByteArray) (h : M.a3y x1 = some r) {nz wz S0 w0 Lr} (p0 : Hp nz wz S0 w0 (Lr)) :
  Calls Tg 232 #[.slice none 0 0, .i x1] w0 (Rets (Post.z2d nz wz S0 w0 Lr r)) := by
 refine Zf Tryz.f232 B232 25 ?_
 refine Gj 27 [(0, .slice none 0 0), (1, .i x1)] fun junk => ?_
 delta M.a3y at h
 refine Gn 10 [(4, .slice none 0 0), (5, .i x1), (6, .bool (decide (x1 < 0)))] (Ys 1101 B232 Jif) ?_
 refine Gi h (fun h1 h => ?_) fun h1 h => ?_
 ·
  rw [dt h1]
  refine Gn 2 [] (Yt 11010 B232 [0, 1] Jif) ?_
  cases h
 ·
  rw [df h1]
  refine Gn 2 [] Jif ?_
  exact Gj 27 [(0, .slice none 0 0), (1, .i x1)] (W.z2e _ _ h _ _ (Xg S0 w0) p0)
def Qfg := Yq 111110100 B185
def Jir := Zl Qfg (Zb 2 (Ys 111111 B185 []))
def Jis := Zc Qfg Jir
def Jiw := Zb 3 (Ys 111110100111 B185 Jir)
def Qfk := Yq 11111010011001 B185
def Post.z2f (r : List ByteArray) (v : Value) (w' : World) : Prop :=
 ∃ S' Gq nq cq csq, v = .slice (Gp Gq) nq cq ∧ Ext S0 w0 S' w' ∧ Hp nz wz S' w' ((Gq, .row 9 csq (cq * kStr.size) 0) :: Lr) ∧ Els kStr S' w' csq r ∧ r.length = nq
def L.z2g : (List ByteArray) × (List (List ByteArray)) × Int × Int → (List ByteArray) → Prop := fun ⟨x6, x25, x26, x27⟩ r => ∀ S1 w1, Ext S0 w0 S1 w1 → ∀ Gx6 nx6 cx6 ubo ubp ubq ubr (_ : Hp nz wz S1 w1 ((Gx6, .row 9 ubo (cx6 * kStr.size) 0) :: Lr)) (_ : Els kStr S1 w1 ubo x6) (_ : x6.length = nx6) (_ : Rd (kSl kStr) S1 w1 ubp ubr x25) (_ : x25.length = ubq) (junk : Nat → Value),
 Goes Tg (base 185) Jis ⟨lfr 36 [(6, .slice (Gp Gx6) nx6 cx6), (25, .slice ubp ubq ubr), (26, .i x26), (27, .i x27)] junk, []⟩ w1 (Done Tg 185 (Rets (Post.z2f nz wz S0 w0 Lr r)))
theorem W.z2g {nz wz S0 w0 Lr} : ∀ a r, M.aw a = some r → (L.z2g nz wz S0 w0 Lr) a r := by
 refine M.aw.partial_correctness (motive := (L.z2g nz wz S0 w0 Lr)) ?_
 intro ubs ubt ⟨x6, x25, x26, x27⟩ r h S1 w1 hx Gx6 nx6 cx6 ubo ubp ubq ubr p1 fx6 lx6 ubu ubv junk
 try dsimp only at h
 subst lx6
 subst ubv
 refine Gn 5 [(28, .bool (decide (x27 < x26)))] (Ys 11111010010 B185 (Ys 11111010011 B185 Jir)) ?_
 refine Gi h (fun h15 h => ?_) fun h15 h => ?_
 ·
  rw [dt h15]
  refine Gn 6 [] (Yt 11111010011000 B185 [0, 1, 2] (Zc Qfk Jiw)) ?_
  refine Gg h fun g16 h => ?_
  refine Gg h fun g17 h => ?_
  refine Oi 335 25 27 29 0 43 .i64 x27 (gi x25 x27) rfl rfl ubu Xa g16 g17 fun a18 _ f19 q20 => ?_
  obtain ⟨A21, c22, rfl, f23⟩ := q20
  refine Xb 43 29 30 43 a18 (.slice A21 ((gi x25 x27).length) c22) (f19.cell 0 _ rfl) ?_
  refine Gm 5 [([8, 32], .slice A21 ((gi x25 x27).length) c22), ([31], .slice (Gp Gx6) x6.length cx6)] (Zr Qfk [2, 3] Jiw) ?_
  obtain ⟨ubw, f25, f26⟩ := src_rd f23
  refine Gg h fun g27 h => ?_
  refine On (K := kStr) 43 31 32 33 43 9 0 (.string ⟨#[]⟩) 16 x6.length cx6 ((gi x25 x27).length) x6 (gi x25 x27) (x6 ++ gi x25 x27) A21 c22 rfl rfl rfl p1 rfl fx6 Xa f25 f26 g27 fun w3 G28 c29 ubx z3 p3 f31 => ?_
  refine Gm 8 [([6], .slice (Gp G28) ((x6 ++ gi x25 x27).length) c29), ([34, 27], .i (wr .i64 (x27 + 1)))] Jis ?_
  exact Gj 36 [(6, .slice (Gp G28) ((x6 ++ gi x25 x27).length) c29), (25, .slice ubp x25.length ubr), (26, .i x26), (27, .i (wr .i64 (x27 + 1)))] (ubt _ _ h _ _ (hx.t z3) _ _ _ _ _ _ _ p3 f31 rfl (ubu.ext z3) rfl)
 ·
  rw [df h15]
  refine Gm 7 [([35, 2], .slice (Gp Gx6) x6.length cx6)] (Ys 1111111 B185 []) ?_
  obtain rfl := sj h
  exact Xc Tryz.f185 (.slice (Gp Gx6) x6.length cx6) ⟨_, _, _, _, _, rfl, hx, p1, fx6, rfl⟩
def Jj1 := Ys 1111 B185 []
def Qfo := Yq 1110100 B185
def Jj3 := Zl Qfo (Zb 0 Jj1)
def Jj4 := Zc Qfo Jj3
def Jj6 := Zb 1 (Ys 1110100111 B185 Jj3)
def Jjb := Ys 11101001100111 B185 Jj6
def L.z2h : (List (List ByteArray)) × Int × (List (List ByteArray)) × Int × Int → (List ByteArray) → Prop := fun ⟨x0, x3, x9, x10, x11⟩ r => ∀ S1 w1, Ext S0 w0 S1 w1 → ∀ Ax0 nx0 cx0 Ax9 nx9 cx9 (_ : Hp nz wz S1 w1 (Lr)) (_ : Rd (kSl kStr) S1 w1 Ax0 cx0 x0) (_ : x0.length = nx0) (_ : Rd (kSl kStr) S1 w1 Ax9 cx9 x9) (_ : x9.length = nx9) (junk : Nat → Value),
 Goes Tg (base 185) Jj4 ⟨lfr 36 [(0, .slice Ax0 nx0 cx0), (3, .i x3), (9, .slice Ax9 nx9 cx9), (10, .i x10), (11, .i x11)] junk, []⟩ w1 (Done Tg 185 (Rets (Post.z2f nz wz S0 w0 Lr r)))
def L.z2i : (List (List ByteArray)) × Int × (List (List ByteArray)) × Int × Int → (List ByteArray) → Prop := fun ⟨x0, x3, x9, x10, x11⟩ r => ∀ S1 w1, Ext S0 w0 S1 w1 → ∀ Ax0 nx0 cx0 Ax9 nx9 cx9 (_ : Hp nz wz S1 w1 (Lr)) (_ : Rd (kSl kStr) S1 w1 Ax0 cx0 x0) (_ : x0.length = nx0) (_ : Rd (kSl kStr) S1 w1 Ax9 cx9 x9) (_ : x9.length = nx9) (junk : Nat → Value),
 Goes Tg (base 185) Jj6 ⟨lfr 36 [(0, .slice Ax0 nx0 cx0), (3, .i x3), (9, .slice Ax9 nx9 cx9), (10, .i x10), (11, .i x11)] junk, []⟩ w1 (Done Tg 185 (Rets (Post.z2f nz wz S0 w0 Lr r)))
theorem W.z2j {nz wz S0 w0 Lr} : (∀ a r, M.al a = some r → (L.z2h nz wz S0 w0 Lr) a r) ∧ (∀ a r, M.a2a a = some r → (L.z2i nz wz S0 w0 Lr) a r) := by
 refine M.al.mutual_partial_correctness (L.z2h nz wz S0 w0 Lr) (L.z2i nz wz S0 w0 Lr) ?_ ?_
 ·
  intro uby ubz ⟨x0, x3, x9, x10, x11⟩ r h S1 w1 hx Ax0 nx0 cx0 Ax9 nx9 cx9 p1 fx0 lx0 fx9 lx9 junk
  try dsimp only at h
  subst lx0
  subst lx9
  refine Gn 5 [(12, .bool (decide (x11 < x10)))] (Ys 111010010 B185 (Ys 111010011 B185 Jj3)) ?_
  refine Gi h (fun h1 h => ?_) fun h1 h => ?_
  ·
   rw [dt h1]
   refine Gn 6 [] (Yt 111010011000 B185 [0, 1, 2] (Ys 111010011001 B185 Jj6)) ?_
   refine Gg h fun g2 h => ?_
   refine Gg h fun g3 h => ?_
   refine Oi 335 9 11 13 0 43 .i64 x11 (gi x9 x11) rfl rfl fx9 Xa g2 g3 fun a4 _ f5 q6 => ?_
   obtain ⟨A7, c8, rfl, f9⟩ := q6
   refine Xb 43 13 14 43 a4 (.slice A7 ((gi x9 x11).length) c8) (f5.cell 0 _ rfl) ?_
   refine Gm 14 [([5, 16], .slice A7 ((gi x9 x11).length) c8), ([15], .i x3), ([17], .i ((gi x9 x11).length : Int)), ([18, 3, 19], .i (wr .i64 (x3 + ((gi x9 x11).length : Int)))), ([20], .bool (decide (wr .i64 (x3 + ((gi x9 x11).length : Int)) < 0)))] (Yt 11101001100110 B185 [] Jjb) ?_
   refine Gn 1 [] Jjb ?_
   refine Gi h (fun h10 h => ?_) fun h10 h => ?_
   ·
    rw [dt h10]
    refine Gn 2 [] (Yt 111010011001110 B185 [0, 1] Jj6) ?_
    cases h
   ·
    rw [df h10]
    refine Gn 2 [] Jj6 ?_
    exact Gj 36 [(0, .slice Ax0 x0.length cx0), (3, .i (wr .i64 (x3 + ((gi x9 x11).length : Int)))), (9, .slice Ax9 x9.length cx9), (10, .i x10), (11, .i x11)] (ubz _ _ h _ _ hx _ _ _ _ _ _ p1 fx0 rfl fx9 rfl)
  ·
   rw [df h1]
   refine Gn 5 [(23, .i x3)] (Yt 11110 B185 [1, 2] (Ys 11111 B185 [])) ?_
   refine Gb h fun y11 e12 h => ?_
   refine Gc (.call { callee := .value (.func 232), args := #[(.const (.slice none 0 0)), 23], argTypes := #[43, 3] }) 24 43 232 _ (W.z2d x3 y11 e12  p1 ) ?_
   rintro _ w2 ⟨S2, uc0, uc1, uc2, uc3, rfl, z2, p2, uc4, rfl⟩
   refine Gn 11 [(6, .slice (Gp uc0) y11.length uc2), (25, .slice Ax0 x0.length cx0), (26, .i (x0.length : Int)), (27, .i 0)] Jis ?_
   exact Gj 36 [(6, .slice (Gp uc0) y11.length uc2), (25, .slice Ax0 x0.length cx0), (26, .i (x0.length : Int)), (27, .i 0)] (W.z2g _ _ h _ _ (hx.t z2) _ _ _ _ _ _ _ p2 uc4 rfl (fx0.ext z2) rfl)
 ·
  intro uc5 uc6 ⟨x0, x3, x9, x10, x11⟩ r h S1 w1 hx Ax0 nx0 cx0 Ax9 nx9 cx9 p1 fx0 lx0 fx9 lx9 junk
  try dsimp only at h
  subst lx0
  subst lx9
  refine Gm 6 [([22, 11], .i (wr .i64 (x11 + 1)))] Jj4 ?_
  exact Gj 36 [(0, .slice Ax0 x0.length cx0), (3, .i x3), (9, .slice Ax9 x9.length cx9), (10, .i x10), (11, .i (wr .i64 (x11 + 1)))] (uc6 _ _ h _ _ hx _ _ _ _ _ _ p1 fx0 rfl fx9 rfl)
theorem W.z2h {nz wz S0 w0 Lr} : ∀ a r, M.al a = some r → (L.z2h nz wz S0 w0 Lr) a r := (W.z2j).1
theorem W.z2i {nz wz S0 w0 Lr} : ∀ a r, M.a2a a = some r → (L.z2i nz wz S0 w0 Lr) a r := (W.z2j).2
theorem W.z2f (x0 : List (List ByteArray)) (r : List ByteArray) (h : M.a2b x0 = some r) {nz wz S0 w0 Lr} (Ax0 nx0 cx0) (p0 : Hp nz wz S0 w0 (Lr)) (fx0 : Rd (kSl kStr) S0 w0 Ax0 cx0 x0) (lx0 : x0.length = nx0) :
  Calls Tg 185 #[.slice Ax0 nx0 cx0] w0 (Rets (Post.z2f nz wz S0 w0 Lr r)) := by
 subst lx0
 refine Zf Tryz.f185 B185 35 ?_
 refine Gj 36 [(0, .slice Ax0 x0.length cx0)] fun junk => ?_
 delta M.a2b at h
 refine Gn 14 [(2, .slice none 0 0), (3, .i 0), (9, .slice Ax0 x0.length cx0), (10, .i (x0.length : Int)), (11, .i 0)] (Yt 11100 B185 [] (Ys 11101 B185 Jj1)) ?_
 refine Gn 3 [] Jj4 ?_
 exact Gj 36 [(0, .slice Ax0 x0.length cx0), (3, .i 0), (9, .slice Ax0 x0.length cx0), (10, .i (x0.length : Int)), (11, .i 0)] (W.z2h _ _ h _ _ (Xg S0 w0) _ _ _ _ _ _ p0 fx0 rfl fx0 rfl)
def Jjs := Ys 1111111111111 B267 []
def Post.z2k (r : Int × Int) (v : Value) (w' : World) : Prop :=
 ∃ S', v = .tuple #[.u r.1, .u r.2] ∧ Ext S0 w0 S' w' ∧ Hp nz wz S' w' (Lr)
theorem W.z2k (x0 : Int) (x1 : Int) (r : Int × Int) (h : M.a5u x0 x1 = some r) {nz wz S0 w0 Lr} (p0 : Hp nz wz S0 w0 (Lr)) :
  Calls Tg 267 #[.u x0, .u x1] w0 (Rets (Post.z2k nz wz S0 w0 Lr r)) := by
 refine Zf Tryz.f267 B267 49 ?_
 refine Gj 51 [(0, .u x0), (1, .u x1)] fun junk => ?_
 delta M.a5u at h
 refine Gm 14 [([4, 5], .u 0), ([14, 16], .u x0), ([15, 6], .u (iand .u64 x0 4294967295))] (Yt 1110 B267 [1, 2] (Ys 1111 B267 [])) ?_
 refine Gm 14 [([17, 7], .u (ishr .u64 x0 32)), ([18, 20], .u x1), ([19, 8], .u (iand .u64 x1 4294967295)), ([21, 9], .u (ishr .u64 x1 32))] (Yt 111110 B267 [] (Ys 111111 B267 [])) ?_
 refine Gm 14 [([22], .u (iand .u64 x0 4294967295)), ([23, 26], .u (iand .u64 x1 4294967295)), ([24, 10, 28], .u (wr .u64 ((iand .u64 x0 4294967295) * (iand .u64 x1 4294967295)))), ([25], .u (ishr .u64 x0 32)), ([27], .u (wr .u64 ((ishr .u64 x0 32) * (iand .u64 x1 4294967295))))] (Yt 11111110 B267 [4, 5, 6] (Ys 11111111 B267 [])) ?_
 refine Gm 14 [([29], .u (ishr .u64 (wr .u64 ((iand .u64 x0 4294967295) * (iand .u64 x1 4294967295))) 32)), ([30, 11, 31, 33], .u (wr .u64 ((wr .u64 ((ishr .u64 x0 32) * (iand .u64 x1 4294967295))) + (ishr .u64 (wr .u64 ((iand .u64 x0 4294967295) * (iand .u64 x1 4294967295))) 32)))), ([32, 12], .u (iand .u64 (wr .u64 ((wr .u64 ((ishr .u64 x0 32) * (iand .u64 x1 4294967295))) + (ishr .u64 (wr .u64 ((iand .u64 x0 4294967295) * (iand .u64 x1 4294967295))) 32))) 4294967295)), ([34], .u (ishr .u64 (wr .u64 ((wr .u64 ((ishr .u64 x0 32) * (iand .u64 x1 4294967295))) + (ishr .u64 (wr .u64 ((iand .u64 x0 4294967295) * (iand .u64 x1 4294967295))) 32))) 32))] (Yt 1111111110 B267 [2] (Ys 1111111111 B267 [])) ?_
 refine Gm 14 [([13], .u (ishr .u64 (wr .u64 ((wr .u64 ((ishr .u64 x0 32) * (iand .u64 x1 4294967295))) + (ishr .u64 (wr .u64 ((iand .u64 x0 4294967295) * (iand .u64 x1 4294967295))) 32))) 32)), ([35], .u (iand .u64 (wr .u64 ((wr .u64 ((ishr .u64 x0 32) * (iand .u64 x1 4294967295))) + (ishr .u64 (wr .u64 ((iand .u64 x0 4294967295) * (iand .u64 x1 4294967295))) 32))) 4294967295)), ([36], .u (iand .u64 x0 4294967295)), ([37], .u (ishr .u64 x1 32)), ([38], .u (wr .u64 ((iand .u64 x0 4294967295) * (ishr .u64 x1 32)))), ([39, 12], .u (wr .u64 ((iand .u64 (wr .u64 ((wr .u64 ((ishr .u64 x0 32) * (iand .u64 x1 4294967295))) + (ishr .u64 (wr .u64 ((iand .u64 x0 4294967295) * (iand .u64 x1 4294967295))) 32))) 4294967295) + (wr .u64 ((iand .u64 x0 4294967295) * (ishr .u64 x1 32)))))), ([40], .u (ishr .u64 x0 32))] (Yt 111111111110 B267 [1, 2, 3, 4, 5, 6, 7, 8] (Ys 111111111111 B267 [])) ?_
 refine Gm 14 [([41], .u (ishr .u64 x1 32)), ([42], .u (wr .u64 ((ishr .u64 x0 32) * (ishr .u64 x1 32)))), ([43], .u (ishr .u64 (wr .u64 ((wr .u64 ((ishr .u64 x0 32) * (iand .u64 x1 4294967295))) + (ishr .u64 (wr .u64 ((iand .u64 x0 4294967295) * (iand .u64 x1 4294967295))) 32))) 32)), ([44], .u (wr .u64 ((wr .u64 ((ishr .u64 x0 32) * (ishr .u64 x1 32))) + (ishr .u64 (wr .u64 ((wr .u64 ((ishr .u64 x0 32) * (iand .u64 x1 4294967295))) + (ishr .u64 (wr .u64 ((iand .u64 x0 4294967295) * (iand .u64 x1 4294967295))) 32))) 32)))), ([45], .u (wr .u64 ((iand .u64 (wr .u64 ((wr .u64 ((ishr .u64 x0 32) * (iand .u64 x1 4294967295))) + (ishr .u64 (wr .u64 ((iand .u64 x0 4294967295) * (iand .u64 x1 4294967295))) 32))) 4294967295) + (wr .u64 ((iand .u64 x0 4294967295) * (ishr .u64 x1 32)))))), ([46], .u (ishr .u64 (wr .u64 ((iand .u64 (wr .u64 ((wr .u64 ((ishr .u64 x0 32) * (iand .u64 x1 4294967295))) + (ishr .u64 (wr .u64 ((iand .u64 x0 4294967295) * (iand .u64 x1 4294967295))) 32))) 4294967295) + (wr .u64 ((iand .u64 x0 4294967295) * (ishr .u64 x1 32))))) 32)), ([47, 4], .u (wr .u64 ((wr .u64 ((wr .u64 ((ishr .u64 x0 32) * (ishr .u64 x1 32))) + (ishr .u64 (wr .u64 ((wr .u64 ((ishr .u64 x0 32) * (iand .u64 x1 4294967295))) + (ishr .u64 (wr .u64 ((iand .u64 x0 4294967295) * (iand .u64 x1 4294967295))) 32))) 32))) + (ishr .u64 (wr .u64 ((iand .u64 (wr .u64 ((wr .u64 ((ishr .u64 x0 32) * (iand .u64 x1 4294967295))) + (ishr .u64 (wr .u64 ((iand .u64 x0 4294967295) * (iand .u64 x1 4294967295))) 32))) 4294967295) + (wr .u64 ((iand .u64 x0 4294967295) * (ishr .u64 x1 32))))) 32)))), ([48], .u x0), ([49], .u x1), ([50], .u (wr .u64 (x0 * x1)))] (Yt 1111111111110 B267 [3] Jjs) ?_
 refine Gn 2 [(5, .u (wr .u64 (x0 * x1)))] Jjs ?_
 obtain rfl := sj h
 exact Xc Tryz.f267 (.tuple #[.u (wr .u64 ((wr .u64 ((wr .u64 ((ishr .u64 x0 32) * (ishr .u64 x1 32))) + (ishr .u64 (wr .u64 ((wr .u64 ((ishr .u64 x0 32) * (iand .u64 x1 4294967295))) + (ishr .u64 (wr .u64 ((iand .u64 x0 4294967295) * (iand .u64 x1 4294967295))) 32))) 32))) + (ishr .u64 (wr .u64 ((iand .u64 (wr .u64 ((wr .u64 ((ishr .u64 x0 32) * (iand .u64 x1 4294967295))) + (ishr .u64 (wr .u64 ((iand .u64 x0 4294967295) * (iand .u64 x1 4294967295))) 32))) 4294967295) + (wr .u64 ((iand .u64 x0 4294967295) * (ishr .u64 x1 32))))) 32))), .u (wr .u64 (x0 * x1))]) ⟨_, rfl, (Xg S0 w0), p0⟩
def Post.z2l (r : Int × Int) (v : Value) (w' : World) : Prop :=
 ∃ S', v = .tuple #[.u r.1, .u r.2] ∧ Ext S0 w0 S' w' ∧ Hp nz wz S' w' (Lr)
theorem W.z2l (x0 : Int) (x1 : Int) (r : Int × Int) (h : M.a4q x0 x1 = some r) {nz wz S0 w0 Lr} (p0 : Hp nz wz S0 w0 (Lr)) :
  Calls Tg 233 #[.u x0, .u x1] w0 (Rets (Post.z2l nz wz S0 w0 Lr r)) := by
 refine Zf Tryz.f233 B233 28 ?_
 refine Gj 30 [(0, .u x0), (1, .u x1)] fun junk => ?_
 delta M.a4q at h
 refine Gm 12 [([4, 5], .u 0), ([23], .u x0), ([24], .u x1)] (Yt 1110 B233 [2, 3, 4, 5, 6, 7] (Ys 1111 B233 [])) ?_
 refine Gb h fun y1 e2 h => ?_
 refine Gc (kc 267 [23, 24] #[22, 22]) 25 361 267 _ (W.z2k x0 x1 y1 e2  p0 ) ?_
 rintro _ w2 ⟨S2, rfl, z2, p2⟩
 refine Gm 13 [([22], .tuple #[.u y1.1, .u y1.2]), ([26, 8, 28, 4], .u y1.1), ([27, 9, 29, 5], .u y1.2)] (Ys 11111 B233 []) ?_
 obtain rfl := sj h
 exact Xc Tryz.f233 (.tuple #[.u y1.1, .u y1.2]) ⟨_, rfl, z2, p2⟩
def Qgh := Yq 1111111000 B186
def Jjz := Zl Qgh (Zb 0 (Ys 11111111 B186 []))
def Jk0 := Zc Qgh Jjz
def Post.z2m (r : List T26) (v : Value) (w' : World) : Prop :=
 ∃ S' Gq nq cq csq, v = .slice (Gp Gq) nq cq ∧ Ext S0 w0 S' w' ∧ Hp nz wz S' w' ((Gq, .row 27 csq (cq * kT26.size) 0) :: Lr) ∧ Els kT26 S' w' csq r ∧ r.length = nq
def L.z2n : (List T26) × Int → (List T26) → Prop := fun ⟨x7, x8⟩ r => ∀ S1 w1, Ext S0 w0 S1 w1 → ∀ Gx7 nx7 cx7 uc7 (_ : Hp nz wz S1 w1 ((Gx7, .row 27 uc7 (cx7 * kT26.size) 0) :: Lr)) (_ : Els kT26 S1 w1 uc7 x7) (_ : x7.length = nx7) (junk : Nat → Value),
 Goes Tg (base 186) Jk0 ⟨lfr 48 [(7, .slice (Gp Gx7) nx7 cx7), (8, .i x8)] junk, []⟩ w1 (Done Tg 186 (Rets (Post.z2m nz wz S0 w0 Lr r)))
theorem W.z2n {nz wz S0 w0 Lr} : ∀ a r, M.am a = some r → (L.z2n nz wz S0 w0 Lr) a r := by
 refine M.am.partial_correctness (motive := (L.z2n nz wz S0 w0 Lr)) ?_
 intro uc8 uc9 ⟨x7, x8⟩ r h S1 w1 hx Gx7 nx7 cx7 uc7 p1 fx7 lx7 junk
 try dsimp only at h
 subst lx7
 refine Gn 8 [(34, .i x8), (35, .slice (Gp Gx7) x7.length cx7), (36, .i (x7.length : Int)), (37, .bool (decide (x8 < (x7.length : Int))))] (Ys 111111100001 B186 (Ys 11111110001 B186 Jjz)) ?_
 refine Gi h (fun h20 h => ?_) fun h20 h => ?_
 ·
  rw [dt h20]
  refine Gn 3 [] (Ys 111111100010 B186 (Zb 1 Jjz)) ?_
  have z5 : Ext S1 w1 S1 (w1).drew := Xm
  have p5 := p1.draw
  refine Gd [] (Fc S1 (w1).drew []) 9 10 ?_
  generalize (w1).drew = w5 at z5 p5 ⊢
  refine Xe 0 (.move 8) 38 3 (.i x8) Fc0 ?_
  refine Xe 1 (.move 7) 39 25 (.slice (Gp Gx7) x7.length cx7) Fc0 ?_
  refine Xe 2 (.move 8) 40 3 (.i x8) Fc0 ?_
  refine Gg h fun g21 h => ?_
  refine Gg h fun g22 h => ?_
  refine AnyG.slV (K := kT26) (i := 3) 25 39 (some 40) none 41 25 27 x8 (x7.length : Int) 0 rfl p5 rfl (by decide) (fx7.ext z5) (by kernel_rfl) (by kernel_rfl) Fc0 (by kernel_rfl) (by kernel_rfl) (by kernel_rfl) (Bnd.at_ .i64 (by kernel_rfl)) Bnd.no g21 g22 (Int.le_refl _) ?_
  refine Xe 4 (.move 7) 42 25 (.slice (Gp Gx7) x7.length cx7) Fc0 ?_
  refine Xe 5 (.move 8) 43 3 (.i x8) Fc0 ?_
  refine AnyG.slV (K := kT26) (i := 6) 25 42 none (some 43) 44 25 27 0 x8 0 rfl p5 rfl (by decide) (fx7.ext z5) (by kernel_rfl) (by kernel_rfl) Fc0 (by kernel_rfl) (by kernel_rfl) (by kernel_rfl) Bnd.no (Bnd.at_ .i64 (by kernel_rfl)) (by decide : (0 : Int) ≤ 0) g21 g22 ?_
  obtain ⟨uca, f24, f25, f26⟩ := src_winI (K := kT26) p5 (q := 0) rfl rfl (by decide) (fx7.ext z5) (by decide : (0 : Int) ≤ 0) g21 g22
  refine Gl h fun v27 e28 h => ?_
  refine Op_.cpV (K := kT26) 25 25 41 44 45 3 27 0 ((x8 : Int).toNat) (((x7.length : Int) : Int).toNat - (x8 : Int).toNat) (cx7 - (x8 : Int).toNat) (sl x7 0 x8) v27 ((x8 : Int).toNat - (0 : Int).toNat) (winA Gx7 (0 : Int).toNat cx7 kT26.size) (cx7 - (0 : Int).toNat) rfl f26 e28 p5 rfl (fx7.ext z5) (Av 7) (by kernel_rfl) (by kernel_rfl) (by kernel_rfl) (by kernel_rfl) (by decide) (by have h0 : 0 ≤ (x8 : Int) := g21; have h1 : (x8 : Int) ≤ (x7.length : Int) := g22; have h2 : ((x7.length : Int) : Int) ≤ (x7.length : Int) := (Int.le_refl _); omega) f24 f25 fun w6 ucb z6 p6 f30 => ?_
  refine Xl z6 trivial ?_
  refine Xe 8 (.binOp .add 3 38 45 3) 46 3 (.i (wr .i64 (x8 + ((min ((x8 : Int).toNat - (0 : Int).toNat) (((x7.length : Int) : Int).toNat - (x8 : Int).toNat) : Nat) : Int)))) Fc0 ?_
  refine Xe 9 (.assign 46) 8 3 (.i (wr .i64 (x8 + ((min ((x8 : Int).toNat - (0 : Int).toNat) (((x7.length : Int) : Int).toNat - (x8 : Int).toNat) : Nat) : Int)))) Fc0 ?_
  refine Ad ?_
  refine Gn 2 [] Jk0 ?_
  exact Gj 48 [(7, .slice (Gp Gx7) x7.length cx7), (8, .i (wr .i64 (x8 + ((min ((x8 : Int).toNat - (0 : Int).toNat) (((x7.length : Int) : Int).toNat - (x8 : Int).toNat) : Nat) : Int))))] (uc9 _ _ h _ _ ((hx.t z5).t z6) _ _ _ _ p6 f30 ((congrArg List.length e28).symm.trans (cpy_length _ _ _ _ (by have h0 : 0 ≤ (x8 : Int) := g21; have h1 : (x8 : Int) ≤ (x7.length : Int) := g22; have h2 : ((x7.length : Int) : Int) ≤ (x7.length : Int) := (Int.le_refl _); omega))))
 ·
  rw [df h20]
  refine Gm 7 [([47, 4], .slice (Gp Gx7) x7.length cx7)] (Ys 111111111 B186 []) ?_
  obtain rfl := sj h
  exact Xc Tryz.f186 (.slice (Gp Gx7) x7.length cx7) ⟨_, _, _, _, _, rfl, hx, p1, fx7, rfl⟩
def Jk6 := Ys 11111 B186 []
def L.z2o : (List T26) × Int → (List T26) → Prop := fun ⟨x0, x6⟩ r => ∀ S1 w1, Ext S0 w0 S1 w1 → ∀ Ax0 nx0 cx0 (_ : Hp nz wz S1 w1 (Lr)) (_ : Rd kT26 S1 w1 Ax0 cx0 x0) (_ : x0.length = nx0) (junk : Nat → Value),
 Goes Tg (base 186) Jk6 ⟨lfr 48 [(0, .slice Ax0 nx0 cx0), (6, .u x6)] junk, []⟩ w1 (Done Tg 186 (Rets (Post.z2m nz wz S0 w0 Lr r)))
theorem W.z2o {nz wz S0 w0 Lr} : ∀ a r, M.a3z a = some r → L.z2o nz wz S0 w0 Lr a r := by
 intro ⟨x0, x6⟩ r h S1 w1 hx Ax0 nx0 cx0 p1 fx0 lx0 junk
 rw [M.a3z] at h
 try dsimp only at h
 subst lx0
 refine Gn 4 [(28, .u x6), (29, .i (wr .i64 x6))] (Yt 111110 B186 [2, 3] (Ys 111111 B186 [])) ?_
 refine Gg h fun g6 h => ?_
 refine Gg h fun g7 h => ?_
 refine Gl h fun v8 e9 h => ?_
 refine Op_.mk_n (K := kT26) 25 29 29 30 25 27 .i64 .i64 (wr .i64 x6) (wr .i64 x6) (.agg #[.i 0, .u 0, .u 0, .u 0, .u 0, .slice none 0 0, .i 0, .i 0]) [.i 0, .u 0, .u 0, .u 0, .u 0, .slice none 0 0, .i 0, .i 0] 80 (⟨0, [0, 0, 0, 0], ([] : List T26), 0, 0⟩ : T26) v8 e9 p1 Xa (by kernel_rfl) (by kernel_rfl) (by kernel_rfl) (by kernel_rfl) (by kernel_rfl) (fun _ _ => (kT26_close ⟨[.i 0], [.u 0, .u 0, .u 0, .u 0, .slice none 0 0, .i 0, .i 0], rfl, rfl, ⟨[.u 0, .u 0, .u 0, .u 0], [.slice none 0 0, .i 0, .i 0], rfl, ⟨rfl, (Els.cons (K := (kInt .u64)) (vs := [.u 0]) (x := 0) rfl (Els.cons (K := (kInt .u64)) (vs := [.u 0]) (x := 0) rfl (Els.cons (K := (kInt .u64)) (vs := [.u 0]) (x := 0) rfl (Els.cons (K := (kInt .u64)) (vs := [.u 0]) (x := 0) rfl Els.nil))))⟩, ⟨[.slice none 0 0], [.i 0, .i 0], rfl, ⟨none, 0, rfl, Xq⟩, ⟨[.i 0], [.i 0], rfl, rfl, rfl⟩⟩⟩⟩)) g6 (Int.le_refl _) (by have := g7; omega) (by have := g7; omega) fun b10 w3 ucc z3 p3 f12 => ?_
 refine Gm 6 [([7, 31], .slice (Gp (some b10)) v8.length ((wr .i64 x6 : Int).toNat)), ([32], .slice Ax0 x0.length cx0)] (Yt 1111110 B186 [2, 3] (Ys 1111111 B186 [])) ?_
 obtain ⟨ucd, f15, f16⟩ := src_rd (fx0.ext z3)
 refine Op_.cpO (K := kT26) 25 25 31 32 33 3 27 0 x0 (cpy v8 0 v8.length x0) x0.length Ax0 cx0 rfl rfl rfl p3 rfl f12 Xa (by kernel_rfl) (by kernel_rfl) (by kernel_rfl) (by kernel_rfl) (by decide) f15 f16 fun w4 uce z4 p4 f18 => ?_
 refine Gn 5 [(8, .i ((min x0.length v8.length : Nat) : Int))] Jk0 ?_
 exact Gj 48 [(7, .slice (Gp (some b10)) v8.length ((wr .i64 x6 : Int).toNat)), (8, .i ((min x0.length v8.length : Nat) : Int))] (W.z2n _ _ h _ _ ((hx.t z3).t z4) (some b10) _ _ _ p4 f18 (cpy_length _ _ _ _ (by omega)))
def Jkb := Ys 111101 B186 Jk6
def L.z2p : (List T26) × Int × Bool → (List T26) → Prop := fun ⟨x0, x6, x26⟩ r => ∀ S1 w1, Ext S0 w0 S1 w1 → ∀ Ax0 nx0 cx0 (_ : Hp nz wz S1 w1 (Lr)) (_ : Rd kT26 S1 w1 Ax0 cx0 x0) (_ : x0.length = nx0) (junk : Nat → Value),
 Goes Tg (base 186) Jkb ⟨lfr 48 [(0, .slice Ax0 nx0 cx0), (6, .u x6), (26, .bool x26)] junk, []⟩ w1 (Done Tg 186 (Rets (Post.z2m nz wz S0 w0 Lr r)))
theorem W.z2p {nz wz S0 w0 Lr} : ∀ a r, M.a33 a = some r → L.z2p nz wz S0 w0 Lr a r := by
 intro ⟨x0, x6, x26⟩ r h S1 w1 hx Ax0 nx0 cx0 p1 fx0 lx0 junk
 rw [M.a33] at h
 try dsimp only at h
 subst lx0
 refine Gi h (fun h5 h => ?_) fun h5 h => ?_
 ·
  rw [h5]
  refine Gn 2 [] (Yt 1111010 B186 [0, 1] Jk6) ?_
  cases h
 ·
  rw [bf h5]
  refine Gn 2 [] Jk6 ?_
  exact Gj 48 [(0, .slice Ax0 x0.length cx0), (6, .u x6)] (W.z2o _ _ h _ _ hx _ _ _ p1 fx0 rfl)
def Jkd := Ys 111 B186 []
def L.z2q : (List T26) × Int → (List T26) → Prop := fun ⟨x0, x1⟩ r => ∀ S1 w1, Ext S0 w0 S1 w1 → ∀ Ax0 nx0 cx0 (_ : Hp nz wz S1 w1 (Lr)) (_ : Rd kT26 S1 w1 Ax0 cx0 x0) (_ : x0.length = nx0) (junk : Nat → Value),
 Goes Tg (base 186) Jkd ⟨lfr 48 [(0, .slice Ax0 nx0 cx0), (1, .i x1)] junk, []⟩ w1 (Done Tg 186 (Rets (Post.z2m nz wz S0 w0 Lr r)))
theorem W.z2q {nz wz S0 w0 Lr} : ∀ a r, M.a40 a = some r → L.z2q nz wz S0 w0 Lr a r := by
 intro ⟨x0, x1⟩ r h S1 w1 hx Ax0 nx0 cx0 p1 fx0 lx0 junk
 rw [M.a40] at h
 try dsimp only at h
 subst lx0
 refine Gn 7 [(13, .slice Ax0 x0.length cx0), (14, .i (x0.length : Int)), (15, .u (wr .u64 (x0.length : Int))), (16, .i x1), (17, .u (wr .u64 x1))] (Yt 1110 B186 [5, 6, 7, 8, 9, 10] (Ys 1111 B186 [])) ?_
 refine Gb h fun y2 e3 h => ?_
 refine Gc (kc 233 [15, 17] #[150, 150]) 18 337 233 _ (W.z2l (wr .u64 (x0.length : Int)) (wr .u64 x1) y2 e3  p1 ) ?_
 rintro _ w2 ⟨S2, rfl, z2, p2⟩
 refine Gm 12 [([12], .tuple #[.u y2.1, .u y2.2]), ([19, 5, 21], .u y2.1), ([20, 6], .u y2.2), ([22, 23], .bool (decide (y2.1 > 0)))] (Yt 111100 B186 [3, 4, 5] Jkb) ?_
 refine Gi h (fun h4 h => ?_) fun h4 h => ?_
 ·
  rw [dt h4]
  refine Gm 4 [([24, 25], undef), ([26], .bool true)] Jkb ?_
  exact Gj 48 [(0, .slice Ax0 x0.length cx0), (6, .u y2.2), (26, .bool true)] (W.z2p _ _ h _ _ (hx.t z2) _ _ _ p2 (fx0.ext z2) rfl)
 ·
  rw [df h4]
  refine Gm 4 [([24], .u y2.2), ([25, 26], .bool (decide (y2.2 > 9223372036854775807)))] Jkb ?_
  exact Gj 48 [(0, .slice Ax0 x0.length cx0), (6, .u y2.2), (26, .bool (decide (y2.2 > 9223372036854775807)))] (W.z2p _ _ h _ _ (hx.t z2) _ _ _ p2 (fx0.ext z2) rfl)
theorem W.z2m (x0 : List T26) (x1 : Int) (r : List T26) (h : M.a34 x0 x1 = some r) {nz wz S0 w0 Lr} (Ax0 nx0 cx0) (p0 : Hp nz wz S0 w0 (Lr)) (fx0 : Rd kT26 S0 w0 Ax0 cx0 x0) (lx0 : x0.length = nx0) :
  Calls Tg 186 #[.slice Ax0 nx0 cx0, .i x1] w0 (Rets (Post.z2m nz wz S0 w0 Lr r)) := by
 subst lx0
 refine Zf Tryz.f186 B186 46 ?_
 refine Gj 48 [(0, .slice Ax0 x0.length cx0), (1, .i x1)] fun junk => ?_
 delta M.a34 at h
 refine Gn 10 [(4, .slice none 0 0), (9, .i x1), (10, .bool (decide (x1 < 0)))] (Ys 1101 B186 Jkd) ?_
 refine Gi h (fun h1 h => ?_) fun h1 h => ?_
 ·
  rw [dt h1]
  refine Gn 2 [] (Yt 11010 B186 [0, 1] Jkd) ?_
  cases h
 ·
  rw [df h1]
  refine Gn 2 [] Jkd ?_
  exact Gj 48 [(0, .slice Ax0 x0.length cx0), (1, .i x1)] (W.z2q _ _ h _ _ (Xg S0 w0) _ _ _ p0 fx0 rfl)
def Qh0 := Yq 1110100 B182
def Jkl := Zl Qh0 (Zb 0 (Ys 1111 B182 []))
def Jkm := Zc Qh0 Jkl
def Jkn := Ys 111 B115 []
def Jko := Zb 0 Jkn
def Jkp := Ys 1101011111011 B115 Jko
def Qh3 := Yq 1101011111010100 B115
def Jkr := Zl Qh3 (Zb 1 Jkp)
def Jks := Zc Qh3 Jkr
def Jku := Zb 2 (Ys 1101011111010100111 B115 Jkr)
def Qh5 := Yq 11010111110101001100111 B115
def Jkv := Zc Qh5 Jku
def Jkw := Ys 110101111101010011001101 B115 Jkv
def Jl2 := Ys 11010101 B115 Jko
def Jl5 := Ys 1101011101 B115 Jko
def Jlc := Ys 1111 B115 []
def Jld := Ys 11101 B115 Jlc
def Qho := Yq 11100 B115
def Jlg := Ys 11111 B115 []
def Qhq := Yq 11110 B115
def Jlj := Ys 1110101 B115 Jlc
def Qhz := Yq 110101111101010011001100 B115
def Jlu := Ys 11010111110111 B115 Jko
def Jlw := Ys 11010111110101001100110101 B115 Jkv
def Jm7 := Zb 1 (Ys 1110100111 B182 Jkl)
def Jmc := Ys 11101001100111 B182 Jm7
def Jme := Ys 11111 B182 []
def Jmf := Yt 11110 B182 [0, 1] Jme
def Post.z2r (r : T218) (v : Value) (w' : World) : Prop :=
 ∃ S' u9z ua0 ua1, v = (ag (vT218 r u9z ua0 ua1)) ∧ Ext S0 w0 S' w' ∧ Hp nz wz S' w' (Lr) ∧ Rd kStr S' w' u9z ua1 r.l ∧ r.l.length = ua0
def Post.z2s (r : T218) (v : Value) (w' : World) : Prop :=
 ∃ S' u9z ua0 ua1, v = (ag (vT218 r u9z ua0 ua1)) ∧ Ext S0 w0 S' w' ∧ Hp nz wz S' w' (Lr) ∧ Rd kStr S' w' u9z ua1 r.l ∧ r.l.length = ua0
def LF.z2r : T26 → T218 → Prop := fun x0 r => ∀ {nz wz S0 w0 Lr} u92 u93 u94 (_ : Hp nz wz S0 w0 (Lr)) (_ : x0.Set.length = 4) (_ : Rd kT26 S0 w0 u92 u94 x0.L) (_ : x0.L.length = u93),
 Calls Tg 115 #[(ag (vT26 x0 u92 u93 u94))] w0 (Rets (Post.z2r nz wz S0 w0 Lr r))
def LF.z2s : (List T26) → T218 → Prop := fun x0 r => ∀ {nz wz S0 w0 Lr} Ax0 nx0 cx0 (_ : Hp nz wz S0 w0 (Lr)) (_ : Rd kT26 S0 w0 Ax0 cx0 x0) (_ : x0.length = nx0),
 Calls Tg 182 #[.slice Ax0 nx0 cx0] w0 (Rets (Post.z2s nz wz S0 w0 Lr r))
def L.z2t : T218 × T218 × (List T26) × Int × Int → T218 → Prop := fun ⟨x2v, x3v, x8, x9, x10⟩ r => ∀ S1 w1, Ext S0 w0 S1 w1 → ∀ gx2 ua2 ua3 ua4 ua5 gx3 ual uam uan Ax8 nx8 cx8 (_ : Hp nz wz S1 w1 ((some gx2, .row 219 (vT218 x2v (Gp ua2) ua3 ua4) 2 0) :: (ua2, .row 9 ua5 (ua4 * kStr.size) 0) :: (some gx3, .row 219 (vT218 x3v ual uam uan) 2 0) :: Lr)) (_ : Els kStr S1 w1 ua5 x2v.l) (_ : x2v.l.length = ua3) (_ : Rd kStr S1 w1 ual uan x3v.l) (_ : x3v.l.length = uam) (_ : Rd kT26 S1 w1 Ax8 cx8 x8) (_ : x8.length = nx8) (junk : Nat → Value),
 Goes Tg (base 182) Jkm ⟨lfr 23 [(2, (pt gx2 0)), (3, (pt gx3 0)), (8, .slice Ax8 nx8 cx8), (9, .i x9), (10, .i x10)] junk, []⟩ w1 (Done Tg 182 (Rets (Post.z2s nz wz S0 w0 Lr r)))
def LL.z2t : T218 × T218 × (List T26) × Int × Int → T218 → Prop := fun a r => ∀ {nz wz S0 w0 Lr}, L.z2t nz wz S0 w0 Lr a r
def L.z2u : T218 × T218 × (List T26) × Int × Int → T218 → Prop := fun ⟨x2v, x3v, x23, x24, x25⟩ r => ∀ S1 w1, Ext S0 w0 S1 w1 → ∀ gx2 ua2 ua3 ua4 ua5 gx3 ual uam uan u99 u9a u9b (_ : Hp nz wz S1 w1 ((some gx2, .row 219 (vT218 x2v (Gp ua2) ua3 ua4) 2 0) :: (ua2, .row 9 ua5 (ua4 * kStr.size) 0) :: (some gx3, .row 219 (vT218 x3v ual uam uan) 2 0) :: Lr)) (_ : Els kStr S1 w1 ua5 x2v.l) (_ : x2v.l.length = ua3) (_ : Rd kStr S1 w1 ual uan x3v.l) (_ : x3v.l.length = uam) (_ : Rd kT26 S1 w1 u99 u9b x23) (_ : x23.length = u9a) (junk : Nat → Value),
 Goes Tg (base 115) Jks ⟨lfr 61 [(2, (pt gx2 0)), (3, (pt gx3 0)), (23, .slice u99 u9a u9b), (24, .i x24), (25, .i x25)] junk, []⟩ w1 (Done Tg 115 (Rets (Post.z2r nz wz S0 w0 Lr r)))
def LL.z2u : T218 × T218 × (List T26) × Int × Int → T218 → Prop := fun a r => ∀ {nz wz S0 w0 Lr}, L.z2u nz wz S0 w0 Lr a r
def L.z2v : T218 × T218 × T218 × (List T26) × Int × Int × Bool → T218 → Prop := fun ⟨x2v, x3v, x6v, x23, x24, x25, x38⟩ r => ∀ S1 w1, Ext S0 w0 S1 w1 → ∀ gx2 ua2 ua3 ua4 ua5 gx3 ual uam uan gx6 ucf ucg uch u99 u9a u9b (_ : Hp nz wz S1 w1 ((some gx2, .row 219 (vT218 x2v (Gp ua2) ua3 ua4) 2 0) :: (ua2, .row 9 ua5 (ua4 * kStr.size) 0) :: (some gx3, .row 219 (vT218 x3v ual uam uan) 2 0) :: (some gx6, .row 219 (vT218 x6v ucf ucg uch) 2 0) :: Lr)) (_ : Els kStr S1 w1 ua5 x2v.l) (_ : x2v.l.length = ua3) (_ : Rd kStr S1 w1 ual uan x3v.l) (_ : x3v.l.length = uam) (_ : Rd kStr S1 w1 ucf uch x6v.l) (_ : x6v.l.length = ucg) (_ : Rd kT26 S1 w1 u99 u9b x23) (_ : x23.length = u9a) (junk : Nat → Value),
 Goes Tg (base 115) Jkw ⟨lfr 61 [(2, (pt gx2 0)), (3, (pt gx3 0)), (6, (pt gx6 0)), (23, .slice u99 u9a u9b), (24, .i x24), (25, .i x25), (38, .bool x38)] junk, []⟩ w1 (Done Tg 115 (Rets (Post.z2r nz wz S0 w0 Lr r)))
def LL.z2v : T218 × T218 × T218 × (List T26) × Int × Int × Bool → T218 → Prop := fun a r => ∀ {nz wz S0 w0 Lr}, L.z2v nz wz S0 w0 Lr a r
theorem W.z2w : (∀ a r, M.a3 a = some r → LF.z2r a r) ∧ (∀ a r, M.ay a = some r → LL.z2u a r) ∧ (∀ a r, M.az a = some r → LL.z2v a r) ∧ (∀ a r, M.a1m a = some r → LF.z2s a r) ∧ (∀ a r, M.ax a = some r → LL.z2t a r) := by
 refine M.a3.mutual_partial_correctness LF.z2r LL.z2u LL.z2v LF.z2s LL.z2t ?_ ?_ ?_ ?_ ?_
 ·
  intro uci rec_gram_row ucj ih_gram_row x0 r h nz wz S0 w0 Lr u92 u93 u94 p0 u9e u9f u9g
  try dsimp only at h
  subst u9g
  refine Zf Tryz.f115 B115 60 ?_
  refine Gj 61 [(0, (ag (vT26 x0 u92 x0.L.length u94)))] fun junk => ?_
  refine Gn 2 [] (Yt 10 B115 [0, 1] (Ys 11 B115 [])) ?_
  refine Ob 27 0 1 0 (ag (vT26 x0 u92 x0.L.length u94)) (vT26 x0 u92 x0.L.length u94) p0 Xa fun b1 w2 z2 p2 => ?_
  refine Oa 219 2 0 (.agg #[.slice none 0 0, .bool false]) [.slice none 0 0, .bool false] p2 Xa fun b3 w3 z3 p3 => ?_
  refine Gn 5 [(7, (pt b1 0))] (Yt 1100 B115 [1] (Ys 1101 B115 Jkn)) ?_
  refine Xb 3 7 8 3 ⟨b1, 0, none⟩ (.i x0.Kind) (p3.c 1 0) ?_
  refine Gm 7 [([10, 9], .bool (decide (x0.Kind = 1)))] (Ys 110101 B115 Jko) ?_
  refine Gi h (fun h5 h => ?_) fun h5 h => ?_
  ·
   rw [dt h5]
   refine Gn 4 [(11, (pt b1 1))] (Yt 11010100 B115 [1, 2, 3] Jl2) ?_
   refine Xf 24 11 12 24 ⟨b1, 1, none⟩ (U4 x0.Set []) (p3.pa 1 1) ?_
   refine Gb h fun y6 e7 h => ?_
   refine Gc (kc 181 [12] #[24]) 13 219 181 _ (W.z22 x0.Set y6 e7 _ p3 (els_mk4 (S := S0) (w := w3) (k := .u64) u9e) rfl) ?_
   rintro _ w4 ⟨S4, uck, ucl, ucm, rfl, z4, p4, u2r, rfl⟩
   have p4 := p4.dp 1
   refine So 219 2 13 0 0 b3 0 (ag (vT218 y6 uck y6.l.length ucm)) (vT218 y6 uck y6.l.length ucm) p4 rfl Xd fun w5 z5 p5 => ?_
   refine Gn 1 [] Jl2 ?_
   obtain rfl := sj h
   exact R1 Tryz.f115 (.cell 2 219) (ag (vT218 y6 uck y6.l.length ucm)) (Rn b3 (p5.pa 0 0)) ⟨_, _, _, _, rfl, (((z2.t z3).t z4).t z5), p5.drop, (u2r.ext z5), rfl⟩
  ·
   rw [df h5]
   refine Gm 6 [([15, 14], .bool (decide (x0.Kind = 2)))] (Ys 11010111 B115 Jko) ?_
   refine Gi h (fun h8 h => ?_) fun h8 h => ?_
   ·
    rw [dt h8]
    refine Gn 4 [(16, (pt b1 5))] (Yt 1101011100 B115 [1, 2, 3] Jl5) ?_
    refine Xb 25 16 17 25 ⟨b1, 5, none⟩ (.slice u92 x0.L.length u94) (p3.c 1 5) ?_
    refine Gb h fun y9 e10 h => ?_
    refine Gc (kc 182 [17] #[25]) 18 219 182 _ (ih_gram_row x0.L y9 e10 _ _ _ p3 (u9f.ext (z2.t z3)) rfl) ?_
    rintro _ w6 ⟨S6, ucn, uco, ucp, rfl, z6, p6, ucq, rfl⟩
    have p6 := p6.dp 1
    refine So 219 2 18 0 0 b3 0 (ag (vT218 y9 ucn y9.l.length ucp)) (vT218 y9 ucn y9.l.length ucp) p6 rfl Xd fun w7 z7 p7 => ?_
    refine Gn 1 [] Jl5 ?_
    obtain rfl := sj h
    exact R1 Tryz.f115 (.cell 2 219) (ag (vT218 y9 ucn y9.l.length ucp)) (Rn b3 (p7.pa 0 0)) ⟨_, _, _, _, rfl, (((z2.t z3).t z6).t z7), p7.drop, (ucq.ext z7), rfl⟩
   ·
    rw [df h8]
    refine Gm 6 [([20, 19], .bool (decide (x0.Kind = 3)))] (Ys 1101011111 B115 Jko) ?_
    refine Gi h (fun h11 h => ?_) fun h11 h => ?_
    ·
     rw [dt h11]
     refine Gn 3 [] (Yt 110101111100 B115 [0, 1, 2] (Ys 110101111101 B115 Jko)) ?_
     refine Gb h fun y12 e13 h => ?_
     refine Gc (.call { callee := .value (.func 183), args := #[(.const (.slice none 0 0))], argTypes := #[43] }) 21 219 183 _ (W.z2c y12 e13  p3 ) ?_
     rintro _ w8 ⟨S8, ucr, ucs, uct, rfl, z8, p8, ucu, rfl⟩
     refine Oa 219 3 0 (.agg #[.slice none 0 0, .bool false]) [.slice none 0 0, .bool false] p8 Xa fun b14 w9 z9 p9 => ?_
     refine So 219 3 21 0 0 b14 0 (ag (vT218 y12 ucr y12.l.length uct)) (vT218 y12 ucr y12.l.length uct) p9 rfl Xd fun w10 z10 p10 => ?_
     refine Gn 5 [(22, (pt b1 5))] (Yt 11010111110100 B115 [1, 2, 3] (Ys 11010111110101 B115 Jkp)) ?_
     refine Xb 25 22 23 25 ⟨b1, 5, none⟩ (.slice u92 x0.L.length u94) (p10.c 2 5) ?_
     refine Gn 5 [(24, .i (x0.L.length : Int)), (25, .i 0)] Jks ?_
     have p10 : Hp nz wz S8 w10 ((none, .row 9 [] (0 * kStr.size) 0) :: (some b14, .row 219 (vT218 y12 ucr y12.l.length uct) 2 0) :: (some b3, .row 219 [.slice none 0 0, .bool false] 2 0) :: (some b1, .row 27 (vT26 x0 u92 x0.L.length u94) 8 0) :: Lr) := p10.nilRow' 9
     have p10 := p10.dp 3
     have p10 := ((p10.fr 1).fr 1).fr 2
     exact Gj 61 [(2, (pt b3 0)), (3, (pt b14 0)), (23, .slice u92 x0.L.length u94), (24, .i (x0.L.length : Int)), (25, .i 0)] (ucj _ _ h _ _ ((((z2.t z3).t z8).t z9).t z10) _ none 0 0 [] _ _ _ _ _ _ _ p10 (Els.nil (K := kStr)) rfl (ucu.ext (z9.t z10)) rfl (u9f.ext ((((z2.t z3).t z8).t z9).t z10)) rfl)
    ·
     rw [df h11]
     refine Gn 7 [(49, (pt b1 6))] (Zr Qho [1, 2, 3, 4] Jld) ?_
     refine Xb 3 49 50 3 ⟨b1, 6, none⟩ (.i x0.Min) (p3.c 1 6) ?_
     refine Gn 1 [(51, (pt b1 7))] (Zr Qho [3, 4] Jld) ?_
     refine Xb 3 51 52 3 ⟨b1, 7, none⟩ (.i x0.Max) (p3.c 1 7) ?_
     refine Gn 2 [(53, .bool (!(decide (x0.Min = x0.Max))))] Jld ?_
     refine Gi h (fun h20 h => ?_) fun h20 h => ?_
     ·
      rw [dt h20]
      refine Gn 5 [(55, (pt b1 5))] (Zr Qhq [1, 2, 3, 4, 5, 6] Jlg) ?_
      refine Xb 25 55 56 25 ⟨b1, 5, none⟩ (.slice u92 x0.L.length u94) (p3.c 1 5) ?_
      refine Gn 1 [(57, (pt b1 6))] (Zr Qhq [3, 4, 5, 6] Jlg) ?_
      refine Xb 3 57 58 3 ⟨b1, 6, none⟩ (.i x0.Min) (p3.c 1 6) ?_
      refine Gb h fun y21 e22 h => ?_
      refine Gc (kc 186 [56, 58] #[25, 3]) 59 25 186 _ (W.z2m x0.L x0.Min y21 e22 _ _ _ p3 (u9f.ext (z2.t z3)) rfl) ?_
      rintro _ w11 ⟨S11, ucv, ucw, ucx, ucy, rfl, z11, p11, u7y, rfl⟩
      have p11 := p11.dp 2
      obtain ⟨S12, z12, p12, f24⟩ := p11.freezeRd 0 rfl u7y (by decide)
      refine Gb h fun y25 e26 h => ?_
      refine Gc (kc 182 [59] #[25]) 60 219 182 _ (ih_gram_row y21 y25 e26 _ _ _ p12 f24 rfl) ?_
      rintro _ w13 ⟨S13, ucz, ud0, ud1, rfl, z13, p13, ud2, rfl⟩
      have p13 := p13.dp 0
      refine So 219 2 60 0 0 b3 0 (ag (vT218 y25 ucz y25.l.length ud1)) (vT218 y25 ucz y25.l.length ud1) p13 rfl Xd fun w14 z14 p14 => ?_
      refine Gn 1 [] Jlg ?_
      obtain rfl := sj h
      exact R1 Tryz.f115 (.cell 2 219) (ag (vT218 y25 ucz y25.l.length ud1)) (Rn b3 (p14.pa 0 0)) ⟨_, _, _, _, rfl, (((((z2.t z3).t z11).t z12).t z13).t z14), p14.drop, (ud2.ext z14), rfl⟩
     ·
      rw [df h20]
      refine Gn 3 [] (Yt 1110100 B115 [0, 1] Jlj) ?_
      refine Gb h fun y27 e28 h => ?_
      refine Gc (kc 184 [] #[]) 54 219 184 _ (W.z21 y27 e28  p3 ) ?_
      rintro _ w15 ⟨S15, ud3, ud4, ud5, rfl, z15, p15, ud6, rfl⟩
      have p15 := p15.dp 1
      refine So 219 2 54 0 0 b3 0 (ag (vT218 y27 ud3 y27.l.length ud5)) (vT218 y27 ud3 y27.l.length ud5) p15 rfl Xd fun w16 z16 p16 => ?_
      refine Gn 1 [] Jlj ?_
      obtain rfl := sj h
      exact R1 Tryz.f115 (.cell 2 219) (ag (vT218 y27 ud3 y27.l.length ud5)) (Rn b3 (p16.pa 0 0)) ⟨_, _, _, _, rfl, (((z2.t z3).t z15).t z16), p16.drop, (ud6.ext z16), rfl⟩
 ·
  intro rec_gram_tell ud7 ih_gram_tell ud8 ⟨x2v, x3v, x23, x24, x25⟩ r h nz wz S0 w0 Lr S1 w1 hx gx2 ua2 ua3 ua4 ua5 gx3 ual uam uan u99 u9a u9b p1 ua8 ue ub0 u9v u9m u9n junk
  try dsimp only at h
  subst ue
  subst u9v
  subst u9n
  refine Gn 5 [(26, .bool (decide (x25 < x24)))] (Ys 110101111101010010 B115 (Ys 110101111101010011 B115 Jkr)) ?_
  refine Gi h (fun h29 h => ?_) fun h29 h => ?_
  ·
   rw [dt h29]
   refine Gn 6 [] (Yt 110101111101010011000 B115 [0, 1, 2, 3] (Ys 110101111101010011001 B115 Jku)) ?_
   refine Gg h fun g30 h => ?_
   refine Gg h fun g31 h => ?_
   refine Oi 25 23 25 27 0 27 .i64 x25 (gi x23 x25) rfl rfl u9m Xa g30 g31 fun a32 _ f33 q34 => ?_
   have q35 := q34
   obtain ⟨_, _, rfl, rfl, ⟨_, _, rfl, ⟨l36, f37⟩, ⟨_, _, rfl, ⟨A38, c39, rfl, f40⟩, ⟨_, _, rfl, rfl, rfl⟩⟩⟩⟩ := kT26_open q35
   obtain rfl := els_lit4' f37 l36
   refine Xf 27 27 28 27 a32 ([.i ((gi x23 x25).Kind)] ++ ((U4 ((gi x23 x25).Set) []) ++ ([.slice A38 (((gi x23 x25).L).length) c39] ++ ([.i ((gi x23 x25).Min)] ++ [.i ((gi x23 x25).Max)])))) (f33.cell) ?_
   refine Oa 27 5 0 (.agg #[.i 0, .u 0, .u 0, .u 0, .u 0, .slice none 0 0, .i 0, .i 0]) [.i 0, .u 0, .u 0, .u 0, .u 0, .slice none 0 0, .i 0, .i 0] p1 Xa fun b41 w17 z17 p17 => ?_
   refine So 27 5 28 0 0 b41 0 (ag (.i ((gi x23 x25).Kind) :: U4 ((gi x23 x25).Set) [.slice A38 (((gi x23 x25).L).length) c39, .i ((gi x23 x25).Min), .i ((gi x23 x25).Max)])) (.i ((gi x23 x25).Kind) :: U4 ((gi x23 x25).Set) [.slice A38 (((gi x23 x25).L).length) c39, .i ((gi x23 x25).Min), .i ((gi x23 x25).Max)]) p17 rfl Xd fun w18 z18 p18 => ?_
   refine Gn 3 [] (Yt 1101011111010100110010 B115 [0, 1, 2, 3] (Ys 1101011111010100110011 B115 Jku)) ?_
   refine Xf 27 5 29 27 ⟨b41, 0, none⟩ (.i ((gi x23 x25).Kind) :: U4 ((gi x23 x25).Set) [.slice A38 (((gi x23 x25).L).length) c39, .i ((gi x23 x25).Min), .i ((gi x23 x25).Max)]) (p18.pa 0 0) ?_
   refine Gb h fun y43 e44 h => ?_
   refine Gc (kc 115 [29] #[27]) 30 219 115 _ (ih_gram_tell (⟨(gi x23 x25).Kind, ((gi x23 x25).Set), (gi x23 x25).L, (gi x23 x25).Min, (gi x23 x25).Max⟩ : T26) y43 e44 _ _ _ p18 l36 (f40.ext (z17.t z18)) rfl) ?_
   rintro _ w19 ⟨S19, ud9, uda, udb, rfl, z19, p19, udc, rfl⟩
   have p19 := p19.dp 0
   refine Oa 219 6 0 (.agg #[.slice none 0 0, .bool false]) [.slice none 0 0, .bool false] p19 Xa fun b45 w20 z20 p20 => ?_
   refine So 219 6 30 0 0 b45 0 (ag (vT218 y43 ud9 y43.l.length udb)) (vT218 y43 ud9 y43.l.length udb) p20 rfl Xd fun w21 z21 p21 => ?_
   refine Gn 5 [(31, (pt b45 1))] (Zr Qhz [1, 2, 3, 4, 5, 6, 7] Jkw) ?_
   refine Xb 4 31 32 4 ⟨b45, 1, none⟩ (.bool y43.known) (p21.c 0 1) ?_
   refine Gm 2 [([33, 34], .bool (!y43.known))] (Zr Qhz [4, 5, 6, 7] Jkw) ?_
   refine Gi h (fun h47 h => ?_) fun h47 h => ?_
   ·
    rw [h47]
    have p21 : Hp nz wz S19 w21 ((some b45, .row 219 [.slice ud9 y43.l.length udb, .bool true] 2 0) :: (some gx2, .row 219 (vT218 x2v (Gp ua2) x2v.l.length ua4) 2 0) :: (ua2, .row 9 ua5 (ua4 * kStr.size) 0) :: (some gx3, .row 219 (vT218 x3v ual x3v.l.length uan) 2 0) :: Lr) := by simp only [vT26, vT134, vT370, vT218, vT29, vT174, h47] at p21; exact p21
    refine Gn 1 [(35, (pt gx3 1))] (Zr Qhz [5, 6, 7] Jkw) ?_
    refine Xb 4 35 36 4 ⟨gx3, 1, none⟩ (.bool x3v.known) (p21.c 3 1) ?_
    refine Gm 3 [([37, 38], .bool (!x3v.known))] Jkw ?_
    have p21 := (((p21.fr 0).fr 3).fr 3).fr 3
    exact Gj 61 [(2, (pt gx2 0)), (3, (pt gx3 0)), (6, (pt b45 0)), (23, .slice u99 x23.length u9b), (24, .i x24), (25, .i x25), (38, .bool (!x3v.known))] (ud8 _ _ h _ _ (((((hx.t z17).t z18).t z19).t z20).t z21) _ _ _ _ _ _ _ _ _ _ _ _ _ _ _ _ p21 (ua8.ext ((((z17.t z18).t z19).t z20).t z21)) rfl (ub0.ext ((((z17.t z18).t z19).t z20).t z21)) rfl (udc.ext (z20.t z21)) rfl (u9m.ext ((((z17.t z18).t z19).t z20).t z21)) rfl)
   ·
    have udd := bf h47
    rw [udd]
    have p21 : Hp nz wz S19 w21 ((some b45, .row 219 [.slice ud9 y43.l.length udb, .bool false] 2 0) :: (some gx2, .row 219 (vT218 x2v (Gp ua2) x2v.l.length ua4) 2 0) :: (ua2, .row 9 ua5 (ua4 * kStr.size) 0) :: (some gx3, .row 219 (vT218 x3v ual x3v.l.length uan) 2 0) :: Lr) := by simp only [vT26, vT134, vT370, vT218, vT29, vT174, udd] at p21; exact p21
    refine Gm 5 [([35, 36, 37], undef), ([38], .bool true)] Jkw ?_
    have p21 := (((p21.fr 0).fr 3).fr 3).fr 3
    exact Gj 61 [(2, (pt gx2 0)), (3, (pt gx3 0)), (6, (pt b45 0)), (23, .slice u99 x23.length u9b), (24, .i x24), (25, .i x25), (38, .bool true)] (ud8 _ _ h _ _ (((((hx.t z17).t z18).t z19).t z20).t z21) _ _ _ _ _ _ _ _ _ _ _ _ _ _ _ _ p21 (ua8.ext ((((z17.t z18).t z19).t z20).t z21)) rfl (ub0.ext ((((z17.t z18).t z19).t z20).t z21)) rfl (udc.ext (z20.t z21)) rfl (u9m.ext ((((z17.t z18).t z19).t z20).t z21)) rfl)
  ·
   rw [df h29]
   refine Gn 4 [] (Yt 11010111110110 B115 [0, 1] Jlu) ?_
   refine Xf 219 3 48 219 ⟨gx3, 0, none⟩ (vT218 x3v ual x3v.l.length uan) (p1.pa 2 0) ?_
   refine So 219 2 48 0 0 gx2 0 (ag (vT218 x3v ual x3v.l.length uan)) (vT218 x3v ual x3v.l.length uan) p1 rfl Xd fun w22 z22 p22 => ?_
   refine Gn 1 [] Jlu ?_
   obtain rfl := sj h
   have p22 := (p22.dp 1).dp 1
   exact R1 Tryz.f115 (.cell 2 219) (ag (vT218 x3v ual x3v.l.length uan)) (Rn gx2 (p22.pa 0 0)) ⟨_, _, _, _, rfl, (hx.t z22), p22.drop, (ub0.ext z22), rfl⟩
 ·
  intro uci ucj ⟨x2v, x3v, x6v, x23, x24, x25, x38⟩ r h nz wz S0 w0 Lr S1 w1 hx gx2 ua2 ua3 ua4 ua5 gx3 ual uam uan gx6 ucf ucg uch u99 u9a u9b p1 ua8 ue ub0 u9v ude u3d u9m u9n junk
  try dsimp only at h
  subst ue
  subst u9v
  subst u3d
  subst u9n
  refine Gi h (fun h52 h => ?_) fun h52 h => ?_
  ·
   rw [h52]
   refine Gn 3 [] (Yt 11010111110101001100110100 B115 [0, 1] Jlw) ?_
   refine Gb h fun y53 e54 h => ?_
   refine Gc (kc 184 [] #[]) 39 219 184 _ (W.z21 y53 e54  p1 ) ?_
   rintro _ w23 ⟨S23, udf, udg, udh, rfl, z23, p23, udi, rfl⟩
   have p23 := (p23.dp 2).dp 2
   refine So 219 2 39 0 0 gx2 0 (ag (vT218 y53 udf y53.l.length udh)) (vT218 y53 udf y53.l.length udh) p23 rfl Xd fun w24 z24 p24 => ?_
   refine Gn 1 [] Jlw ?_
   obtain rfl := sj h
   have p24 := p24.dp 1
   exact R1 Tryz.f115 (.cell 2 219) (ag (vT218 y53 udf y53.l.length udh)) (Rn gx2 (p24.pa 0 0)) ⟨_, _, _, _, rfl, ((hx.t z23).t z24), p24.drop, (udi.ext z24), rfl⟩
  ·
   rw [bf h52]
   refine Gn 4 [(40, (pt gx3 0))] (Zr Qh5 [1, 2, 3, 4, 5, 6, 7] Jku) ?_
   refine Xb 43 40 41 43 ⟨gx3, 0, none⟩ (.slice ual x3v.l.length uan) (p1.c 2 0) ?_
   refine Gn 1 [(42, (pt gx6 0))] (Zr Qh5 [3, 4, 5, 6, 7] Jku) ?_
   refine Xb 43 42 43 43 ⟨gx6, 0, none⟩ (.slice ucf x6v.l.length uch) (p1.c 3 0) ?_
   have f56 : Els (kSl kStr) S1 w1 ([.slice ual x3v.l.length uan, .slice ucf x6v.l.length uch] : List Value) [x3v.l, x6v.l] := by exact (Els.cons (K := (kSl kStr)) (vs := [.slice ual x3v.l.length uan]) (x := x3v.l) ⟨_, _, rfl, ub0⟩ (Els.cons (K := (kSl kStr)) (vs := [.slice ucf x6v.l.length uch]) (x := x6v.l) ⟨_, _, rfl, ude⟩ Els.nil))
   refine Om (.buildSlice 335 2 #[(0, 41), (1, 43)]) 44 335 (fun b => .slice (Gp (some b)) 2 2) 43 ([.slice ual x3v.l.length uan, .slice ucf x6v.l.length uch] : List Value) (2 * (kSl kStr).size) p1 Xa fun b55 w25 z25 p25 => ?_
   obtain ⟨S26, z26, p26, f58⟩ := p25.freezeRd 0 rfl (f56.ext z25) (by decide)
   refine Gb h fun y59 e60 h => ?_
   refine Gc (kc 185 [44] #[335]) 45 43 185 _ (W.z2f [x3v.l, x6v.l] y59 e60 _ _ _ p26 f58 rfl) ?_
   rintro _ w27 ⟨S27, udk, udl, udm, udn, rfl, z27, p27, udo, rfl⟩
   have p27 := (p27.dp 1).dp 4
   refine Gb h fun y62 e63 h => ?_
   refine Gc (kc 183 [45] #[43]) 46 219 183 _ (W.z26 y59 y62 e63 _ _ _ _ p27 udo rfl) ?_
   rintro _ w28 ⟨S28, udp, udq, udr, rfl, z28, p28, uds, rfl⟩
   refine So 219 3 46 0 2 gx3 0 (ag (vT218 y62 udp y62.l.length udr)) (vT218 y62 udp y62.l.length udr) p28 rfl Xd fun w29 z29 p29 => ?_
   refine Gm 7 [([47, 25], .i (wr .i64 (x25 + 1)))] Jks ?_
   exact Gj 61 [(2, (pt gx2 0)), (3, (pt gx3 0)), (23, .slice u99 x23.length u9b), (24, .i x24), (25, .i (wr .i64 (x25 + 1)))] (ucj _ _ h _ _ (((((hx.t z25).t z26).t z27).t z28).t z29) _ _ _ _ _ _ _ _ _ _ _ _ p29 (ua8.ext ((((z25.t z26).t z27).t z28).t z29)) rfl (uds.ext z29) rfl (u9m.ext ((((z25.t z26).t z27).t z28).t z29)) rfl)
 ·
  intro udt udu x0 r h nz wz S0 w0 Lr Ax0 nx0 cx0 p0 fx0 lx0
  try dsimp only at h
  subst lx0
  refine Zf Tryz.f182 B182 22 ?_
  refine Gj 23 [(0, .slice Ax0 x0.length cx0)] fun junk => ?_
  refine Gn 2 [] (Yt 10 B182 [0] (Ys 11 B182 [])) ?_
  refine Oa 219 2 0 (.agg #[.slice none 0 0, .bool false]) [.slice none 0 0, .bool false] p0 Xa fun b1 w2 z2 p2 => ?_
  refine Gn 3 [] (Yt 110 B182 [0, 1, 2, 3] (Ys 111 B182 [])) ?_
  have f4 : Els kStr S0 w2 ([.string (⟨#[]⟩ : ByteArray)] : List Value) [(⟨#[]⟩ : ByteArray)] := by exact (Els.cons (K := kStr) (vs := [.string (⟨#[]⟩ : ByteArray)]) (x := (⟨#[]⟩ : ByteArray)) rfl Els.nil)
  refine Om (.buildSlice 43 1 #[(0, (.const (.string ⟨#[]⟩)))]) 6 43 (fun b => .slice (Gp (some b)) 1 1) 9 ([.string (⟨#[]⟩ : ByteArray)] : List Value) (1 * kStr.size) p2 Xa fun b3 w3 z3 p3 => ?_
  refine Gb h fun y6 e7 h => ?_
  refine Gc (kc 183 [6] #[43]) 7 219 183 _ (W.z26 [(⟨#[]⟩ : ByteArray)] y6 e7 (some b3) _ _ _ p3 (f4.ext z3) rfl) ?_
  rintro _ w4 ⟨S4, uck, ucl, ucm, rfl, z4, p4, u2r, rfl⟩
  refine Oa 219 3 0 (.agg #[.slice none 0 0, .bool false]) [.slice none 0 0, .bool false] p4 Xa fun b8 w5 z5 p5 => ?_
  refine So 219 3 7 0 0 b8 0 (ag (vT218 y6 uck y6.l.length ucm)) (vT218 y6 uck y6.l.length ucm) p5 rfl Xd fun w6 z6 p6 => ?_
  refine Gn 10 [(8, .slice Ax0 x0.length cx0), (9, .i (x0.length : Int)), (10, .i 0)] Jkm ?_
  have p6 : Hp nz wz S4 w6 ((none, .row 9 [] (0 * kStr.size) 0) :: (some b8, .row 219 (vT218 y6 uck y6.l.length ucm) 2 0) :: (some b1, .row 219 [.slice none 0 0, .bool false] 2 0) :: Lr) := p6.nilRow' 9
  have p6 := ((p6.fr 1).fr 1).fr 2
  exact Gj 23 [(2, (pt b1 0)), (3, (pt b8 0)), (8, .slice Ax0 x0.length cx0), (9, .i (x0.length : Int)), (10, .i 0)] (udu _ _ h _ _ ((((z2.t z3).t z4).t z5).t z6) _ none 0 0 [] _ _ _ _ _ _ _ p6 (Els.nil (K := kStr)) rfl (u2r.ext (z5.t z6)) rfl (fx0.ext ((((z2.t z3).t z4).t z5).t z6)) rfl)
 ·
  intro rec_gram_tell udt ih_gram_tell udu ⟨x2v, x3v, x8, x9, x10⟩ r h nz wz S0 w0 Lr S1 w1 hx gx2 ua2 ua3 ua4 ua5 gx3 ual uam uan Ax8 nx8 cx8 p1 ua8 ue ub0 u9v fx8 lx8 junk
  try dsimp only at h
  subst ue
  subst u9v
  subst lx8
  refine Gn 5 [(11, .bool (decide (x10 < x9)))] (Ys 111010010 B182 (Ys 111010011 B182 Jkl)) ?_
  refine Gi h (fun h14 h => ?_) fun h14 h => ?_
  ·
   rw [dt h14]
   refine Gn 6 [] (Yt 111010011000 B182 [0, 1, 2, 3] (Ys 111010011001 B182 Jm7)) ?_
   refine Gg h fun g15 h => ?_
   refine Gg h fun g16 h => ?_
   refine Oi 25 8 10 12 0 27 .i64 x10 (gi x8 x10) rfl rfl fx8 Xa g15 g16 fun a17 _ f18 q19 => ?_
   have q20 := q19
   obtain ⟨_, _, rfl, rfl, ⟨_, _, rfl, ⟨l21, f22⟩, ⟨_, _, rfl, ⟨A23, c24, rfl, f25⟩, ⟨_, _, rfl, rfl, rfl⟩⟩⟩⟩ := kT26_open q20
   obtain rfl := els_lit4' f22 l21
   refine Xf 27 12 13 27 a17 ([.i ((gi x8 x10).Kind)] ++ ((U4 ((gi x8 x10).Set) []) ++ ([.slice A23 (((gi x8 x10).L).length) c24] ++ ([.i ((gi x8 x10).Min)] ++ [.i ((gi x8 x10).Max)])))) (f18.cell) ?_
   refine Oa 27 5 0 (.agg #[.i 0, .u 0, .u 0, .u 0, .u 0, .slice none 0 0, .i 0, .i 0]) [.i 0, .u 0, .u 0, .u 0, .u 0, .slice none 0 0, .i 0, .i 0] p1 Xa fun b26 w7 z7 p7 => ?_
   refine So 27 5 13 0 0 b26 0 (ag (.i ((gi x8 x10).Kind) :: U4 ((gi x8 x10).Set) [.slice A23 (((gi x8 x10).L).length) c24, .i ((gi x8 x10).Min), .i ((gi x8 x10).Max)])) (.i ((gi x8 x10).Kind) :: U4 ((gi x8 x10).Set) [.slice A23 (((gi x8 x10).L).length) c24, .i ((gi x8 x10).Min), .i ((gi x8 x10).Max)]) p7 rfl Xd fun w8 z8 p8 => ?_
   refine Gn 2 [] (Ys 1110100110010 B182 (Ys 1110100110011 B182 Jm7)) ?_
   have z9 : Ext S1 w8 S1 (w8).drew := Xm
   have p9 := p8.draw
   refine Gd [3, 4] (Fc S1 (w8).drew [(⟨gx3, 0, none⟩, .slice ual x3v.l.length uan), (⟨gx3, 1, none⟩, .bool x3v.known), (⟨b26, 0, none⟩, .i ((gi x8 x10).Kind)), (⟨b26, 1, none⟩, .u (gi ((gi x8 x10).Set) 0)), (⟨b26, 2, none⟩, .u (gi ((gi x8 x10).Set) 1)), (⟨b26, 3, none⟩, .u (gi ((gi x8 x10).Set) 2)), (⟨b26, 4, none⟩, .u (gi ((gi x8 x10).Set) 3)), (⟨b26, 5, none⟩, .slice A23 (((gi x8 x10).L).length) c24), (⟨b26, 6, none⟩, .i ((gi x8 x10).Min)), (⟨b26, 7, none⟩, .i ((gi x8 x10).Max))]) 5 5 ?_
   generalize (w8).drew = w9 at z9 p9 ⊢
   refine Xv (i := 0) 219 3 14 219 ⟨gx3, 0, none⟩ (vT218 x3v ual x3v.l.length uan) (by kernel_rfl) (by kernel_rfl) (p9.k [(3, 0, 2), (0, 0, 8)]) (by kernel_rfl) (by kernel_rfl) (by kernel_rfl) (fun _ h j v hj => by match j, hj with | 0, rfl => exact h.2.at_ 0 rfl | 1, rfl => exact h.2.at_ 1 rfl | (j + 2), hj => simp at hj) ?_
   refine Xv (i := 1) 27 5 15 27 ⟨b26, 0, none⟩ (.i ((gi x8 x10).Kind) :: U4 ((gi x8 x10).Set) [.slice A23 (((gi x8 x10).L).length) c24, .i ((gi x8 x10).Min), .i ((gi x8 x10).Max)]) (by kernel_rfl) (by kernel_rfl) (p9.k [(3, 0, 2), (0, 0, 8)]) (by kernel_rfl) (by kernel_rfl) (by kernel_rfl) (fun _ h j v hj => by match j, hj with | 0, rfl => exact h.2.at_ 2 rfl | 1, rfl => exact h.2.at_ 3 rfl | 2, rfl => exact h.2.at_ 4 rfl | 3, rfl => exact h.2.at_ 5 rfl | 4, rfl => exact h.2.at_ 6 rfl | 5, rfl => exact h.2.at_ 7 rfl | 6, rfl => exact h.2.at_ 8 rfl | 7, rfl => exact h.2.at_ 9 rfl | (j + 8), hj => simp at hj) ?_
   refine Gb h fun y28 e29 h => ?_
   refine Oc (kc 115 [15] #[27]) 16 219 115 #[(ag (.i ((gi x8 x10).Kind) :: U4 ((gi x8 x10).Set) [.slice A23 (((gi x8 x10).L).length) c24, .i ((gi x8 x10).Min), .i ((gi x8 x10).Max)]))] (Ac 2) (ih_gram_tell (⟨(gi x8 x10).Kind, ((gi x8 x10).Set), (gi x8 x10).L, (gi x8 x10).Min, (gi x8 x10).Max⟩ : T26) y28 e29 _ _ _ p9 l21 (f25.ext ((z7.t z8).t z9)) rfl) ?_
   rintro _ w10 ⟨S10, udv, udw, udx, rfl, z10, p10, udy, rfl⟩
   refine Xl z10 ⟨(p10.c 3 0), (p10.c 3 1), (p10.c 0 0), (p10.c 0 1), (p10.c 0 2), (p10.c 0 3), (p10.c 0 4), (p10.c 0 5), (p10.c 0 6), (p10.c 0 7), trivial⟩ ?_
   refine Gb h fun y30 e31 h => ?_
   refine Oc (kc 231 [14, 16] #[219, 219]) 17 219 231 #[(ag (vT218 x3v ual x3v.l.length uan)), (ag (vT218 y28 udv y28.l.length udx))] (Ac 3) (W.z27 x3v y28 y30 e31 _ _ _ _ _ _ p10 (ub0.ext (((z7.t z8).t z9).t z10)) rfl udy rfl) ?_
   rintro _ w11 ⟨S11, udz, ue0, ue1, rfl, z11, p11, ue2, rfl⟩
   refine Xi [4] (Fc S11 w11 []) (by decide) ?_
   refine So 219 3 17 0 3 gx3 0 (ag (vT218 y30 udz y30.l.length ue1)) (vT218 y30 udz y30.l.length ue1) p11 rfl (As 4) fun w12 z12 p12 => ?_
   refine Xi [] (Fc S11 w12 []) (by decide) ?_
   refine Ad ?_
   have p12 := p12.dp 0
   refine Gn 3 [(18, (pt gx3 1))] (Yt 11101001100110 B182 [1, 2] Jmc) ?_
   refine Xb 4 18 19 4 ⟨gx3, 1, none⟩ (.bool y30.known) (p12.c 2 1) ?_
   refine Gn 2 [(20, .bool (!y30.known))] Jmc ?_
   refine Gi h (fun h32 h => ?_) fun h32 h => ?_
   ·
    rw [h32]
    have p12 : Hp nz wz S11 w12 ((some gx2, .row 219 (vT218 x2v (Gp ua2) x2v.l.length ua4) 2 0) :: (ua2, .row 9 ua5 (ua4 * kStr.size) 0) :: (some gx3, .row 219 [.slice udz y30.l.length ue1, .bool true] 2 0) :: Lr) := by simp only [vT26, vT134, vT370, vT218, vT29, vT174, h32] at p12; exact p12
    refine Gm 8 [([21, 10], .i (wr .i64 (x10 + 1)))] Jkm ?_
    exact Gj 23 [(2, (pt gx2 0)), (3, (pt gx3 0)), (8, .slice Ax8 x8.length cx8), (9, .i x9), (10, .i (wr .i64 (x10 + 1)))] (udu _ _ h _ _ ((((((hx.t z7).t z8).t z9).t z10).t z11).t z12) _ _ _ _ _ _ _ _ _ _ _ _ p12 (ua8.ext (((((z7.t z8).t z9).t z10).t z11).t z12)) rfl (ue2.ext z12) rfl (fx8.ext (((((z7.t z8).t z9).t z10).t z11).t z12)) rfl)
   ·
    have ue3 := bf h32
    rw [ue3]
    have p12 : Hp nz wz S11 w12 ((some gx2, .row 219 (vT218 x2v (Gp ua2) x2v.l.length ua4) 2 0) :: (ua2, .row 9 ua5 (ua4 * kStr.size) 0) :: (some gx3, .row 219 [.slice udz y30.l.length ue1, .bool false] 2 0) :: Lr) := by simp only [vT26, vT134, vT370, vT218, vT29, vT174, ue3] at p12; exact p12
    refine Gn 4 [] Jmf ?_
    refine Xf 219 3 22 219 ⟨gx3, 0, none⟩ [.slice udz y30.l.length ue1, .bool false] (p12.pa 2 0) ?_
    refine So 219 2 22 0 0 gx2 0 (.agg #[.slice udz y30.l.length ue1, .bool false]) [.slice udz y30.l.length ue1, .bool false] p12 rfl Xd fun w13 z13 p13 => ?_
    refine Gn 1 [] Jme ?_
    obtain rfl := sj h
    have p13 := (p13.dp 1).dp 1
    exact R1 Tryz.f182 (.cell 2 219) (.agg #[.slice udz y30.l.length ue1, .bool false]) (Rn gx2 (p13.pa 0 0)) ⟨_, _, _, _, rfl, (((((((hx.t z7).t z8).t z9).t z10).t z11).t z12).t z13), p13.drop, (ue2.ext (z12.t z13)), rfl⟩
  ·
   rw [df h14]
   refine Gn 4 [] Jmf ?_
   refine Xf 219 3 22 219 ⟨gx3, 0, none⟩ (vT218 x3v ual x3v.l.length uan) (p1.pa 2 0) ?_
   refine So 219 2 22 0 0 gx2 0 (ag (vT218 x3v ual x3v.l.length uan)) (vT218 x3v ual x3v.l.length uan) p1 rfl Xd fun w14 z14 p14 => ?_
   refine Gn 1 [] Jme ?_
   obtain rfl := sj h
   have p14 := (p14.dp 1).dp 1
   exact R1 Tryz.f182 (.cell 2 219) (ag (vT218 x3v ual x3v.l.length uan)) (Rn gx2 (p14.pa 0 0)) ⟨_, _, _, _, rfl, (hx.t z14), p14.drop, (ub0.ext z14), rfl⟩
theorem W.z2r : ∀ a r, M.a3 a = some r → LF.z2r a r := (W.z2w).1
theorem W.z2u : ∀ a r, M.ay a = some r → LL.z2u a r := (W.z2w).2.1
theorem W.z2v : ∀ a r, M.az a = some r → LL.z2v a r := (W.z2w).2.2.1
theorem W.z2s : ∀ a r, M.a1m a = some r → LF.z2s a r := (W.z2w).2.2.2.1
theorem W.z2t : ∀ a r, M.ax a = some r → LL.z2t a r := (W.z2w).2.2.2.2
def Post.z2x (r : ByteArray) (v : Value) (w' : World) : Prop :=
 ∃ S' uh, v = .func (.func 127) #[] #[(pt uh 0)] ∧ Ext S0 w0 S' w' ∧ Hp nz wz S' w' ((some uh, .row 9 [.string r] 1 0) :: Lr)
theorem W.z2x (x0 : ByteArray) (r : ByteArray) (h : M.a4s x0 = some r) {nz wz S0 w0 Lr} (p0 : Hp nz wz S0 w0 (Lr)) :
  Calls Tg 59 #[.string x0] w0 (Rets (Post.z2x nz wz S0 w0 Lr r)) := by
 refine Zf Tryz.f59 B59 3 ?_
 refine Gj 4 [(0, .string x0)] fun junk => ?_
 delta M.a4s at h
 refine Gn 2 [] (Yt 10 B59 [0, 1] (Ys 11 B59 [])) ?_
 refine Ob 9 0 1 0 (.string x0) [.string x0] p0 Xa fun b1 w2 z2 p2 => ?_
 refine Gm 7 [([2, 3], .func (.func 127) #[] #[(pt b1 0)])] (Ys 111 B59 []) ?_
 obtain rfl := sj h
 exact Xc Tryz.f59 (.func (.func 127) #[] #[(pt b1 0)]) ⟨_, _, rfl, z2, p2⟩
end
end Go.Gx
