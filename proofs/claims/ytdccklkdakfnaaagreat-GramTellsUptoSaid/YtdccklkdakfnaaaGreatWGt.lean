import Derived.Test.YtdccklkdakfnaaaGreatWGtd

set_option linter.unusedVariables false

set_option linter.unusedSimpArgs false

set_option maxRecDepth 100000

set_option maxHeartbeats 4000000

namespace Go.Gx

open Go.RowKit Go.Proofs

variable (nz : Nat) (wz : World) (S0 : Fz) (w0 : World) (Lr : List Ent)

noncomputable section

def J1dh := Ys 111111 B25 []

def L.z76 : T26 × T134 × T26 → (T26 × Int × Int) → Prop := fun ⟨x2v, x5v, x6v⟩ r => ∀ S1 w1, Ext S0 w0 S1 w1 → ∀ gx2 u9q u8q u8r u9r gx5 utc gx6 utd ud ue (_ : Hp nz wz S1 w1 ((some gx2, .row 27 (vT26 x2v (Gp u9q) u8q u8r) 8 0) :: (u9q, .row 27 u9r (u8r * kT26.size) 0) :: (some gx5, .row 135 (vT134 x5v utc) 4 0) :: (some gx6, .row 27 (vT26 x6v utd ud ue) 8 0) :: Lr)) (_ : x2v.Set.length = 4) (_ : Els kT26 S1 w1 u9r x2v.L) (_ : x2v.L.length = u8q) (_ : PtO kT138 S1 w1 utc x5v.bad) (_ : x6v.Set.length = 4) (_ : Rd kT26 S1 w1 utd ue x6v.L) (_ : x6v.L.length = ud) (junk : Nat → Value),
 Goes Tryz.prog (base 25) J1dh ⟨lfr 50 [(2, (pt gx2 0)), (5, (pt gx5 0)), (6, (pt gx6 0))] junk, []⟩ w1 (Done Tryz.prog 25 (Rets (Post.z74 nz wz S0 w0 Lr r)))

theorem W.z76 {nz wz S0 w0 Lr} : ∀ a r, M.a68 a = some r → L.z76 nz wz S0 w0 Lr a r := by
 intro ⟨x2v, x5v, x6v⟩ r h S1 w1 hx gx2 u9q u8q u8r u9r gx5 utc gx6 utd ud ue p1 uco u8s u8t ute uv uw ux junk
 rw [M.a68] at h
 try dsimp only at h
 subst u8t
 subst ux
 refine Gm 6 [([36, 37], (pt gx5 0)), ([38], (pt gx5 3))] (Yt 11111100 B25 [3, 4] J1dc) ?_
 refine Goes.ld 133 (.tmp 38) 39 133 ⟨gx5, 3, none⟩ (utc) (p1.c 2 3) ?_
 refine Gl h fun v40 h30 h => ?_
 rcases v40 with _ | y31
 ·
  try dsimp only at h
  obtain rfl := PtO.nil ute h30
  refine Gn 2 [(40, .bool false)] J1dc ?_
  exact Gj 50 [(2, (pt gx2 0)), (5, (pt gx5 0)), (6, (pt gx6 0)), (40, .bool false)] (W.z75 _ _ h _ _ hx _ _ _ _ _ _ (.pointer none) _ _ _ _ p1 uco u8s rfl rfl uv uw rfl)
 ·
  try dsimp only at h
  obtain ⟨a33, _, rfl, -, f34, q35⟩ := PtO.got ute h30
  obtain rfl := q35
  refine Gn 2 [(40, .bool true)] J1dc ?_
  exact Gj 50 [(2, (pt gx2 0)), (5, (pt gx5 0)), (6, (pt gx6 0)), (40, .bool true)] (W.z75 _ _ h _ _ hx _ _ _ _ _ _ _ _ _ _ _ p1 uco u8s rfl ⟨_, _, rfl, List.cons_ne_nil _ _, f34, rfl⟩ uv uw rfl)

def J1dj := Ys 1111101 B25 J1dh

def L.z77 : T26 × T134 × T26 × Bool → (T26 × Int × Int) → Prop := fun ⟨x2v, x5v, x6v, x29⟩ r => ∀ S1 w1, Ext S0 w0 S1 w1 → ∀ gx2 u9q u8q u8r u9r gx5 utc gx6 utd ud ue (_ : Hp nz wz S1 w1 ((some gx2, .row 27 (vT26 x2v (Gp u9q) u8q u8r) 8 0) :: (u9q, .row 27 u9r (u8r * kT26.size) 0) :: (some gx5, .row 135 (vT134 x5v utc) 4 0) :: (some gx6, .row 27 (vT26 x6v utd ud ue) 8 0) :: Lr)) (_ : x2v.Set.length = 4) (_ : Els kT26 S1 w1 u9r x2v.L) (_ : x2v.L.length = u8q) (_ : PtO kT138 S1 w1 utc x5v.bad) (_ : x6v.Set.length = 4) (_ : Rd kT26 S1 w1 utd ue x6v.L) (_ : x6v.L.length = ud) (junk : Nat → Value),
 Goes Tryz.prog (base 25) J1dj ⟨lfr 50 [(2, (pt gx2 0)), (5, (pt gx5 0)), (6, (pt gx6 0)), (29, .bool x29)] junk, []⟩ w1 (Done Tryz.prog 25 (Rets (Post.z74 nz wz S0 w0 Lr r)))

theorem W.z77 {nz wz S0 w0 Lr} : ∀ a r, M.a4w a = some r → L.z77 nz wz S0 w0 Lr a r := by
 intro ⟨x2v, x5v, x6v, x29⟩ r h S1 w1 hx gx2 u9q u8q u8r u9r gx5 utc gx6 utd ud ue p1 uco u8s u8t ute uv uw ux junk
 rw [M.a4w] at h
 try dsimp only at h
 subst u8t
 subst ux
 refine Gi h (fun h23 h => ?_) fun h23 h => ?_
 ·
  rw [h23]
  refine Gm 6 [([30, 31, 32], (pt gx5 0)), ([33], (pt gx5 1))] (Yt 11111010 B25 [4, 5] J1dh) ?_
  refine Goes.ld 3 (.tmp 33) 34 3 ⟨gx5, 1, none⟩ (.i x5v.at_) (p1.c 2 1) ?_
  have p1 := p1.fr 2
  refine Gb h fun y24 e25 h => ?_
  refine Gc (kc 69 [30, 34] #[132, 3]) 35 27 69 _ (W.z5o x5v x5v.at_ y24 e25 _ _ p1 ute) ?_
  rintro _ w8 ⟨S8, upa, upb, upc, upe, rfl, z8, p8, upf, upg, rfl, uph⟩
  refine Gn 1 [] J1dh ?_
  have p8 := (((p8.fr 3).fr 1).fr 3).fr 3
  exact Gj 50 [(2, (pt gx2 0)), (5, (pt gx5 0)), (6, (pt gx6 0))] (W.z76 _ _ h _ _ (hx.t z8) _ _ _ _ _ _ _ _ _ _ _ p8 uco (u8s.ext z8) rfl uph uv (uw.ext z8) rfl)
 ·
  rw [bf h23]
  refine Gn 2 [] J1dh ?_
  exact Gj 50 [(2, (pt gx2 0)), (5, (pt gx5 0)), (6, (pt gx6 0))] (W.z76 _ _ h _ _ hx _ _ _ _ _ _ _ _ _ _ _ p1 uco u8s rfl ute uv uw rfl)

def J1dn := Ys 111 B25 []
def J1dp := Ys 110101 B25 J1dn
def Q13k := Yq 1111100 B25

theorem W.z74 (x0 : ByteArray) (r : T26 × Int × Int) (h : M.a5q x0 = some r) {nz wz S0 w0 Lr} (p0 : Hp nz wz S0 w0 (Lr)) :
  Calls Tryz.prog 25 #[.string x0] w0 (Rets (Post.z74 nz wz S0 w0 Lr r)) := by
 refine Zf Tryz.f25 B25 49 ?_
 refine Gj 50 [(0, .string x0)] fun junk => ?_
 delta M.a5q at h
 refine Gn 2 [] (Yt 10 B25 [0, 1, 2] (Ys 11 B25 [])) ?_
 refine Oa 27 2 0 (.agg #[.i 0, .u 0, .u 0, .u 0, .u 0, .slice none 0 0, .i 0, .i 0]) [.i 0, .u 0, .u 0, .u 0, .u 0, .slice none 0 0, .i 0, .i 0] p0 Goes.v fun b1 w2 z2 p2 => ?_
 refine Gn 10 [(3, .i 0), (4, .i 0), (7, .string x0), (8, .i (x0.size : Int)), (9, .bool (decide ((x0.size : Int) > 256)))] (Ys 1101 B25 J1dn) ?_
 refine Gi h (fun h3 h => ?_) fun h3 h => ?_
 ·
  rw [dt h3]
  refine Gn 4 [(10, .agg #[.i 0, .u 0, .u 0, .u 0, .u 0, .slice none 0 0, .i 0, .i 0])] (Yt 110100 B25 [1, 2, 3] J1dp) ?_
  refine So 27 (.tmp 2) (.tmp 10) 0 0 b1 0 (.agg #[.i 0, .u 0, .u 0, .u 0, .u 0, .slice none 0 0, .i 0, .i 0]) [.i 0, .u 0, .u 0, .u 0, .u 0, .slice none 0 0, .i 0, .i 0] p2 rfl Goes.s fun w3 z3 p3 => ?_
  refine Gn 3 [(3, .i 0), (4, .i 3)] J1dp ?_
  obtain rfl := sj h
  exact R3 Tryz.f25 (.cell 2 27) (.tmp 3) (.tmp 4) (.tuple #[.agg #[.i 0, .u 0, .u 0, .u 0, .u 0, .slice none 0 0, .i 0, .i 0], .i 0, .i 3]) (Rn b1 (p3.pa 0 0)) Rt Rt ⟨_, _, _, _, rfl, (z2.t z3), p3.drop, rfl, Rd.none_, rfl⟩
 ·
  rw [df h3]
  refine Gn 6 [(11, .string x0), (12, .agg #[.string x0, .i 0, .i 0, .pointer none])] (Yt 1110 B25 [2, 3] (Ys 1111 B25 [])) ?_
  refine Ob 135 (.tmp 12) 13 132 (.agg #[.string x0, .i 0, .i 0, .pointer none]) [.string x0, .i 0, .i 0, .pointer none] p2 Goes.v fun b4 w4 z4 p4 => ?_
  refine Gm 5 [([5, 14], (pt b4 0))] (Yt 11110 B25 [1, 2, 3] (Ys 11111 B25 [])) ?_
  refine Gb h fun y6 e7 h => ?_
  refine Gc (kc 68 [14] #[132]) 15 27 68 _ (W.z6s (⟨x0, 0, 0, none⟩ : T134) y6 e7 _ (.pointer none) p4 rfl) ?_
  rintro _ w5 ⟨S5, ucg, uch, uci, upj, rfl, z5, p5, usu, ucj, rfl, upl⟩
  refine Oa 27 6 0 (.agg #[.i 0, .u 0, .u 0, .u 0, .u 0, .slice none 0 0, .i 0, .i 0]) [.i 0, .u 0, .u 0, .u 0, .u 0, .slice none 0 0, .i 0, .i 0] p5 Goes.v fun b8 w6 z6 p6 => ?_
  refine So 27 (.tmp 6) (.tmp 15) 0 0 b8 0 (ag (vT26 y6.1 ucg y6.1.L.length uci)) (vT26 y6.1 ucg y6.1.L.length uci) p6 rfl Goes.s fun w7 z7 p7 => ?_
  refine Gm 7 [([16, 17], (pt b4 0)), ([18], (pt b4 3))] (Zr Q13k [3, 4, 5, 6, 7, 8, 9, 10, 11, 12, 13] J1dj) ?_
  refine Goes.ld 133 (.tmp 18) 19 133 ⟨b4, 3, none⟩ (upj) (p7.c 1 3) ?_
  refine Gl h fun v22 h10 h => ?_
  rcases v22 with _ | y11
  ·
   try dsimp only at h
   obtain rfl := PtO.nil (upl.ext (z6.t z7)) h10
   refine Gm 5 [([20, 21], .bool true), ([22, 23], (pt b4 0)), ([24], (pt b4 1))] (Zr Q13k [9, 10, 11, 12, 13] J1dj) ?_
   refine Goes.ld 3 (.tmp 24) 25 3 ⟨b4, 1, none⟩ (.i y6.2.at_) (p7.c 1 1) ?_
   refine Gm 5 [([26], .string x0), ([27], .i (x0.size : Int)), ([28, 29], .bool (decide (y6.2.at_ < (x0.size : Int))))] J1dj ?_
   have p7 : Hp nz wz S5 w7 ((none, .row 27 [] (0 * kT26.size) 0) :: (some b8, .row 27 (vT26 y6.1 ucg y6.1.L.length uci) 8 0) :: (some b4, .row 135 [.string y6.2.s, .i y6.2.at_, .i y6.2.deep, .pointer none] 4 0) :: (some b1, .row 27 [.i 0, .u 0, .u 0, .u 0, .u 0, .slice none 0 0, .i 0, .i 0] 8 0) :: Lr) := p7.nilRow' 27
   have p7 := (((p7.fr 1).fr 2).fr 2).fr 3
   exact Gj 50 [(2, (pt b1 0)), (5, (pt b4 0)), (6, (pt b8 0)), (29, .bool (decide (y6.2.at_ < (x0.size : Int))))] (W.z77 _ _ h _ _ ((((z2.t z4).t z5).t z6).t z7) _ none 0 0 [] _ (.pointer none) _ _ _ _ p7 rfl (Els.nil (K := kT26)) rfl rfl usu (ucj.ext (z6.t z7)) rfl)
  ·
   try dsimp only at h
   obtain ⟨a13, _, rfl, -, f14, q15⟩ := PtO.got (upl.ext (z6.t z7)) h10
   obtain rfl := q15
   refine Gm 11 [([20, 21, 29], .bool false), ([22, 23, 24, 25, 26, 27, 28], undef)] J1dj ?_
   have p7 : Hp nz wz S5 w7 ((none, .row 27 [] (0 * kT26.size) 0) :: (some b8, .row 27 (vT26 y6.1 ucg y6.1.L.length uci) 8 0) :: (some b4, .row 135 [.string y6.2.s, .i y6.2.at_, .i y6.2.deep, .pointer (some a13)] 4 0) :: (some b1, .row 27 [.i 0, .u 0, .u 0, .u 0, .u 0, .slice none 0 0, .i 0, .i 0] 8 0) :: Lr) := p7.nilRow' 27
   have p7 := (((p7.fr 1).fr 2).fr 2).fr 3
   exact Gj 50 [(2, (pt b1 0)), (5, (pt b4 0)), (6, (pt b8 0)), (29, .bool false)] (W.z77 _ _ h _ _ ((((z2.t z4).t z5).t z6).t z7) _ none 0 0 [] _ _ _ _ _ _ p7 rfl (Els.nil (K := kT26)) rfl ⟨_, _, rfl, List.cons_ne_nil _ _, f14, rfl⟩ usu (ucj.ext (z6.t z7)) rfl)

def J1dx := Ys 111 B67 []
def Q13m := Yq 110 B67
def J1e0 := Ys 1111 B67 []
def Q13o := Yq 1110 B67
def J1e3 := Ys 11111 B67 []

def Post.z78 (r : ByteArray) (v : Value) (w' : World) : Prop :=
 ∃ S', v = .string r ∧ Ext S0 w0 S' w' ∧ Hp nz wz S' w' (Lr)

theorem W.z78 (x0 : ByteArray) (r : ByteArray) (h : M.a3s x0 = some r) {nz wz S0 w0 Lr} (p0 : Hp nz wz S0 w0 (Lr)) :
  Calls Tryz.prog 67 #[.string x0] w0 (Rets (Post.z78 nz wz S0 w0 Lr r)) := by
 refine Zf Tryz.f67 B67 20 ?_
 refine Gj 21 [(0, .string x0)] fun junk => ?_
 delta M.a3s at h
 refine Gn 7 [(2, .string (⟨#[]⟩ : ByteArray)), (9, .string x0)] (Zr Q13m [1, 2, 3, 4, 5, 6, 7, 8, 9] J1dx) ?_
 refine Gb h fun y1 e2 h => ?_
 refine Gc (kc 25 [9] #[9]) 10 53 25 _ (W.z74 x0 y1 e2  p0 ) ?_
 rintro _ w2 ⟨S2, utg, uth, uti, rfl, z2, p2, utj, utk, rfl⟩
 refine Gn 4 [(8, .tuple #[(ag (vT26 y1.1 utg y1.1.L.length uti)), .i y1.2.1, .i y1.2.2]), (11, (ag (vT26 y1.1 utg y1.1.L.length uti))), (12, .i y1.2.1), (13, .i y1.2.2)] (Zr Q13m [6, 7, 8, 9] J1dx) ?_
 refine Oa 27 3 0 (.agg #[.i 0, .u 0, .u 0, .u 0, .u 0, .slice none 0 0, .i 0, .i 0]) [.i 0, .u 0, .u 0, .u 0, .u 0, .slice none 0 0, .i 0, .i 0] p2 Goes.v fun b3 w3 z3 p3 => ?_
 refine So 27 (.tmp 3) (.tmp 11) 0 0 b3 0 (ag (vT26 y1.1 utg y1.1.L.length uti)) (vT26 y1.1 utg y1.1.L.length uti) p3 rfl Goes.s fun w4 z4 p4 => ?_
 refine Gn 5 [(4, .i y1.2.1), (5, .i y1.2.2)] (Zr Q13o [0, 1, 2, 3, 4, 5, 6, 7] J1e0) ?_
 refine Goes.ldN 27 (.tmp 3) 15 27 ⟨b3, 0, none⟩ (vT26 y1.1 utg y1.1.L.length uti) (p4.pa 0 0) ?_
 refine Gb h fun y5 e6 h => ?_
 refine Gc (kc 13 [15] #[27]) 16 35 13 _ (W.z2p y1.1 y5 e6 _ _ _ p4 utj (utk.ext (z3.t z4)) rfl) ?_
 rintro _ w5 ⟨S5, utl, utm, utn, rfl, z5, p5, uto, rfl⟩
 have p5 := p5.dp 0
 refine Gn 3 [(14, .tuple #[(ag (wT29 y5.1.Op y5.1.Text utl y5.1.L.length utn)), .i y5.2]), (17, (ag (wT29 y5.1.Op y5.1.Text utl y5.1.L.length utn))), (18, .i y5.2)] (Zr Q13o [5, 6, 7] J1e0) ?_
 refine Oa 30 6 0 (.agg #[.i 0, .string (⟨#[]⟩ : ByteArray), .slice none 0 0]) [.i 0, .string (⟨#[]⟩ : ByteArray), .slice none 0 0] p5 Goes.v fun b7 w6 z6 p6 => ?_
 refine So 30 (.tmp 6) (.tmp 17) 0 0 b7 0 ((ag (wT29 y5.1.Op y5.1.Text utl y5.1.L.length utn))) (wT29 y5.1.Op y5.1.Text utl y5.1.L.length utn) p6 rfl Goes.s fun w7 z7 p7 => ?_
 refine Gn 4 [(7, .i y5.2)] (Yt 11110 B67 [0, 1, 2] J1e3) ?_
 refine Goes.ldN 30 (.tmp 6) 19 30 ⟨b7, 0, none⟩ (wT29 y5.1.Op y5.1.Text utl y5.1.L.length utn) (p7.pa 0 0) ?_
 refine Gb h fun y9 e10 h => ?_
 refine Gc (kc 22 [19] #[30]) 20 9 22 _ (W.z5d y5.1 y9 e10 _ _ _ p7 (uto.ext (z6.t z7)) rfl) ?_
 rintro _ w8 ⟨S8, rfl, z8, p8⟩
 have p8 := p8.dp 0
 refine Gn 2 [(2, .string y9)] J1e3 ?_
 obtain rfl := sj h
 exact Goes.rt Tryz.f67 (.string y9) ⟨_, rfl, ((((((z2.t z3).t z4).t z5).t z6).t z7).t z8), p8⟩

def J1e5 := Ys 111 B24 []
def Q13s := Yq 110 B24

def Post.z79 (r : Bool) (v : Value) (w' : World) : Prop :=
 ∃ S', v = .bool r ∧ Ext S0 w0 S' w' ∧ Hp nz wz S' w' (Lr)

theorem W.z79 (r : Bool) (h : M.a3t = some r) {nz wz S0 w0 Lr} (p0 : Hp nz wz S0 w0 (Lr)) :
  Calls Tryz.prog 24 #[] w0 (Rets (Post.z79 nz wz S0 w0 Lr r)) := by
 refine Zf Tryz.f24 B24 11 ?_
 refine Gj 11 [] fun junk => ?_
 delta M.a3t at h
 refine Gn 6 [(0, .bool false)] (Zr Q13s [0, 1, 2, 3, 4, 5, 6, 7, 8, 9, 10] J1e5) ?_
 refine Gb h fun y1 e2 h => ?_
 refine Gc (.call { callee := .value (.func 67), args := #[(.const (.string ⟨#[97, 98, 99, 100, 124, 120, 121, 122]⟩))], argTypes := #[9] }) 1 9 67 _ (W.z78 (⟨#[97, 98, 99, 100, 124, 120, 121, 122]⟩ : ByteArray) y1 e2  p0 ) ?_
 rintro _ w2 ⟨S2, rfl, z2, p2⟩
 refine Gm 2 [([2, 3], .bool (y1.toList == (⟨#[91, 40, 124, 97, 98, 99, 124, 32, 124, 98, 99, 100, 124, 41, 32, 124, 120, 121, 122, 124, 93]⟩ : ByteArray).toList))] (Zr Q13s [3, 4, 5, 6, 7, 8, 9, 10] J1e5) ?_
 refine Gi h (fun h3 h => ?_) fun h3 h => ?_
 ·
  rw [h3]
  refine Gb h fun y4 e5 h => ?_
  refine Gc (.call { callee := .value (.func 67), args := #[(.const (.string ⟨#[97, 98, 42]⟩))], argTypes := #[9] }) 4 9 67 _ (W.z78 (⟨#[97, 98, 42]⟩ : ByteArray) y4 e5  p2 ) ?_
  rintro _ w3 ⟨S3, rfl, z3, p3⟩
  refine Gm 3 [([5, 6, 7], .bool (y4.toList == (⟨#[42]⟩ : ByteArray).toList))] (Zr Q13s [7, 8, 9, 10] J1e5) ?_
  refine Gi h (fun h6 h => ?_) fun h6 h => ?_
  ·
   rw [h6]
   refine Gb h fun y7 e8 h => ?_
   refine Gc (.call { callee := .value (.func 67), args := #[(.const (.string ⟨#[40, 97, 124, 98, 41, 99, 100, 46, 101, 102, 103]⟩))], argTypes := #[9] }) 8 9 67 _ (W.z78 (⟨#[40, 97, 124, 98, 41, 99, 100, 46, 101, 102, 103]⟩ : ByteArray) y7 e8  p3 ) ?_
   rintro _ w4 ⟨S4, rfl, z4, p4⟩
   refine Gm 4 [([9, 10, 0], .bool (y7.toList == (⟨#[40, 91, 124, 97, 99, 100, 124, 32, 124, 98, 99, 100, 124, 93, 32, 124, 101, 102, 103, 124, 41]⟩ : ByteArray).toList))] J1e5 ?_
   obtain rfl := sj h
   exact Goes.rt Tryz.f24 (.bool (y7.toList == (⟨#[40, 91, 124, 97, 99, 100, 124, 32, 124, 98, 99, 100, 124, 93, 32, 124, 101, 102, 103, 124, 41]⟩ : ByteArray).toList)) ⟨_, rfl, ((z2.t z3).t z4), p4⟩
  ·
   rw [bf h6]
   refine Gm 5 [([8, 9], undef), ([10, 0], .bool false)] J1e5 ?_
   obtain rfl := sj h
   exact Goes.rt Tryz.f24 (.bool false) ⟨_, rfl, (z2.t z3), p3⟩
 ·
  rw [bf h3]
  refine Gm 9 [([4, 5, 8, 9], undef), ([6, 7, 10, 0], .bool false)] J1e5 ?_
  obtain rfl := sj h
  exact Goes.rt Tryz.f24 (.bool false) ⟨_, rfl, z2, p2⟩

def J1eh := Ys 111111 B3 []
def Q142 := Yq 111110 B3
def J1ek := Ys 1111111 B3 []
def Q144 := Yq 1111110 B3

def Post.z7a (r : Bool) (v : Value) (w' : World) : Prop :=
 ∃ S', v = .bool r ∧ Ext S0 w0 S' w' ∧ Hp nz wz S' w' (Lr)

theorem W.z7a (x0 : ByteArray) (x1 : T26) (x2 : T29) (r : Bool) (h : M.a5v x0 x1 x2 = some r) {nz wz S0 w0 Lr} (u8a u8b u8c utp utq utr) (p0 : Hp nz wz S0 w0 (Lr)) (uts : x1.Set.length = 4) (u8i : Rd kT26 S0 w0 u8a u8c x1.L) (u8j : x1.L.length = u8b) (utt : Rd kT29 S0 w0 utp utr x2.L) (utu : x2.L.length = utq) :
  Calls Tryz.prog 3 #[.string x0, (ag (vT26 x1 u8a u8b u8c)), (ag (wT29 x2.Op x2.Text utp utq utr))] w0 (Rets (Post.z7a nz wz S0 w0 Lr r)) := by
 subst u8j
 subst utu
 refine Zf Tryz.f3 B3 63 ?_
 refine Gj 66 [(0, .string x0), (1, (ag (vT26 x1 u8a x1.L.length u8c))), (2, (ag (wT29 x2.Op x2.Text utp x2.L.length utr)))] fun junk => ?_
 delta M.a5v at h
 refine Gn 2 [] (Yt 10 B3 [0, 1, 2] (Ys 11 B3 [])) ?_
 refine Ob 27 (.tmp 1) 4 0 (ag (vT26 x1 u8a x1.L.length u8c)) (vT26 x1 u8a x1.L.length u8c) p0 Goes.v fun b1 w2 z2 p2 => ?_
 refine Ob 30 (.tmp 2) 5 0 ((ag (wT29 x2.Op x2.Text utp x2.L.length utr))) (wT29 x2.Op x2.Text utp x2.L.length utr) p2 Goes.v fun b3 w3 z3 p3 => ?_
 refine Gn 3 [(6, .bool false)] (Ys 110 B3 (Ys 111 B3 [])) ?_
 have z4 : Ext S0 w3 S0 (w3).drew := Ext.draw
 have p4 := p3.draw
 refine Gd [8] (Fc S0 (w3).drew [(⟨b1, 0, none⟩, .i x1.Kind), (⟨b1, 1, none⟩, .u (gi x1.Set 0)), (⟨b1, 2, none⟩, .u (gi x1.Set 1)), (⟨b1, 3, none⟩, .u (gi x1.Set 2)), (⟨b1, 4, none⟩, .u (gi x1.Set 3)), (⟨b1, 5, none⟩, .slice u8a x1.L.length u8c), (⟨b1, 6, none⟩, .i x1.Min), (⟨b1, 7, none⟩, .i x1.Max)]) 1 9 ?_
 generalize (w3).drew = w4 at z4 p4 ⊢
 refine AnyG.pu 0 (.move (.tmp 0)) 12 9 (.string x0) (Fc.here (p4.cs [(1, 0, 8)])) ?_
 refine AnyG.pu 1 (.move (.tmp 0)) 13 9 (.string x0) (Fc.here (p4.cs [(1, 0, 8)])) ?_
 refine AnyG.pu 2 (.call { callee := .builtin .len, args := #[(.tmp 13)], argTypes := #[9] }) 14 3 (.i (x0.size : Int)) (Fc.here (p4.cs [(1, 0, 8)])) ?_
 refine AnyG.pu 3 (.call { callee := .builtin .min, args := #[(.tmp 14), (.const (.int .i64 100))], argTypes := #[3, 3] }) 15 3 (.i (imn (x0.size : Int) 100)) (Fc.here (p4.cs [(1, 0, 8)])) ?_
 refine Gg h fun g5 h => ?_
 refine Gg h fun g6 h => ?_
 refine AnyG.slS (i := 4) 9 (.tmp 12) none (some (.tmp 15)) 16 9 x0 0 (imn (x0.size : Int) 100) (by kernel_rfl) (by kernel_rfl) (Fc.here (p4.cs [(1, 0, 8)])) (by kernel_rfl) (by kernel_rfl) Bnd.no (Bnd.at_ .i64 (by kernel_rfl)) (by decide : (0 : Int) ≤ 0) g5 g6 ?_
 refine AnyG.ldN (i := 5) 27 (.tmp 4) 17 27 ⟨b1, 0, none⟩ (vT26 x1 u8a x1.L.length u8c) (by kernel_rfl) (by kernel_rfl) (Fc.here (p4.cs [(1, 0, 8)])) (by kernel_rfl) (by kernel_rfl) (by kernel_rfl) (fun _ h j v hj => by match j, hj with | 0, rfl => exact h.2.at_ 0 rfl | 1, rfl => exact h.2.at_ 1 rfl | 2, rfl => exact h.2.at_ 2 rfl | 3, rfl => exact h.2.at_ 3 rfl | 4, rfl => exact h.2.at_ 4 rfl | 5, rfl => exact h.2.at_ 5 rfl | 6, rfl => exact h.2.at_ 6 rfl | 7, rfl => exact h.2.at_ 7 rfl | (j + 8), hj => simp at hj) ?_
 refine Gb h fun y7 e8 h => ?_
 refine Oc (kc 11 [17] #[27]) 18 27 11 #[(ag (vT26 x1 u8a x1.L.length u8c))] (Ac 6) (W.z4 x1 y7 e8 _ _ _ p4 uts (u8i.ext ((z2.t z3).t z4)) rfl) ?_
 rintro _ w5 ⟨S5, utv, uch, uci, utw, rfl, z5, p5, usu, ucj, rfl⟩
 refine AnyG.next z5 ⟨(p5.c 2 0), (p5.c 2 1), (p5.c 2 2), (p5.c 2 3), (p5.c 2 4), (p5.c 2 5), (p5.c 2 6), (p5.c 2 7), trivial⟩ ?_
 refine AnyG.pu 7 (.assign (.tmp 16)) 0 9 (.string (ss x0 0 (imn (x0.size : Int) 100))) (Fc.here (p5.cs [(2, 0, 8)])) ?_
 refine So 27 (.tmp 4) (.tmp 18) 0 2 b1 0 (ag (vT26 y7 (Gp utv) y7.L.length uci)) (vT26 y7 (Gp utv) y7.L.length uci) p5 rfl (As 8) fun w6 z6 p6 => ?_
 refine AnyG.last [] (Fc S5 w6 []) (by decide) ?_
 refine Ad ?_
 refine Gn 2 [] (Yt 1110 B3 [0, 1] (Ys 1111 B3 [])) ?_
 refine Oa 3 7 0 (.i 0) [.i 0] p6 Goes.v fun b10 w7 z7 p7 => ?_
 refine So 3 (.tmp 7) (.const (.int .i64 80)) 0 0 b10 0 (.i 80) [.i 80] p7 rfl Goes.s fun w8 z8 p8 => ?_
 refine Gn 3 [] (Yt 11110 B3 [0, 1, 2] (Ys 11111 B3 [])) ?_
 refine Goes.ldN 30 (.tmp 5) 19 30 ⟨b3, 0, none⟩ (wT29 x2.Op x2.Text utp x2.L.length utr) (p8.pa 2 0) ?_
 refine Gb h fun y12 e13 h => ?_
 refine Gc (.call { callee := .value (.func 12), args := #[(.tmp 19), (.const (.int .i64 9)), (.tmp 7)], argTypes := #[30, 3, 33] }) 20 30 12 _ (W.z5 (x2, 9, 80) y12 e13 _ _ _ _ p8 (utt.ext ((((((z2.t z3).t z4).t z5).t z6).t z7).t z8)) rfl) ?_
 rintro _ w9 ⟨S9, u13, u14, u15, u16, rfl, z9, p9, u18, rfl⟩
 have p9 := p9.dp 1
 refine So 30 (.tmp 5) (.tmp 20) 0 2 b3 0 ((ag (wT29 y12.1.Op y12.1.Text (Gp u13) y12.1.L.length u15))) (wT29 y12.1.Op y12.1.Text (Gp u13) y12.1.L.length u15) p9 rfl Goes.s fun w10 z10 p10 => ?_
 refine Gn 3 [] (Zr Q142 [0, 1, 2, 3, 4, 5, 6, 7] J1eh) ?_
 refine Goes.ldN 27 (.tmp 4) 22 27 ⟨b1, 0, none⟩ (vT26 y7 (Gp utv) y7.L.length uci) (p10.pa 3 0) ?_
 obtain ⟨S11, z11, p11, f15⟩ := p10.freezeRd 1 rfl (ucj.ext ((((z6.t z7).t z8).t z9).t z10)) (by decide)
 refine Gb h fun y16 e17 h => ?_
 refine Gc (kc 13 [22] #[27]) 23 35 13 _ (W.z2p y7 y16 e17 _ _ _ p11 usu f15 rfl) ?_
 rintro _ w12 ⟨S12, utx, uty, utz, rfl, z12, p12, uu0, rfl⟩
 refine Gn 3 [(21, .tuple #[(ag (wT29 y16.1.Op y16.1.Text utx y16.1.L.length utz)), .i y16.2]), (24, (ag (wT29 y16.1.Op y16.1.Text utx y16.1.L.length utz))), (25, .i y16.2)] (Zr Q142 [5, 6, 7] J1eh) ?_
 refine Oa 30 8 0 (.agg #[.i 0, .string (⟨#[]⟩ : ByteArray), .slice none 0 0]) [.i 0, .string (⟨#[]⟩ : ByteArray), .slice none 0 0] p12 Goes.v fun b18 w13 z13 p13 => ?_
 refine So 30 (.tmp 8) (.tmp 24) 0 0 b18 0 ((ag (wT29 y16.1.Op y16.1.Text utx y16.1.L.length utz))) (wT29 y16.1.Op y16.1.Text utx y16.1.L.length utz) p13 rfl Goes.s fun w14 z14 p14 => ?_
 refine Gn 4 [(9, .i y16.2)] (Zr Q144 [0, 1, 2, 3, 4, 5, 6, 7] J1ek) ?_
 refine Goes.ldN 27 (.tmp 4) 27 27 ⟨b1, 0, none⟩ (vT26 y7 (Gp utv) y7.L.length uci) (p14.pa 4 0) ?_
 refine Gb h fun y20 e21 h => ?_
 refine Gc (kc 14 [27] #[27]) 28 40 14 _ (W.z4g y7 y20 e21 _ _ _ p14 usu (f15.ext ((z12.t z13).t z14)) rfl) ?_
 rintro _ w15 ⟨S15, uu1, uu2, uu3, rfl, z15, p15, uu4, rfl⟩
 have p15 := (p15.dp 2).dp 3
 refine Gn 3 [(26, .tuple #[(ag (wT29 y20.1.Op y20.1.Text uu1 y20.1.L.length uu3)), .i y20.2]), (29, (ag (wT29 y20.1.Op y20.1.Text uu1 y20.1.L.length uu3))), (30, .i y20.2)] (Zr Q144 [5, 6, 7] J1ek) ?_
 refine Oa 39 10 0 (.agg #[.i 0, .string (⟨#[]⟩ : ByteArray), .slice none 0 0]) [.i 0, .string (⟨#[]⟩ : ByteArray), .slice none 0 0] p15 Goes.v fun b22 w16 z16 p16 => ?_
 refine So 39 (.tmp 10) (.tmp 29) 0 0 b22 0 ((ag (wT29 y20.1.Op y20.1.Text uu1 y20.1.L.length uu3))) (wT29 y20.1.Op y20.1.Text uu1 y20.1.L.length uu3) p16 rfl Goes.s fun w17 z17 p17 => ?_
 refine Gn 3 [(11, .i y20.2)] (Ys 11111110 B3 (Ys 11111111 B3 [])) ?_
 have z18 : Ext S15 w17 S15 (w17).drew := Ext.draw
 have p18 := p17.draw
 refine Gd [3, 4, 14, 20, 21, 28, 29, 33] (Fc S15 (w17).drew [(⟨b18, 0, none⟩, .i y16.1.Op), (⟨b18, 1, none⟩, .string y16.1.Text), (⟨b18, 2, none⟩, .slice utx y16.1.L.length utz), (⟨b22, 0, none⟩, .i y20.1.Op), (⟨b22, 1, none⟩, .string y20.1.Text), (⟨b22, 2, none⟩, .slice uu1 y20.1.L.length uu3), (⟨b3, 0, none⟩, .i y12.1.Op), (⟨b3, 1, none⟩, .string y12.1.Text), (⟨b3, 2, none⟩, .slice (Gp u13) y12.1.L.length u15)]) 6 36 ?_
 generalize (w17).drew = w18 at z18 p18 ⊢
 refine AnyG.pu 0 (.move (.tmp 0)) 31 9 (.string (ss x0 0 (imn (x0.size : Int) 100))) (Fc.here (p18.cs [(1, 0, 3), (0, 0, 3), (3, 0, 3)])) ?_
 refine AnyG.pu 2 (.move (.tmp 0)) 33 9 (.string (ss x0 0 (imn (x0.size : Int) 100))) (Fc.here (p18.cs [(1, 0, 3), (0, 0, 3), (3, 0, 3)])) ?_
 refine Gb h fun y24 e25 h => ?_
 refine Oc (kc 16 [31] #[9]) 32 43 16 #[.string (ss x0 0 (imn (x0.size : Int) 100))] (Ac 1) (W.z1r (ss x0 0 (imn (x0.size : Int) 100)) y24 e25  p18 ) ?_
 rintro _ w19 ⟨S19, uu5, uu6, uu7, uu8, rfl, z19, p19, uu9, rfl⟩
 refine AnyG.next z19 ⟨(p19.c 2 0), (p19.c 2 1), (p19.c 2 2), (p19.c 1 0), (p19.c 1 1), (p19.c 1 2), (p19.c 4 0), (p19.c 4 1), (p19.c 4 2), trivial⟩ ?_
 refine Gb h fun y27 e28 h => ?_
 refine Oc (kc 17 [33] #[9]) 34 43 17 #[.string (ss x0 0 (imn (x0.size : Int) 100))] (Ac 3) (W.z3r (ss x0 0 (imn (x0.size : Int) 100)) y27 e28  p19 ) ?_
 rintro _ w20 ⟨S20, uua, uub, uuc, uud, rfl, z20, p20, uue, rfl⟩
 refine AnyG.last [4, 14, 20, 21, 28, 29, 33] (Fc S20 w20 [(⟨b18, 0, none⟩, .i y16.1.Op), (⟨b18, 1, none⟩, .string y16.1.Text), (⟨b18, 2, none⟩, .slice utx y16.1.L.length utz), (⟨b22, 0, none⟩, .i y20.1.Op), (⟨b22, 1, none⟩, .string y20.1.Text), (⟨b22, 2, none⟩, .slice uu1 y20.1.L.length uu3), (⟨b3, 0, none⟩, .i y12.1.Op), (⟨b3, 1, none⟩, .string y12.1.Text), (⟨b3, 2, none⟩, .slice (Gp u13) y12.1.L.length u15)]) (by decide) ?_
 obtain ⟨S21, z21, p21, f30⟩ := p20.freezeRd 1 rfl (uu9.ext z20) (by decide)
 refine AnyG.refz z21 ?_
 obtain ⟨S22, z22, p22, f31⟩ := p21.freezeRd 0 rfl (uue.ext z21) (by decide)
 refine AnyG.refz z22 ?_
 refine Gb h fun y32 e33 h => ?_
 refine Oc (kc 15 [32, 34] #[43, 43]) 35 4 15 #[.slice (Gp uu5) y24.length uu7, .slice (Gp uua) y27.length uuc] (Ac 4) (W.z4h y24 y27 y32 e33 _ _ _ _ _ _ p22 (f30.ext z22) rfl f31 rfl) ?_
 rintro _ w23 ⟨S23, rfl, z23, p23⟩
 refine AnyG.last [14, 20, 21, 28, 29, 33] (Fc S23 w23 [(⟨b18, 0, none⟩, .i y16.1.Op), (⟨b18, 1, none⟩, .string y16.1.Text), (⟨b18, 2, none⟩, .slice utx y16.1.L.length utz), (⟨b22, 0, none⟩, .i y20.1.Op), (⟨b22, 1, none⟩, .string y20.1.Text), (⟨b22, 2, none⟩, .slice uu1 y20.1.L.length uu3), (⟨b3, 0, none⟩, .i y12.1.Op), (⟨b3, 1, none⟩, .string y12.1.Text), (⟨b3, 2, none⟩, .slice (Gp u13) y12.1.L.length u15)]) (by decide) ?_
 refine AnyG.pu 5 (.move (.tmp 35)) 36 4 (.bool y32) (Fc.here (p23.cs [(3, 0, 3), (2, 0, 3), (5, 0, 3)])) ?_
 refine Gi h (fun h34 h => ?_) fun h34 h => ?_
 ·
  rw [h34]
  refine AnyG.pu 6 (.move (.tmp 9)) 37 34 (.i y16.2) (Fc.here (p23.cs [(3, 0, 3), (2, 0, 3), (5, 0, 3)])) ?_
  refine AnyG.pu 7 (.move (.tmp 11)) 38 34 (.i y20.2) (Fc.here (p23.cs [(3, 0, 3), (2, 0, 3), (5, 0, 3)])) ?_
  refine AnyG.pu 8 (.binOp .eql 34 (.tmp 37) (.tmp 38) 34) 39 4 (.bool (decide (y16.2 = y20.2))) (Fc.here (p23.cs [(3, 0, 3), (2, 0, 3), (5, 0, 3)])) ?_
  refine AnyG.pu 9 (.pick (.tmp 36) (.tmp 39) (.const (.bool false))) 40 4 (.bool (decide (y16.2 = y20.2))) (Fc.here (p23.cs [(3, 0, 3), (2, 0, 3), (5, 0, 3)])) ?_
  refine AnyG.pu 10 (.move (.tmp 40)) 41 4 (.bool (decide (y16.2 = y20.2))) (Fc.here (p23.cs [(3, 0, 3), (2, 0, 3), (5, 0, 3)])) ?_
  refine Gi h (fun h35 h => ?_) fun h35 h => ?_
  ·
   rw [dt h35]
   refine AnyG.ldN (i := 11) 30 (.tmp 8) 42 30 ⟨b18, 0, none⟩ (wT29 y16.1.Op y16.1.Text utx y16.1.L.length utz) (by kernel_rfl) (by kernel_rfl) (Fc.here (p23.cs [(3, 0, 3), (2, 0, 3), (5, 0, 3)])) (by kernel_rfl) (by kernel_rfl) (by kernel_rfl) (fun _ h j v hj => by match j, hj with | 0, rfl => exact h.2.at_ 0 rfl | 1, rfl => exact h.2.at_ 1 rfl | 2, rfl => exact h.2.at_ 2 rfl | (j + 3), hj => simp at hj) ?_
   refine AnyG.ldN (i := 13) 39 (.tmp 10) 44 39 ⟨b22, 0, none⟩ (wT29 y20.1.Op y20.1.Text uu1 y20.1.L.length uu3) (by kernel_rfl) (by kernel_rfl) (Fc.here (p23.cs [(3, 0, 3), (2, 0, 3), (5, 0, 3)])) (by kernel_rfl) (by kernel_rfl) (by kernel_rfl) (fun _ h j v hj => by match j, hj with | 0, rfl => exact h.2.at_ 3 rfl | 1, rfl => exact h.2.at_ 4 rfl | 2, rfl => exact h.2.at_ 5 rfl | (j + 3), hj => simp at hj) ?_
   refine Gb h fun y36 e37 h => ?_
   refine Oc (.call { callee := .value (.func 19), args := #[(.tmp 42), (.const (.int .i64 200))], argTypes := #[30, 3] }) 43 39 19 #[(ag (wT29 y16.1.Op y16.1.Text utx y16.1.L.length utz)), .i 200] (Ac 12) (W.z4j (y16.1, 200) y36 e37 _ _ _ p23 (uu0.ext ((((((((((z13.t z14).t z15).t z16).t z17).t z18).t z19).t z20).t z21).t z22).t z23)) rfl) ?_
   rintro _ w24 ⟨S24, uuf, uil, uim, uug, rfl, z24, p24, uin, rfl⟩
   refine AnyG.next z24 ⟨(p24.c 4 0), (p24.c 4 1), (p24.c 4 2), (p24.c 3 0), (p24.c 3 1), (p24.c 3 2), (p24.c 6 0), (p24.c 6 1), (p24.c 6 2), trivial⟩ ?_
   obtain ⟨S25, z25, p25, f39⟩ := p24.freezeRd 0 rfl uin (by decide)
   refine AnyG.refz z25 ?_
   refine Gb h fun y40 e41 h => ?_
   refine Oc (kc 18 [43, 44] #[39, 39]) 45 4 18 #[(ag (wT29 y36.Op y36.Text (Gp uuf) y36.L.length uim)), (ag (wT29 y20.1.Op y20.1.Text uu1 y20.1.L.length uu3))] (Ac 14) (W.z3t (y36, y20.1) y40 e41 _ _ _ _ _ _ p25 f39 rfl (uu4.ext (((((((((z16.t z17).t z18).t z19).t z20).t z21).t z22).t z23).t z24).t z25)) rfl) ?_
   rintro _ w26 ⟨S26, rfl, z26, p26⟩
   refine AnyG.last [20, 21, 28, 29, 33] (Fc S26 w26 [(⟨b3, 0, none⟩, .i y12.1.Op), (⟨b3, 1, none⟩, .string y12.1.Text), (⟨b3, 2, none⟩, .slice (Gp u13) y12.1.L.length u15)]) (by decide) ?_
   refine AnyG.pu 15 (.pick (.tmp 41) (.tmp 45) (.const (.bool false))) 46 4 (.bool y40) (Fc.here (p26.cs [(6, 0, 3)])) ?_
   refine AnyG.pu 16 (.move (.tmp 46)) 47 4 (.bool y40) (Fc.here (p26.cs [(6, 0, 3)])) ?_
   refine Gi h (fun h42 h => ?_) fun h42 h => ?_
   ·
    rw [h42]
    refine AnyG.ldN (i := 17) 30 (.tmp 5) 48 30 ⟨b3, 0, none⟩ (wT29 y12.1.Op y12.1.Text (Gp u13) y12.1.L.length u15) (by kernel_rfl) (by kernel_rfl) (Fc.here (p26.cs [(6, 0, 3)])) (by kernel_rfl) (by kernel_rfl) (by kernel_rfl) (fun _ h j v hj => by match j, hj with | 0, rfl => exact h.2.at_ 0 rfl | 1, rfl => exact h.2.at_ 1 rfl | 2, rfl => exact h.2.at_ 2 rfl | (j + 3), hj => simp at hj) ?_
    refine AnyG.ldN (i := 19) 30 (.tmp 5) 50 30 ⟨b3, 0, none⟩ (wT29 y12.1.Op y12.1.Text (Gp u13) y12.1.L.length u15) (by kernel_rfl) (by kernel_rfl) (Fc.here (p26.cs [(6, 0, 3)])) (by kernel_rfl) (by kernel_rfl) (by kernel_rfl) (fun _ h j v hj => by match j, hj with | 0, rfl => exact h.2.at_ 0 rfl | 1, rfl => exact h.2.at_ 1 rfl | 2, rfl => exact h.2.at_ 2 rfl | (j + 3), hj => simp at hj) ?_
    obtain ⟨S27, z27, p27, f43⟩ := p26.freezeRd 5 rfl (u18.ext ((((((((((((((((z10.t z11).t z12).t z13).t z14).t z15).t z16).t z17).t z18).t z19).t z20).t z21).t z22).t z23).t z24).t z25).t z26)) (by decide)
    refine AnyG.refz z27 ?_
    refine Gb h fun y44 e45 h => ?_
    refine Oc (kc 20 [48] #[30]) 49 34 20 #[(ag (wT29 y12.1.Op y12.1.Text (Gp u13) y12.1.L.length u15))] (Ac 18) (W.z4z y12.1 y44 e45 _ _ _ p27 f43 rfl) ?_
    rintro _ w28 ⟨S28, rfl, z28, p28⟩
    refine AnyG.next z28 ⟨(p28.c 6 0), (p28.c 6 1), (p28.c 6 2), trivial⟩ ?_
    refine Gb h fun y46 e47 h => ?_
    refine Oc (.call { callee := .value (.func 19), args := #[(.tmp 50), (.const (.int .i64 20))], argTypes := #[30, 3] }) 51 39 19 #[(ag (wT29 y12.1.Op y12.1.Text (Gp u13) y12.1.L.length u15)), .i 20] (Ac 20) (W.z4j (y12.1, 20) y46 e47 _ _ _ p28 (f43.ext z28) rfl) ?_
    rintro _ w29 ⟨S29, uuh, uui, uuj, uuk, rfl, z29, p29, uul, rfl⟩
    refine AnyG.last [21, 28, 29, 33] (Fc S29 w29 [(⟨b3, 0, none⟩, .i y12.1.Op), (⟨b3, 1, none⟩, .string y12.1.Text), (⟨b3, 2, none⟩, .slice (Gp u13) y12.1.L.length u15)]) (by decide) ?_
    obtain ⟨S30, z30, p30, f49⟩ := p29.freezeRd 0 rfl uul (by decide)
    refine AnyG.refz z30 ?_
    refine Gb h fun y50 e51 h => ?_
    refine Oc (kc 21 [51] #[39]) 52 34 21 #[(ag (wT29 y46.Op y46.Text (Gp uuh) y46.L.length uuj))] (Ac 21) (W.z5c y46 y50 e51 _ _ _ p30 f49 rfl) ?_
    rintro _ w31 ⟨S31, rfl, z31, p31⟩
    refine AnyG.last [28, 29, 33] (Fc S31 w31 [(⟨b3, 0, none⟩, .i y12.1.Op), (⟨b3, 1, none⟩, .string y12.1.Text), (⟨b3, 2, none⟩, .slice (Gp u13) y12.1.L.length u15)]) (by decide) ?_
    refine AnyG.pu 22 (.binOp .eql 34 (.tmp 49) (.tmp 52) 34) 53 4 (.bool (decide (y44 = y50))) (Fc.here (p31.cs [(7, 0, 3)])) ?_
    refine AnyG.pu 23 (.pick (.tmp 47) (.tmp 53) (.const (.bool false))) 54 4 (.bool (decide (y44 = y50))) (Fc.here (p31.cs [(7, 0, 3)])) ?_
    refine AnyG.pu 24 (.move (.tmp 54)) 55 4 (.bool (decide (y44 = y50))) (Fc.here (p31.cs [(7, 0, 3)])) ?_
    refine Gi h (fun h52 h => ?_) fun h52 h => ?_
    ·
     rw [dt h52]
     refine AnyG.ldN (i := 25) 30 (.tmp 5) 56 30 ⟨b3, 0, none⟩ (wT29 y12.1.Op y12.1.Text (Gp u13) y12.1.L.length u15) (by kernel_rfl) (by kernel_rfl) (Fc.here (p31.cs [(7, 0, 3)])) (by kernel_rfl) (by kernel_rfl) (by kernel_rfl) (fun _ h j v hj => by match j, hj with | 0, rfl => exact h.2.at_ 0 rfl | 1, rfl => exact h.2.at_ 1 rfl | 2, rfl => exact h.2.at_ 2 rfl | (j + 3), hj => simp at hj) ?_
     refine AnyG.ldN (i := 27) 30 (.tmp 5) 58 30 ⟨b3, 0, none⟩ (wT29 y12.1.Op y12.1.Text (Gp u13) y12.1.L.length u15) (by kernel_rfl) (by kernel_rfl) (Fc.here (p31.cs [(7, 0, 3)])) (by kernel_rfl) (by kernel_rfl) (by kernel_rfl) (fun _ h j v hj => by match j, hj with | 0, rfl => exact h.2.at_ 0 rfl | 1, rfl => exact h.2.at_ 1 rfl | 2, rfl => exact h.2.at_ 2 rfl | (j + 3), hj => simp at hj) ?_
     refine Gb h fun y53 e54 h => ?_
     refine Oc (kc 22 [56] #[30]) 57 9 22 #[(ag (wT29 y12.1.Op y12.1.Text (Gp u13) y12.1.L.length u15))] (Ac 26) (W.z5d y12.1 y53 e54 _ _ _ p31 (f43.ext (((z28.t z29).t z30).t z31)) rfl) ?_
     rintro _ w32 ⟨S32, rfl, z32, p32⟩
     refine AnyG.next z32 ⟨(p32.c 7 0), (p32.c 7 1), (p32.c 7 2), trivial⟩ ?_
     refine Gb h fun y55 e56 h => ?_
     refine Oc (.call { callee := .value (.func 19), args := #[(.tmp 58), (.const (.int .i64 20))], argTypes := #[30, 3] }) 59 39 19 #[(ag (wT29 y12.1.Op y12.1.Text (Gp u13) y12.1.L.length u15)), .i 20] (Ac 28) (W.z4j (y12.1, 20) y55 e56 _ _ _ p32 (f43.ext ((((z28.t z29).t z30).t z31).t z32)) rfl) ?_
     rintro _ w33 ⟨S33, uum, uun, uuo, uup, rfl, z33, p33, uuq, rfl⟩
     refine AnyG.last [29, 33] (Fc S33 w33 []) (by decide) ?_
     obtain ⟨S34, z34, p34, f58⟩ := p33.freezeRd 0 rfl uuq (by decide)
     refine AnyG.refz z34 ?_
     refine Gb h fun y59 e60 h => ?_
     refine Oc (kc 23 [59] #[39]) 60 9 23 #[(ag (wT29 y55.Op y55.Text (Gp uum) y55.L.length uuo))] (Ac 29) (W.z5l y55 y59 e60 _ _ _ p34 f58 rfl) ?_
     rintro _ w35 ⟨S35, rfl, z35, p35⟩
     refine AnyG.last [33] (Fc S35 w35 []) (by decide) ?_
     refine AnyG.pu 30 (.binOp .eql 9 (.tmp 57) (.tmp 60) 9) 61 4 (.bool (y53.toList == y59.toList)) (Fc.here trivial) ?_
     refine AnyG.pu 31 (.pick (.tmp 55) (.tmp 61) (.const (.bool false))) 62 4 (.bool (y53.toList == y59.toList)) (Fc.here trivial) ?_
     refine AnyG.pu 32 (.move (.tmp 62)) 63 4 (.bool (y53.toList == y59.toList)) (Fc.here trivial) ?_
     refine Gi h (fun h61 h => ?_) fun h61 h => ?_
     ·
      rw [h61]
      refine Gb h fun y62 e63 h => ?_
      refine Oc (kc 24 [] #[]) 64 4 24 #[] (Ac 33) (W.z79 y62 e63  p35 ) ?_
      rintro _ w36 ⟨S36, rfl, z36, p36⟩
      refine AnyG.last [] (Fc S36 w36 []) (by decide) ?_
      refine AnyG.pu 34 (.pick (.tmp 63) (.tmp 64) (.const (.bool false))) 65 4 (.bool y62) (Fc.here trivial) ?_
      refine AnyG.pu 35 (.assign (.tmp 65)) 6 4 (.bool y62) (Fc.here trivial) ?_
      refine Ad ?_
      have p36 := ((((((((p36.dp 0).dp 0).dp 0).dp 0).dp 0).dp 0).dp 0).dp 0).dp 0
      obtain rfl := sj h
      exact Goes.rt Tryz.f3 (.bool y62) ⟨_, rfl, ((((((((((((((((((((((((((((((((((z2.t z3).t z4).t z5).t z6).t z7).t z8).t z9).t z10).t z11).t z12).t z13).t z14).t z15).t z16).t z17).t z18).t z19).t z20).t z21).t z22).t z23).t z24).t z25).t z26).t z27).t z28).t z29).t z30).t z31).t z32).t z33).t z34).t z35).t z36), p36⟩
     ·
      rw [bf h61]
      refine Ak 33 64 ?_
      refine AnyG.pu 34 (.pick (.tmp 63) (.tmp 64) (.const (.bool false))) 65 4 (.bool false) (Fc.here trivial) ?_
      refine AnyG.pu 35 (.assign (.tmp 65)) 6 4 (.bool false) (Fc.here trivial) ?_
      refine Ad ?_
      have p35 := ((((((((p35.dp 0).dp 0).dp 0).dp 0).dp 0).dp 0).dp 0).dp 0).dp 0
      obtain rfl := sj h
      exact Goes.rt Tryz.f3 (.bool false) ⟨_, rfl, (((((((((((((((((((((((((((((((((z2.t z3).t z4).t z5).t z6).t z7).t z8).t z9).t z10).t z11).t z12).t z13).t z14).t z15).t z16).t z17).t z18).t z19).t z20).t z21).t z22).t z23).t z24).t z25).t z26).t z27).t z28).t z29).t z30).t z31).t z32).t z33).t z34).t z35), p35⟩
    ·
     rw [df h52]
     refine AnyG.s1 25 56 (Fc.here (p31.cs [(7, 0, 3)])) ?_
     refine AnyG.s1 26 57 (Fc.here (p31.cs [(7, 0, 3)])) ?_
     refine AnyG.s1 27 58 (Fc.here (p31.cs [(7, 0, 3)])) ?_
     refine Ak 28 59 ?_
     refine Ak 29 60 ?_
     refine AnyG.s1 30 61 (Fc.here (p31.cs [(7, 0, 3)])) ?_
     refine AnyG.pu 31 (.pick (.tmp 55) (.tmp 61) (.const (.bool false))) 62 4 (.bool false) (Fc.here (p31.cs [(7, 0, 3)])) ?_
     refine AnyG.pu 32 (.move (.tmp 62)) 63 4 (.bool false) (Fc.here (p31.cs [(7, 0, 3)])) ?_
     refine Ak 33 64 ?_
     refine AnyG.pu 34 (.pick (.tmp 63) (.tmp 64) (.const (.bool false))) 65 4 (.bool false) (Fc.here (p31.cs [(7, 0, 3)])) ?_
     refine AnyG.pu 35 (.assign (.tmp 65)) 6 4 (.bool false) (Fc.here (p31.cs [(7, 0, 3)])) ?_
     refine Ad ?_
     have p31 := (((((((p31.dp 0).dp 0).dp 0).dp 0).dp 0).dp 0).dp 0).dp 0
     obtain rfl := sj h
     exact Goes.rt Tryz.f3 (.bool false) ⟨_, rfl, (((((((((((((((((((((((((((((z2.t z3).t z4).t z5).t z6).t z7).t z8).t z9).t z10).t z11).t z12).t z13).t z14).t z15).t z16).t z17).t z18).t z19).t z20).t z21).t z22).t z23).t z24).t z25).t z26).t z27).t z28).t z29).t z30).t z31), p31⟩
   ·
    rw [bf h42]
    refine AnyG.s1 17 48 (Fc.here (p26.cs [(6, 0, 3)])) ?_
    refine AnyG.s1 18 49 (Fc.here (p26.cs [(6, 0, 3)])) ?_
    refine AnyG.s1 19 50 (Fc.here (p26.cs [(6, 0, 3)])) ?_
    refine Ak 20 51 ?_
    refine Ak 21 52 ?_
    refine AnyG.s1 22 53 (Fc.here (p26.cs [(6, 0, 3)])) ?_
    refine AnyG.pu 23 (.pick (.tmp 47) (.tmp 53) (.const (.bool false))) 54 4 (.bool false) (Fc.here (p26.cs [(6, 0, 3)])) ?_
    refine AnyG.pu 24 (.move (.tmp 54)) 55 4 (.bool false) (Fc.here (p26.cs [(6, 0, 3)])) ?_
    refine AnyG.s1 25 56 (Fc.here (p26.cs [(6, 0, 3)])) ?_
    refine AnyG.s1 26 57 (Fc.here (p26.cs [(6, 0, 3)])) ?_
    refine AnyG.s1 27 58 (Fc.here (p26.cs [(6, 0, 3)])) ?_
    refine Ak 28 59 ?_
    refine Ak 29 60 ?_
    refine AnyG.s1 30 61 (Fc.here (p26.cs [(6, 0, 3)])) ?_
    refine AnyG.pu 31 (.pick (.tmp 55) (.tmp 61) (.const (.bool false))) 62 4 (.bool false) (Fc.here (p26.cs [(6, 0, 3)])) ?_
    refine AnyG.pu 32 (.move (.tmp 62)) 63 4 (.bool false) (Fc.here (p26.cs [(6, 0, 3)])) ?_
    refine Ak 33 64 ?_
    refine AnyG.pu 34 (.pick (.tmp 63) (.tmp 64) (.const (.bool false))) 65 4 (.bool false) (Fc.here (p26.cs [(6, 0, 3)])) ?_
    refine AnyG.pu 35 (.assign (.tmp 65)) 6 4 (.bool false) (Fc.here (p26.cs [(6, 0, 3)])) ?_
    refine Ad ?_
    have p26 := ((((((p26.dp 0).dp 0).dp 0).dp 0).dp 0).dp 0).dp 0
    obtain rfl := sj h
    exact Goes.rt Tryz.f3 (.bool false) ⟨_, rfl, ((((((((((((((((((((((((z2.t z3).t z4).t z5).t z6).t z7).t z8).t z9).t z10).t z11).t z12).t z13).t z14).t z15).t z16).t z17).t z18).t z19).t z20).t z21).t z22).t z23).t z24).t z25).t z26), p26⟩
  ·
   rw [df h35]
   refine AnyG.s1 11 42 (Fc.here (p23.cs [(3, 0, 3), (2, 0, 3), (5, 0, 3)])) ?_
   refine AnyG.s1 12 43 (Fc.here (p23.cs [(3, 0, 3), (2, 0, 3), (5, 0, 3)])) ?_
   refine AnyG.s1 13 44 (Fc.here (p23.cs [(3, 0, 3), (2, 0, 3), (5, 0, 3)])) ?_
   refine Ak 14 45 ?_
   refine AnyG.pu 15 (.pick (.tmp 41) (.tmp 45) (.const (.bool false))) 46 4 (.bool false) (Fc.here (p23.cs [(3, 0, 3), (2, 0, 3), (5, 0, 3)])) ?_
   refine AnyG.pu 16 (.move (.tmp 46)) 47 4 (.bool false) (Fc.here (p23.cs [(3, 0, 3), (2, 0, 3), (5, 0, 3)])) ?_
   refine AnyG.s1 17 48 (Fc.here (p23.cs [(3, 0, 3), (2, 0, 3), (5, 0, 3)])) ?_
   refine AnyG.s1 18 49 (Fc.here (p23.cs [(3, 0, 3), (2, 0, 3), (5, 0, 3)])) ?_
   refine AnyG.s1 19 50 (Fc.here (p23.cs [(3, 0, 3), (2, 0, 3), (5, 0, 3)])) ?_
   refine Ak 20 51 ?_
   refine Ak 21 52 ?_
   refine AnyG.s1 22 53 (Fc.here (p23.cs [(3, 0, 3), (2, 0, 3), (5, 0, 3)])) ?_
   refine AnyG.pu 23 (.pick (.tmp 47) (.tmp 53) (.const (.bool false))) 54 4 (.bool false) (Fc.here (p23.cs [(3, 0, 3), (2, 0, 3), (5, 0, 3)])) ?_
   refine AnyG.pu 24 (.move (.tmp 54)) 55 4 (.bool false) (Fc.here (p23.cs [(3, 0, 3), (2, 0, 3), (5, 0, 3)])) ?_
   refine AnyG.s1 25 56 (Fc.here (p23.cs [(3, 0, 3), (2, 0, 3), (5, 0, 3)])) ?_
   refine AnyG.s1 26 57 (Fc.here (p23.cs [(3, 0, 3), (2, 0, 3), (5, 0, 3)])) ?_
   refine AnyG.s1 27 58 (Fc.here (p23.cs [(3, 0, 3), (2, 0, 3), (5, 0, 3)])) ?_
   refine Ak 28 59 ?_
   refine Ak 29 60 ?_
   refine AnyG.s1 30 61 (Fc.here (p23.cs [(3, 0, 3), (2, 0, 3), (5, 0, 3)])) ?_
   refine AnyG.pu 31 (.pick (.tmp 55) (.tmp 61) (.const (.bool false))) 62 4 (.bool false) (Fc.here (p23.cs [(3, 0, 3), (2, 0, 3), (5, 0, 3)])) ?_
   refine AnyG.pu 32 (.move (.tmp 62)) 63 4 (.bool false) (Fc.here (p23.cs [(3, 0, 3), (2, 0, 3), (5, 0, 3)])) ?_
   refine Ak 33 64 ?_
   refine AnyG.pu 34 (.pick (.tmp 63) (.tmp 64) (.const (.bool false))) 65 4 (.bool false) (Fc.here (p23.cs [(3, 0, 3), (2, 0, 3), (5, 0, 3)])) ?_
   refine AnyG.pu 35 (.assign (.tmp 65)) 6 4 (.bool false) (Fc.here (p23.cs [(3, 0, 3), (2, 0, 3), (5, 0, 3)])) ?_
   refine Ad ?_
   have p23 := (((((p23.dp 0).dp 0).dp 0).dp 0).dp 0).dp 0
   obtain rfl := sj h
   exact Goes.rt Tryz.f3 (.bool false) ⟨_, rfl, (((((((((((((((((((((z2.t z3).t z4).t z5).t z6).t z7).t z8).t z9).t z10).t z11).t z12).t z13).t z14).t z15).t z16).t z17).t z18).t z19).t z20).t z21).t z22).t z23), p23⟩
 ·
  rw [bf h34]
  refine AnyG.s1 6 37 (Fc.here (p23.cs [(3, 0, 3), (2, 0, 3), (5, 0, 3)])) ?_
  refine AnyG.s1 7 38 (Fc.here (p23.cs [(3, 0, 3), (2, 0, 3), (5, 0, 3)])) ?_
  refine AnyG.s1 8 39 (Fc.here (p23.cs [(3, 0, 3), (2, 0, 3), (5, 0, 3)])) ?_
  refine AnyG.pu 9 (.pick (.tmp 36) (.tmp 39) (.const (.bool false))) 40 4 (.bool false) (Fc.here (p23.cs [(3, 0, 3), (2, 0, 3), (5, 0, 3)])) ?_
  refine AnyG.pu 10 (.move (.tmp 40)) 41 4 (.bool false) (Fc.here (p23.cs [(3, 0, 3), (2, 0, 3), (5, 0, 3)])) ?_
  refine AnyG.s1 11 42 (Fc.here (p23.cs [(3, 0, 3), (2, 0, 3), (5, 0, 3)])) ?_
  refine AnyG.s1 12 43 (Fc.here (p23.cs [(3, 0, 3), (2, 0, 3), (5, 0, 3)])) ?_
  refine AnyG.s1 13 44 (Fc.here (p23.cs [(3, 0, 3), (2, 0, 3), (5, 0, 3)])) ?_
  refine Ak 14 45 ?_
  refine AnyG.pu 15 (.pick (.tmp 41) (.tmp 45) (.const (.bool false))) 46 4 (.bool false) (Fc.here (p23.cs [(3, 0, 3), (2, 0, 3), (5, 0, 3)])) ?_
  refine AnyG.pu 16 (.move (.tmp 46)) 47 4 (.bool false) (Fc.here (p23.cs [(3, 0, 3), (2, 0, 3), (5, 0, 3)])) ?_
  refine AnyG.s1 17 48 (Fc.here (p23.cs [(3, 0, 3), (2, 0, 3), (5, 0, 3)])) ?_
  refine AnyG.s1 18 49 (Fc.here (p23.cs [(3, 0, 3), (2, 0, 3), (5, 0, 3)])) ?_
  refine AnyG.s1 19 50 (Fc.here (p23.cs [(3, 0, 3), (2, 0, 3), (5, 0, 3)])) ?_
  refine Ak 20 51 ?_
  refine Ak 21 52 ?_
  refine AnyG.s1 22 53 (Fc.here (p23.cs [(3, 0, 3), (2, 0, 3), (5, 0, 3)])) ?_
  refine AnyG.pu 23 (.pick (.tmp 47) (.tmp 53) (.const (.bool false))) 54 4 (.bool false) (Fc.here (p23.cs [(3, 0, 3), (2, 0, 3), (5, 0, 3)])) ?_
  refine AnyG.pu 24 (.move (.tmp 54)) 55 4 (.bool false) (Fc.here (p23.cs [(3, 0, 3), (2, 0, 3), (5, 0, 3)])) ?_
  refine AnyG.s1 25 56 (Fc.here (p23.cs [(3, 0, 3), (2, 0, 3), (5, 0, 3)])) ?_
  refine AnyG.s1 26 57 (Fc.here (p23.cs [(3, 0, 3), (2, 0, 3), (5, 0, 3)])) ?_
  refine AnyG.s1 27 58 (Fc.here (p23.cs [(3, 0, 3), (2, 0, 3), (5, 0, 3)])) ?_
  refine Ak 28 59 ?_
  refine Ak 29 60 ?_
  refine AnyG.s1 30 61 (Fc.here (p23.cs [(3, 0, 3), (2, 0, 3), (5, 0, 3)])) ?_
  refine AnyG.pu 31 (.pick (.tmp 55) (.tmp 61) (.const (.bool false))) 62 4 (.bool false) (Fc.here (p23.cs [(3, 0, 3), (2, 0, 3), (5, 0, 3)])) ?_
  refine AnyG.pu 32 (.move (.tmp 62)) 63 4 (.bool false) (Fc.here (p23.cs [(3, 0, 3), (2, 0, 3), (5, 0, 3)])) ?_
  refine Ak 33 64 ?_
  refine AnyG.pu 34 (.pick (.tmp 63) (.tmp 64) (.const (.bool false))) 65 4 (.bool false) (Fc.here (p23.cs [(3, 0, 3), (2, 0, 3), (5, 0, 3)])) ?_
  refine AnyG.pu 35 (.assign (.tmp 65)) 6 4 (.bool false) (Fc.here (p23.cs [(3, 0, 3), (2, 0, 3), (5, 0, 3)])) ?_
  refine Ad ?_
  have p23 := (((((p23.dp 0).dp 0).dp 0).dp 0).dp 0).dp 0
  obtain rfl := sj h
  exact Goes.rt Tryz.f3 (.bool false) ⟨_, rfl, (((((((((((((((((((((z2.t z3).t z4).t z5).t z6).t z7).t z8).t z9).t z10).t z11).t z12).t z13).t z14).t z15).t z16).t z17).t z18).t z19).t z20).t z21).t z22).t z23), p23⟩

end

end Go.Gx
