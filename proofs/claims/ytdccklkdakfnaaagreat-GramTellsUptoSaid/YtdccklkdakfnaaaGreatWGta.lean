import Derived.Test.YtdccklkdakfnaaaGreatMGt

import Derived.Test.YtdccklkdakfnaaaGreatGJ

import Derived.Test.YtdccklkdakfnaaaGreatGG

import Derived.Test.YtdccklkdakfnaaaGreatGK

import Derived.Test.YtdccklkdakfnaaaGreatGL

import Derived.Test.YtdccklkdakfnaaaGreatGV

import Derived.Test.YtdccklkdakfnaaaGreatHI

import Derived.Test.YtdccklkdakfnaaaGreatProg

set_option linter.unusedVariables false

set_option linter.unusedSimpArgs false

set_option maxRecDepth 100000

set_option maxHeartbeats 4000000

namespace Go.Gx

open Go.RowKit Go.Proofs

variable (nz : Nat) (wz : World) (S0 : Fz) (w0 : World) (Lr : List Ent)

noncomputable section

abbrev vT26 (x : T26) (a : Option Addr) (b : Nat) (c : Nat) : List Value := .i x.Kind :: U4 x.Set [.slice a b c, .i x.Min, .i x.Max]
abbrev wT29 (k0 : Int) (k1 : ByteArray) (a : Option Addr) (b : Nat) (c : Nat) : List Value := [.i k0, .string k1, .slice a b c]
abbrev vT218 (x : T218) (a : Option Addr) (b : Nat) (c : Nat) : List Value := [.slice a b c, .bool x.known]
abbrev vT134 (x : T134) (a : Value) : List Value := [.string x.s, .i x.at_, .i x.deep, a]
abbrev vT370 (x : T370) : List Value := U4 x.set_ [.int .u8 x.b, .bool x.single]

def kT26_f (K : Kd T26) : Kd T26 := kMap (fun s => (s.Kind, s.Set, s.L, s.Min, s.Max)) (kProd (kInt .i64) (kProd (kArr 4 (kInt .u64)) (kProd (kSl K) (kProd (kInt .i64) (kInt .i64)))))

theorem kT26_c : Kc kT26_f := Kc.map _ (Kc.prod (Kc.const _) (Kc.prod (Kc.const _) (Kc.prod (Kc.sl Kc.id) (Kc.prod (Kc.const _) (Kc.const _)))))

def kT26 : Kd T26 := kFix kT26_f 8 kT26_c (fun _ => rfl)

theorem kT26_open {S w vs x} (h : kT26.rep S w vs x) : (kT26_f kT26).rep S w vs x := kFix_open kT26_c _ h

theorem kT26_close {S w vs x} (h : (kT26_f kT26).rep S w vs x) : kT26.rep S w vs x := kFix_close kT26_c _ h

def kT29_f (K : Kd T29) : Kd T29 := kMap (fun s => (s.Op, s.Text, s.L)) (kProd (kInt .i64) (kProd kStr (kSl K)))

theorem kT29_c : Kc kT29_f := Kc.map _ (Kc.prod (Kc.const _) (Kc.prod (Kc.const _) (Kc.sl Kc.id)))

def kT29 : Kd T29 := kFix kT29_f 3 kT29_c (fun _ => rfl)

theorem kT29_open {S w vs x} (h : kT29.rep S w vs x) : (kT29_f kT29).rep S w vs x := kFix_open kT29_c _ h

theorem kT29_close {S w vs x} (h : (kT29_f kT29).rep S w vs x) : kT29.rep S w vs x := kFix_close kT29_c _ h

def kT218 : Kd T218 := kMap (fun s => (s.l, s.known)) (kProd (kSl kStr) kBool)

def kT38_f (K : Kd T38) : Kd T38 := kMap (fun s => (s.Op, s.Text, s.L)) (kProd (kInt .i64) (kProd kStr (kSl K)))

theorem kT38_c : Kc kT38_f := Kc.map _ (Kc.prod (Kc.const _) (Kc.prod (Kc.const _) (Kc.sl Kc.id)))

def kT38 : Kd T38 := kFix kT38_f 3 kT38_c (fun _ => rfl)

theorem kT38_open {S w vs x} (h : kT38.rep S w vs x) : (kT38_f kT38).rep S w vs x := kFix_open kT38_c _ h

theorem kT38_close {S w vs x} (h : (kT38_f kT38).rep S w vs x) : kT38.rep S w vs x := kFix_close kT38_c _ h

def kT138 : Kd T138 := kMap (fun s => s.at_) (kInt .i64)

def kT134 : Kd T134 := kMap (fun s => (s.s, s.at_, s.deep, s.bad)) (kProd kStr (kProd (kInt .i64) (kProd (kInt .i64) (kPtr kT138))))

def kT370 : Kd T370 := kMap (fun s => (s.set_, s.b, s.single)) (kProd (kArr 4 (kInt .u64)) (kProd (kInt .u8) kBool))

noncomputable def B3 : Code := (Tryz.f3.body).getD .skip

noncomputable def B11 : Code := (Tryz.f11.body).getD .skip

noncomputable def B12 : Code := (Tryz.f12.body).getD .skip

noncomputable def B13 : Code := (Tryz.f13.body).getD .skip

noncomputable def B14 : Code := (Tryz.f14.body).getD .skip

noncomputable def B15 : Code := (Tryz.f15.body).getD .skip

noncomputable def B16 : Code := (Tryz.f16.body).getD .skip

noncomputable def B17 : Code := (Tryz.f17.body).getD .skip

noncomputable def B18 : Code := (Tryz.f18.body).getD .skip

noncomputable def B19 : Code := (Tryz.f19.body).getD .skip

noncomputable def B20 : Code := (Tryz.f20.body).getD .skip

noncomputable def B21 : Code := (Tryz.f21.body).getD .skip

noncomputable def B22 : Code := (Tryz.f22.body).getD .skip

noncomputable def B23 : Code := (Tryz.f23.body).getD .skip

noncomputable def B24 : Code := (Tryz.f24.body).getD .skip

noncomputable def B25 : Code := (Tryz.f25.body).getD .skip

noncomputable def B52 : Code := (Tryz.f52.body).getD .skip

noncomputable def B53 : Code := (Tryz.f53.body).getD .skip

noncomputable def B54 : Code := (Tryz.f54.body).getD .skip

noncomputable def B55 : Code := (Tryz.f55.body).getD .skip

noncomputable def B56 : Code := (Tryz.f56.body).getD .skip

noncomputable def B58 : Code := (Tryz.f58.body).getD .skip

noncomputable def B59 : Code := (Tryz.f59.body).getD .skip

noncomputable def B60 : Code := (Tryz.f60.body).getD .skip

noncomputable def B61 : Code := (Tryz.f61.body).getD .skip

noncomputable def B62 : Code := (Tryz.f62.body).getD .skip

noncomputable def B63 : Code := (Tryz.f63.body).getD .skip

noncomputable def B64 : Code := (Tryz.f64.body).getD .skip

noncomputable def B66 : Code := (Tryz.f66.body).getD .skip

noncomputable def B67 : Code := (Tryz.f67.body).getD .skip

noncomputable def B68 : Code := (Tryz.f68.body).getD .skip

noncomputable def B69 : Code := (Tryz.f69.body).getD .skip

noncomputable def B114 : Code := (Tryz.f114.body).getD .skip

noncomputable def B115 : Code := (Tryz.f115.body).getD .skip

noncomputable def B116 : Code := (Tryz.f116.body).getD .skip

noncomputable def B117 : Code := (Tryz.f117.body).getD .skip

noncomputable def B118 : Code := (Tryz.f118.body).getD .skip

noncomputable def B119 : Code := (Tryz.f119.body).getD .skip

noncomputable def B120 : Code := (Tryz.f120.body).getD .skip

noncomputable def B121 : Code := (Tryz.f121.body).getD .skip

noncomputable def B122 : Code := (Tryz.f122.body).getD .skip

noncomputable def B123 : Code := (Tryz.f123.body).getD .skip

noncomputable def B124 : Code := (Tryz.f124.body).getD .skip

noncomputable def B125 : Code := (Tryz.f125.body).getD .skip

noncomputable def B127 : Code := (Tryz.f127.body).getD .skip

noncomputable def B128 : Code := (Tryz.f128.body).getD .skip

noncomputable def B129 : Code := (Tryz.f129.body).getD .skip

noncomputable def B131 : Code := (Tryz.f131.body).getD .skip

noncomputable def B132 : Code := (Tryz.f132.body).getD .skip

noncomputable def B133 : Code := (Tryz.f133.body).getD .skip

noncomputable def B134 : Code := (Tryz.f134.body).getD .skip

noncomputable def B179 : Code := (Tryz.f179.body).getD .skip

noncomputable def B180 : Code := (Tryz.f180.body).getD .skip

noncomputable def B181 : Code := (Tryz.f181.body).getD .skip

noncomputable def B182 : Code := (Tryz.f182.body).getD .skip

noncomputable def B183 : Code := (Tryz.f183.body).getD .skip

noncomputable def B184 : Code := (Tryz.f184.body).getD .skip

noncomputable def B185 : Code := (Tryz.f185.body).getD .skip

noncomputable def B186 : Code := (Tryz.f186.body).getD .skip

noncomputable def B187 : Code := (Tryz.f187.body).getD .skip

noncomputable def B188 : Code := (Tryz.f188.body).getD .skip

noncomputable def B189 : Code := (Tryz.f189.body).getD .skip

noncomputable def B190 : Code := (Tryz.f190.body).getD .skip

noncomputable def B191 : Code := (Tryz.f191.body).getD .skip

noncomputable def B192 : Code := (Tryz.f192.body).getD .skip

noncomputable def B195 : Code := (Tryz.f195.body).getD .skip

noncomputable def B197 : Code := (Tryz.f197.body).getD .skip

noncomputable def B198 : Code := (Tryz.f198.body).getD .skip

noncomputable def B199 : Code := (Tryz.f199.body).getD .skip

noncomputable def B214 : Code := (Tryz.f214.body).getD .skip

noncomputable def B230 : Code := (Tryz.f230.body).getD .skip

noncomputable def B231 : Code := (Tryz.f231.body).getD .skip

noncomputable def B232 : Code := (Tryz.f232.body).getD .skip

noncomputable def B233 : Code := (Tryz.f233.body).getD .skip

noncomputable def B234 : Code := (Tryz.f234.body).getD .skip

noncomputable def B235 : Code := (Tryz.f235.body).getD .skip

noncomputable def B247 : Code := (Tryz.f247.body).getD .skip

noncomputable def B248 : Code := (Tryz.f248.body).getD .skip

noncomputable def B267 : Code := (Tryz.f267.body).getD .skip

noncomputable def B273 : Code := (Tryz.f273.body).getD .skip

noncomputable def B274 : Code := (Tryz.f274.body).getD .skip

noncomputable def B275 : Code := (Tryz.f275.body).getD .skip

noncomputable def B276 : Code := (Tryz.f276.body).getD .skip

noncomputable def B277 : Code := (Tryz.f277.body).getD .skip

noncomputable def B278 : Code := (Tryz.f278.body).getD .skip

noncomputable def B279 : Code := (Tryz.f279.body).getD .skip

noncomputable def B296 : Code := (Tryz.f296.body).getD .skip

noncomputable def B297 : Code := (Tryz.f297.body).getD .skip

noncomputable def B298 : Code := (Tryz.f298.body).getD .skip

noncomputable def B299 : Code := (Tryz.f299.body).getD .skip

noncomputable def B300 : Code := (Tryz.f300.body).getD .skip

noncomputable def B301 : Code := (Tryz.f301.body).getD .skip

noncomputable def B313 : Code := (Tryz.f313.body).getD .skip

noncomputable def B314 : Code := (Tryz.f314.body).getD .skip

noncomputable def B315 : Code := (Tryz.f315.body).getD .skip

noncomputable def B316 : Code := (Tryz.f316.body).getD .skip

noncomputable def B322 : Code := (Tryz.f322.body).getD .skip

noncomputable def B323 : Code := (Tryz.f323.body).getD .skip

def Q1 := Yq 111110100 B52
def J2 := Zl Q1 (Zb 0 (Ys 111111 B52 []))
def J3 := Zc Q1 J2
def J5 := Ys 11111010001 B52 (Ys 1111101001 B52 J2)
def J8 := Ys 111 B52 []
def Q7 := Yq 110 B52
def Qc := Yq 11111010000 B52
def Jm := Ys 1111111 B52 []

def Post.z0 (gx2 : Nat) (r : T26 × Int) (v : Value) (w' : World) : Prop :=
 ∃ S' u0 u1 u2 u3, v = (ag (vT26 r.1 (Gp u0) u1 u2)) ∧ Ext S0 w0 S' w' ∧ Hp nz wz S' w' ((u0, .row 27 u3 (u2 * kT26.size) 0) :: (some gx2, .row 3 [.i r.2] 1 0) :: Lr) ∧ r.1.Set.length = 4 ∧ Els kT26 S' w' u3 r.1.L ∧ r.1.L.length = u1

def LF.z0 : T26 × Int × Int → (T26 × Int) → Prop := fun ⟨x0, x1, u4⟩ r => ∀ {nz wz S0 w0 Lr} u5 u6 u7 gx2 (_ : Hp nz wz S0 w0 ((some gx2, .row 3 [.i u4] 1 0) :: Lr)) (_ : x0.Set.length = 4) (_ : Rd kT26 S0 w0 u5 u7 x0.L) (_ : x0.L.length = u6),
 Calls Tryz.prog 52 #[(ag (vT26 x0 u5 u6 u7)), .i x1, (pt gx2 0)] w0 (Rets (Post.z0 nz wz S0 w0 Lr gx2 r))

def L.z1 (gx2 : Nat) : Int × T26 × T26 × T26 × Int × Int → (T26 × Int) → Prop := fun ⟨x1, x3v, x6v, x7v, x8, u8⟩ r => ∀ S1 w1, Ext S0 w0 S1 w1 → ∀ gx3 u9 ua ub gx6 uc ud ue uf gx7 ug uh ui uj (_ : Hp nz wz S1 w1 ((some gx3, .row 27 (vT26 x3v u9 ua ub) 8 0) :: (some gx6, .row 27 (vT26 x6v (Gp uc) ud ue) 8 0) :: (uc, .row 27 uf (ue * kT26.size) 0) :: (some gx7, .row 27 (vT26 x7v (Gp ug) uh ui) 8 0) :: (ug, .row 27 uj (ui * kT26.size) 0) :: (some gx2, .row 3 [.i u8] 1 0) :: Lr)) (_ : x3v.Set.length = 4) (_ : Rd kT26 S1 w1 u9 ub x3v.L) (_ : x3v.L.length = ua) (_ : x6v.Set.length = 4) (_ : Els kT26 S1 w1 uf x6v.L) (_ : x6v.L.length = ud) (_ : x7v.Set.length = 4) (_ : Els kT26 S1 w1 uj x7v.L) (_ : x7v.L.length = uh) (junk : Nat → Value),
 Goes Tryz.prog (base 52) J3 ⟨lfr 48 [(1, .i x1), (2, (pt gx2 0)), (3, (pt gx3 0)), (6, (pt gx6 0)), (7, (pt gx7 0)), (8, .i x8)] junk, []⟩ w1 (Done Tryz.prog 52 (Rets (Post.z0 nz wz S0 w0 Lr gx2 r)))

def LL.z1 : Int × T26 × T26 × T26 × Int × Int → (T26 × Int) → Prop := fun a r => ∀ {nz wz S0 w0 Lr} (gx2 : Nat), L.z1 nz wz S0 w0 Lr gx2 a r

def L.z2 (gx2 : Nat) : Int × T26 × T26 × T26 × Int × Bool × Int → (T26 × Int) → Prop := fun ⟨x1, x3v, x6v, x7v, x8, x30, u8⟩ r => ∀ S1 w1, Ext S0 w0 S1 w1 → ∀ gx3 u9 ua ub gx6 uc ud ue uf gx7 ug uh ui uj (_ : Hp nz wz S1 w1 ((some gx3, .row 27 (vT26 x3v u9 ua ub) 8 0) :: (some gx6, .row 27 (vT26 x6v (Gp uc) ud ue) 8 0) :: (uc, .row 27 uf (ue * kT26.size) 0) :: (some gx7, .row 27 (vT26 x7v (Gp ug) uh ui) 8 0) :: (ug, .row 27 uj (ui * kT26.size) 0) :: (some gx2, .row 3 [.i u8] 1 0) :: Lr)) (_ : x3v.Set.length = 4) (_ : Rd kT26 S1 w1 u9 ub x3v.L) (_ : x3v.L.length = ua) (_ : x6v.Set.length = 4) (_ : Els kT26 S1 w1 uf x6v.L) (_ : x6v.L.length = ud) (_ : x7v.Set.length = 4) (_ : Els kT26 S1 w1 uj x7v.L) (_ : x7v.L.length = uh) (junk : Nat → Value),
 Goes Tryz.prog (base 52) J5 ⟨lfr 48 [(1, .i x1), (2, (pt gx2 0)), (3, (pt gx3 0)), (6, (pt gx6 0)), (7, (pt gx7 0)), (8, .i x8), (30, .bool x30)] junk, []⟩ w1 (Done Tryz.prog 52 (Rets (Post.z0 nz wz S0 w0 Lr gx2 r)))

def LL.z2 : Int × T26 × T26 × T26 × Int × Bool × Int → (T26 × Int) → Prop := fun a r => ∀ {nz wz S0 w0 Lr} (gx2 : Nat), L.z2 nz wz S0 w0 Lr gx2 a r

theorem W.z3 : (∀ a r, M.a23 a = some r → LF.z0 a r) ∧ (∀ a r, M.a24 a = some r → LL.z1 a r) ∧ (∀ a r, M.a1h a = some r → LL.z2 a r) := by
 refine M.a23.mutual_partial_correctness LF.z0 LL.z1 LL.z2 ?_ ?_ ?_
 ·
  intro uk ul ⟨x0, x1, u4⟩ r h nz wz S0 w0 Lr u5 u6 u7 gx2 p0 um un uo
  try dsimp only at h
  subst uo
  refine Zf Tryz.f52 B52 45 ?_
  refine Gj 48 [(0, (ag (vT26 x0 u5 x0.L.length u7))), (1, .i x1), (2, (pt gx2 0))] fun junk => ?_
  refine Gn 2 [] (Yt 10 B52 [0, 1] (Ys 11 B52 [])) ?_
  refine Ob 27 (.tmp 0) 3 0 (ag (vT26 x0 u5 x0.L.length u7)) (vT26 x0 u5 x0.L.length u7) p0 Goes.v fun b2 w2 z2 p2 => ?_
  refine Oa 27 6 0 (.agg #[.i 0, .u 0, .u 0, .u 0, .u 0, .slice none 0 0, .i 0, .i 0]) [.i 0, .u 0, .u 0, .u 0, .u 0, .slice none 0 0, .i 0, .i 0] p2 Goes.v fun b4 w3 z3 p3 => ?_
  refine Gm 5 [([9, 10], (pt gx2 0))] (Zr Q7 [2, 3, 4, 5] J8) ?_
  refine Goes.ld 3 (.tmp 10) 11 3 ⟨gx2, 0, none⟩ (.i u4) (p3.c 2 0) ?_
  refine Gn 2 [(12, .i (wr .i64 (u4 - 1))), (13, (pt gx2 0))] (Zr Q7 [5] J8) ?_
  refine So 3 (.tmp 13) (.tmp 12) 0 2 gx2 0 (.i (wr .i64 (u4 - 1))) [.i (wr .i64 (u4 - 1))] p3 rfl Goes.s fun w4 z4 p4 => ?_
  refine Gn 3 [] (Yt 1110 B52 [0, 1, 2] (Ys 1111 B52 [])) ?_
  refine Goes.ldN 27 (.tmp 3) 14 27 ⟨b2, 0, none⟩ (vT26 x0 u5 x0.L.length u7) (p4.pa 1 0) ?_
  refine Oa 27 7 0 (.agg #[.i 0, .u 0, .u 0, .u 0, .u 0, .slice none 0 0, .i 0, .i 0]) [.i 0, .u 0, .u 0, .u 0, .u 0, .slice none 0 0, .i 0, .i 0] p4 Goes.v fun b6 w5 z5 p5 => ?_
  refine So 27 (.tmp 7) (.tmp 14) 0 0 b6 0 (ag (vT26 x0 u5 x0.L.length u7)) (vT26 x0 u5 x0.L.length u7) p5 rfl Goes.s fun w6 z6 p6 => ?_
  refine Gn 4 [(15, (pt b6 5))] (Yt 11110 B52 [1] (Ys 11111 B52 [])) ?_
  refine So 25 (.tmp 15) (.const (.slice none 0 0)) 0 0 b6 5 (.slice none 0 0) [.slice none 0 0] p6 rfl Goes.s fun w7 z7 p7 => ?_
  refine Gn 8 [(8, .i 0)] J3 ?_
  have p7 : Hp nz wz S0 w7 ((none, .row 27 [] (0 * kT26.size) 0) :: (some b6, .row 27 (vT26 x0 none 0 0) 8 0) :: (some b4, .row 27 [.i 0, .u 0, .u 0, .u 0, .u 0, .slice none 0 0, .i 0, .i 0] 8 0) :: (some b2, .row 27 (vT26 x0 u5 x0.L.length u7) 8 0) :: (some gx2, .row 3 [.i (wr .i64 (u4 - 1))] 1 0) :: Lr) := p7.nilRow' 27
  have p7 : Hp nz wz S0 w7 ((none, .row 27 [] (0 * kT26.size) 0) :: (none, .row 27 [] (0 * kT26.size) 0) :: (some b6, .row 27 (vT26 x0 none 0 0) 8 0) :: (some b4, .row 27 [.i 0, .u 0, .u 0, .u 0, .u 0, .slice (Gp none) 0 0, .i 0, .i 0] 8 0) :: (some b2, .row 27 (vT26 x0 u5 x0.L.length u7) 8 0) :: (some gx2, .row 3 [.i (wr .i64 (u4 - 1))] 1 0) :: Lr) := p7.nilRow' 27
  have p7 := (((((p7.fr 5).fr 1).fr 3).fr 3).fr 4).fr 5
  exact Gj 48 [(1, .i x1), (2, (pt gx2 0)), (3, (pt b2 0)), (6, (pt b4 0)), (7, (pt b6 0)), (8, .i 0)] (ul _ _ h gx2 _ _ (((((z2.t z3).t z4).t z5).t z6).t z7) _ _ _ _ _ none 0 0 [] _ none 0 0 [] p7 um (un.ext (((((z2.t z3).t z4).t z5).t z6).t z7)) rfl rfl (Els.nil (K := kT26)) rfl um (Els.nil (K := kT26)) rfl)
 ·
  intro up uq ⟨x1, x3v, x6v, x7v, x8, u8⟩ r h nz wz S0 w0 Lr gx2 S1 w1 hx gx3 u9 ua ub gx6 uc ud ue uf gx7 ug uh ui uj p1 ur ut uu uv uw ux uy uz u10 junk
  try dsimp only at h
  subst uu
  subst ux
  subst u10
  refine Gn 5 [(16, .i x8), (17, (pt gx3 5))] (Zr Qc [2, 3, 4, 5, 6, 7, 8, 9, 10, 11, 12, 13, 14] J5) ?_
  refine Goes.ld 25 (.tmp 17) 18 25 ⟨gx3, 5, none⟩ (.slice u9 x3v.L.length ub) (p1.c 0 5) ?_
  refine Gm 3 [([19], .i (x3v.L.length : Int)), ([20, 21], .bool (decide (x8 < (x3v.L.length : Int))))] (Zr Qc [6, 7, 8, 9, 10, 11, 12, 13, 14] J5) ?_
  refine Gi h (fun h15 h => ?_) fun h15 h => ?_
  ·
   rw [dt h15]
   refine Gm 4 [([22], .i x1), ([23, 24, 25], .bool (decide (x1 > 0)))] (Zr Qc [10, 11, 12, 13, 14] J5) ?_
   refine Gi h (fun h16 h => ?_) fun h16 h => ?_
   ·
    rw [dt h16]
    refine Gm 2 [([26, 27], (pt gx2 0))] (Zr Qc [12, 13, 14] J5) ?_
    refine Goes.ld 3 (.tmp 27) 28 3 ⟨gx2, 0, none⟩ (.i u8) (p1.c 5 0) ?_
    refine Gm 3 [([29, 30], .bool (decide (u8 > 0)))] J5 ?_
    exact Gj 48 [(1, .i x1), (2, (pt gx2 0)), (3, (pt gx3 0)), (6, (pt gx6 0)), (7, (pt gx7 0)), (8, .i x8), (30, .bool (decide (u8 > 0)))] (uq _ _ h gx2 _ _ hx _ _ _ _ _ _ _ _ _ _ _ _ _ _ p1 ur ut rfl uv uw rfl uy uz rfl)
   ·
    rw [df h16]
    refine Gm 6 [([26, 27, 28, 29], undef), ([30], .bool false)] J5 ?_
    exact Gj 48 [(1, .i x1), (2, (pt gx2 0)), (3, (pt gx3 0)), (6, (pt gx6 0)), (7, (pt gx7 0)), (8, .i x8), (30, .bool false)] (uq _ _ h gx2 _ _ hx _ _ _ _ _ _ _ _ _ _ _ _ _ _ p1 ur ut rfl uv uw rfl uy uz rfl)
  ·
   rw [df h15]
   refine Gm 10 [([22, 23, 26, 27, 28, 29], undef), ([24, 25, 30], .bool false)] J5 ?_
   exact Gj 48 [(1, .i x1), (2, (pt gx2 0)), (3, (pt gx3 0)), (6, (pt gx6 0)), (7, (pt gx7 0)), (8, .i x8), (30, .bool false)] (uq _ _ h gx2 _ _ hx _ _ _ _ _ _ _ _ _ _ _ _ _ _ p1 ur ut rfl uv uw rfl uy uz rfl)
 ·
  intro u11 uk u12 ul ⟨x1, x3v, x6v, x7v, x8, x30, u8⟩ r h nz wz S0 w0 Lr gx2 S1 w1 hx gx3 u9 ua ub gx6 uc ud ue uf gx7 ug uh ui uj p1 ur ut uu uv uw ux uy uz u10 junk
  try dsimp only at h
  subst uu
  subst ux
  subst u10
  refine Gi h (fun h22 h => ?_) fun h22 h => ?_
  ·
   rw [h22]
   refine Gn 4 [] (Ys 111110100100 B52 (Zb 1 (Ys 11111010011 B52 J2))) ?_
   have z8 : Ext S1 w1 S1 (w1).drew := Ext.draw
   have p8 := p1.draw
   refine Gd [12, 14] (Fc S1 (w1).drew [(⟨gx7, 5, none⟩, .slice (Gp ug) x7v.L.length ui), (⟨gx3, 5, none⟩, .slice u9 x3v.L.length ub)]) 7 15 ?_
   generalize (w1).drew = w8 at z8 p8 ⊢
   refine AnyG.pu 0 (.fieldAddr 27 (.tmp 7) 2) 33 0 ((pt gx7 5)) (Fc.here (p8.cs [(3, 5, 1), (0, 5, 1)])) ?_
   refine Al 1 25 (.tmp 33) 34 25 ⟨gx7, 5, none⟩ (.slice (Gp ug) x7v.L.length ui) (Fc.here (p8.cs [(3, 5, 1), (0, 5, 1)])) (fun _ h => h.2.at_ 0 rfl) ?_
   refine AnyG.pu 2 (.fieldAddr 27 (.tmp 3) 2) 35 0 ((pt gx3 5)) (Fc.here (p8.cs [(3, 5, 1), (0, 5, 1)])) ?_
   refine Al 3 25 (.tmp 35) 36 25 ⟨gx3, 5, none⟩ (.slice u9 x3v.L.length ub) (Fc.here (p8.cs [(3, 5, 1), (0, 5, 1)])) (fun _ h => h.2.at_ 1 rfl) ?_
   refine AnyG.pu 4 (.move (.tmp 8)) 37 3 (.i x8) (Fc.here (p8.cs [(3, 5, 1), (0, 5, 1)])) ?_
   refine Gg h fun g23 h => ?_
   refine Gg h fun g24 h => ?_
   refine AnyG.ixR_n (i := 5) 25 (.tmp 36) (.tmp 37) 38 0 27 .i64 x8 (gi x3v.L x8) rfl rfl (ut.ext z8) (by kernel_rfl) (by kernel_rfl) (Fc.here (p8.cs [(3, 5, 1), (0, 5, 1)])) (by kernel_rfl) (by kernel_rfl) (by kernel_rfl) (by kernel_rfl) g23 g24 fun a25 _ f26 q27 => ?_
   have q28 := q27
   obtain ⟨_, _, rfl, rfl, ⟨_, _, rfl, ⟨l29, f30⟩, ⟨_, _, rfl, ⟨A31, c32, rfl, f33⟩, ⟨_, _, rfl, rfl, rfl⟩⟩⟩⟩ := kT26_open q28
   obtain rfl := els_lit4' f30 l29
   refine AnyG.ldN (i := 6) 27 (.tmp 38) 39 27 a25 ([.i ((gi x3v.L x8).Kind)] ++ ((U4 ((gi x3v.L x8).Set) []) ++ ([.slice A31 (((gi x3v.L x8).L).length) c32] ++ ([.i ((gi x3v.L x8).Min)] ++ [.i ((gi x3v.L x8).Max)])))) (by kernel_rfl) (by kernel_rfl) (Fc.here (p8.cs [(3, 5, 1), (0, 5, 1)])) (by kernel_rfl) (by kernel_rfl) (by kernel_rfl) (fun _ h => f26.fc h) ?_
   refine AnyG.pu 7 (.move (.tmp 1)) 40 3 (.i x1) (Fc.here (p8.cs [(3, 5, 1), (0, 5, 1)])) ?_
   refine AnyG.pu 8 (.binOp .sub 3 (.tmp 40) (.const (.int .i64 1)) 3) 41 3 (.i (wr .i64 (x1 - 1))) (Fc.here (p8.cs [(3, 5, 1), (0, 5, 1)])) ?_
   refine AnyG.pu 9 (.move (.tmp 2)) 42 33 ((pt gx2 0)) (Fc.here (p8.cs [(3, 5, 1), (0, 5, 1)])) ?_
   have p8 := p8.fr 5
   refine Gb h fun y34 e35 h => ?_
   refine Oc (kc 52 [39, 41, 42] #[27, 3, 33]) 43 27 52 #[(ag (.i ((gi x3v.L x8).Kind) :: U4 ((gi x3v.L x8).Set) [.slice A31 (((gi x3v.L x8).L).length) c32, .i ((gi x3v.L x8).Min), .i ((gi x3v.L x8).Max)])), .i (wr .i64 (x1 - 1)), (pt gx2 0)] (Ac 10) (u12 ((⟨(gi x3v.L x8).Kind, ((gi x3v.L x8).Set), (gi x3v.L x8).L, (gi x3v.L x8).Min, (gi x3v.L x8).Max⟩ : T26), wr .i64 (x1 - 1), u8) y34 e35 _ _ _ _ p8 l29 f33 rfl) ?_
   rintro _ w9 ⟨S9, u13, u14, u15, u16, rfl, z9, p9, u17, u18, rfl⟩
   refine AnyG.next z9 ⟨(p9.c 5 5), (p9.c 2 5), trivial⟩ ?_
   obtain ⟨S10, z10, p10, f37⟩ := p9.freezeRd 0 rfl u18 (by decide)
   refine AnyG.refz z10 ?_
   have f39 : Els kT26 S10 w9 ((vT26 y34.1 (Gp u13) y34.1.L.length u15) : List Value) [y34.1] := by exact (Els.cons (K := kT26) (vs := (vT26 y34.1 (Gp u13) y34.1.L.length u15)) (x := y34.1) (kT26_close ⟨[.i y34.1.Kind], (U4 y34.1.Set [.slice (Gp u13) y34.1.L.length u15, .i y34.1.Min, .i y34.1.Max]), rfl, rfl, ⟨(U4 y34.1.Set []), [.slice (Gp u13) y34.1.L.length u15, .i y34.1.Min, .i y34.1.Max], rfl, ⟨u17, els_mk4 u17⟩, ⟨[.slice (Gp u13) y34.1.L.length u15], [.i y34.1.Min, .i y34.1.Max], rfl, ⟨_, _, rfl, f37⟩, ⟨[.i y34.1.Min], [.i y34.1.Max], rfl, rfl, rfl⟩⟩⟩⟩) Els.nil)
   refine Om (.buildSlice 25 1 #[(0, (.tmp 43))]) 44 25 (fun b => .slice (Gp (some b)) 1 1) 27 ((vT26 y34.1 (Gp u13) y34.1.L.length u15) : List Value) (1 * kT26.size) p10 (Av 11) fun b38 w11 z11 p11 => ?_
   refine AnyG.next z11 ⟨(p11.c 6 5), (p11.c 3 5), trivial⟩ ?_
   refine Gg h fun g44 h => ?_
   refine On (K := kT26) 25 (.tmp 34) (.tmp 44) 45 25 27 7 (.agg #[.i 0, .u 0, .u 0, .u 0, .u 0, .slice none 0 0, .i 0, .i 0]) 80 x7v.L.length ui 1 x7v.L [y34.1] (x7v.L ++ [y34.1]) (Gp (some b38)) 1 rfl rfl rfl p11 rfl (uz.ext (((z8.t z9).t z10).t z11)) (Av 12) (f39.ext z11) (src_own p11 (q := 0) rfl) g44 fun w12 G45 c46 u19 z12 p12 f48 => ?_
   refine AnyG.last [14] (Fc S10 w12 []) (by decide) ?_
   refine AnyG.pu 13 (.fieldAddr 27 (.tmp 7) 2) 46 0 ((pt gx7 5)) (Fc.here trivial) ?_
   refine So 25 (.tmp 46) (.tmp 45) 0 6 gx7 5 (.slice (Gp G45) ((x7v.L ++ [y34.1]).length) c46) [.slice (Gp G45) ((x7v.L ++ [y34.1]).length) c46] p12 rfl (As 14) fun w13 z13 p13 => ?_
   refine AnyG.last [] (Fc S10 w13 []) (by decide) ?_
   refine Ad ?_
   have p13 := (p13.dp 0).dp 0
   refine Gm 7 [([31], .i x8), ([32, 8], .i (wr .i64 (x8 + 1)))] J3 ?_
   have p13 := (((((p13.fr 0).fr 5).fr 5).fr 5).fr 5).fr 5
   exact Gj 48 [(1, .i x1), (2, (pt gx2 0)), (3, (pt gx3 0)), (6, (pt gx6 0)), (7, (pt gx7 0)), (8, .i (wr .i64 (x8 + 1)))] (ul _ _ h gx2 _ _ ((((((hx.t z8).t z9).t z10).t z11).t z12).t z13) _ _ _ _ _ _ _ _ _ _ _ _ _ _ p13 ur (ut.ext (((((z8.t z9).t z10).t z11).t z12).t z13)) rfl uv (uw.ext (((((z8.t z9).t z10).t z11).t z12).t z13)) rfl uy (f48.ext z13) rfl)
  ·
   rw [bf h22]
   refine Gn 4 [] (Yt 1111110 B52 [0, 1] Jm) ?_
   refine Goes.ldN 27 (.tmp 7) 47 27 ⟨gx7, 0, none⟩ (vT26 x7v (Gp ug) x7v.L.length ui) (p1.pa 3 0) ?_
   refine So 27 (.tmp 6) (.tmp 47) 0 1 gx6 0 (ag (vT26 x7v (Gp ug) x7v.L.length ui)) (vT26 x7v (Gp ug) x7v.L.length ui) p1 rfl Goes.s fun w14 z14 p14 => ?_
   refine Gn 1 [] Jm ?_
   obtain rfl := sj h
   have p14 := ((p14.dp 0).dp 1).dp 1
   exact R1 Tryz.f52 (.cell 6 27) (ag (vT26 x7v (Gp ug) x7v.L.length ui)) (Rn gx6 (p14.pa 0 0)) ⟨_, _, _, _, _, rfl, (hx.t z14), p14.drop, uy, (uz.ext z14), rfl⟩

theorem W.z0 : ∀ a r, M.a23 a = some r → LF.z0 a r := (W.z3).1

theorem W.z1 : ∀ a r, M.a24 a = some r → LL.z1 a r := (W.z3).2.1

theorem W.z2 : ∀ a r, M.a1h a = some r → LL.z2 a r := (W.z3).2.2

def Js := Ys 1111 B11 []

def Post.z4 (r : T26) (v : Value) (w' : World) : Prop :=
 ∃ S' u0 u1 u2 u3, v = (ag (vT26 r (Gp u0) u1 u2)) ∧ Ext S0 w0 S' w' ∧ Hp nz wz S' w' ((u0, .row 27 u3 (u2 * kT26.size) 0) :: Lr) ∧ r.Set.length = 4 ∧ Els kT26 S' w' u3 r.L ∧ r.L.length = u1

theorem W.z4 (x0 : T26) (r : T26) (h : M.a5r x0 = some r) {nz wz S0 w0 Lr} (u5 u6 u7) (p0 : Hp nz wz S0 w0 (Lr)) (um : x0.Set.length = 4) (un : Rd kT26 S0 w0 u5 u7 x0.L) (uo : x0.L.length = u6) :
  Calls Tryz.prog 11 #[(ag (vT26 x0 u5 u6 u7))] w0 (Rets (Post.z4 nz wz S0 w0 Lr r)) := by
 subst uo
 refine Zf Tryz.f11 B11 5 ?_
 refine Gj 6 [(0, (ag (vT26 x0 u5 x0.L.length u7)))] fun junk => ?_
 delta M.a5r at h
 refine Gn 2 [] (Yt 10 B11 [0, 1] (Ys 11 B11 [])) ?_
 refine Ob 27 (.tmp 0) 1 0 (ag (vT26 x0 u5 x0.L.length u7)) (vT26 x0 u5 x0.L.length u7) p0 Goes.v fun b1 w2 z2 p2 => ?_
 refine Oa 27 2 0 (.agg #[.i 0, .u 0, .u 0, .u 0, .u 0, .slice none 0 0, .i 0, .i 0]) [.i 0, .u 0, .u 0, .u 0, .u 0, .slice none 0 0, .i 0, .i 0] p2 Goes.v fun b3 w3 z3 p3 => ?_
 refine Gn 3 [] (Yt 110 B11 [0, 1] (Ys 111 B11 [])) ?_
 refine Oa 3 3 0 (.i 0) [.i 0] p3 Goes.v fun b5 w4 z4 p4 => ?_
 refine So 3 (.tmp 3) (.const (.int .i64 40)) 0 0 b5 0 (.i 40) [.i 40] p4 rfl Goes.s fun w5 z5 p5 => ?_
 refine Gn 3 [] (Yt 1110 B11 [0, 1, 2] Js) ?_
 refine Goes.ldN 27 (.tmp 1) 4 27 ⟨b1, 0, none⟩ (vT26 x0 u5 x0.L.length u7) (p5.pa 2 0) ?_
 refine Gb h fun y7 e8 h => ?_
 refine Gc (.call { callee := .value (.func 52), args := #[(.tmp 4), (.const (.int .i64 10)), (.tmp 3)], argTypes := #[27, 3, 33] }) 5 27 52 _ (W.z0 (x0, 10, 40) y7 e8 _ _ _ _ p5 um (un.ext (((z2.t z3).t z4).t z5)) rfl) ?_
 rintro _ w6 ⟨S6, u1b, u1c, u1d, u1e, rfl, z6, p6, u1f, u1g, rfl⟩
 have p6 := (p6.dp 1).dp 2
 refine So 27 (.tmp 2) (.tmp 5) 0 1 b3 0 (ag (vT26 y7.1 (Gp u1b) y7.1.L.length u1d)) (vT26 y7.1 (Gp u1b) y7.1.L.length u1d) p6 rfl Goes.s fun w7 z7 p7 => ?_
 refine Gn 1 [] Js ?_
 obtain rfl := sj h
 have p7 := (p7.fr 0).fr 1
 exact R1 Tryz.f11 (.cell 2 27) (ag (vT26 y7.1 (Gp u1b) y7.1.L.length u1d)) (Rn b3 (p7.pa 0 0)) ⟨_, _, _, _, _, rfl, (((((z2.t z3).t z4).t z5).t z6).t z7), p7.drop, u1f, (u1g.ext z7), rfl⟩

def Qo := Yq 11110100 B12
def Jw := Zl Qo (Zb 0 (Ys 11111 B12 []))
def Jx := Zc Qo Jw
def Jz := Ys 1111010001 B12 (Ys 111101001 B12 Jw)
def J12 := Ys 111 B12 []
def Qu := Yq 110 B12
def Qx := Yq 1111010000 B12
def J1e := Ys 111111 B12 []

def Post.z5 (gx2 : Nat) (r : T29 × Int) (v : Value) (w' : World) : Prop :=
 ∃ S' u0 u1 u2 u3, v = (ag (wT29 r.1.Op r.1.Text (Gp u0) u1 u2)) ∧ Ext S0 w0 S' w' ∧ Hp nz wz S' w' ((u0, .row 30 u3 (u2 * kT29.size) 0) :: (some gx2, .row 3 [.i r.2] 1 0) :: Lr) ∧ Els kT29 S' w' u3 r.1.L ∧ r.1.L.length = u1

def LF.z5 : T29 × Int × Int → (T29 × Int) → Prop := fun ⟨x0, x1, u4⟩ r => ∀ {nz wz S0 w0 Lr} u5 u6 u7 gx2 (_ : Hp nz wz S0 w0 ((some gx2, .row 3 [.i u4] 1 0) :: Lr)) (_ : Rd kT29 S0 w0 u5 u7 x0.L) (_ : x0.L.length = u6),
 Calls Tryz.prog 12 #[(ag (wT29 x0.Op x0.Text u5 u6 u7)), .i x1, (pt gx2 0)] w0 (Rets (Post.z5 nz wz S0 w0 Lr gx2 r))

def L.z6 (gx2 : Nat) : Int × T29 × T29 × T29 × Int × Int → (T29 × Int) → Prop := fun ⟨x1, x3v, x6v, x7v, x8, u8⟩ r => ∀ S1 w1, Ext S0 w0 S1 w1 → ∀ gx3 u9 ua ub gx6 uc ud ue uf gx7 ug uh ui uj (_ : Hp nz wz S1 w1 ((some gx3, .row 30 (wT29 x3v.Op x3v.Text u9 ua ub) 3 0) :: (some gx6, .row 30 (wT29 x6v.Op x6v.Text (Gp uc) ud ue) 3 0) :: (uc, .row 30 uf (ue * kT29.size) 0) :: (some gx7, .row 30 (wT29 x7v.Op x7v.Text (Gp ug) uh ui) 3 0) :: (ug, .row 30 uj (ui * kT29.size) 0) :: (some gx2, .row 3 [.i u8] 1 0) :: Lr)) (_ : Rd kT29 S1 w1 u9 ub x3v.L) (_ : x3v.L.length = ua) (_ : Els kT29 S1 w1 uf x6v.L) (_ : x6v.L.length = ud) (_ : Els kT29 S1 w1 uj x7v.L) (_ : x7v.L.length = uh) (junk : Nat → Value),
 Goes Tryz.prog (base 12) Jx ⟨lfr 56 [(1, .i x1), (2, (pt gx2 0)), (3, (pt gx3 0)), (6, (pt gx6 0)), (7, (pt gx7 0)), (8, .i x8)] junk, []⟩ w1 (Done Tryz.prog 12 (Rets (Post.z5 nz wz S0 w0 Lr gx2 r)))

def LL.z6 : Int × T29 × T29 × T29 × Int × Int → (T29 × Int) → Prop := fun a r => ∀ {nz wz S0 w0 Lr} (gx2 : Nat), L.z6 nz wz S0 w0 Lr gx2 a r

def L.z7 (gx2 : Nat) : Int × T29 × T29 × T29 × Int × Bool × Int → (T29 × Int) → Prop := fun ⟨x1, x3v, x6v, x7v, x8, x38, u8⟩ r => ∀ S1 w1, Ext S0 w0 S1 w1 → ∀ gx3 u9 ua ub gx6 uc ud ue uf gx7 ug uh ui uj (_ : Hp nz wz S1 w1 ((some gx3, .row 30 (wT29 x3v.Op x3v.Text u9 ua ub) 3 0) :: (some gx6, .row 30 (wT29 x6v.Op x6v.Text (Gp uc) ud ue) 3 0) :: (uc, .row 30 uf (ue * kT29.size) 0) :: (some gx7, .row 30 (wT29 x7v.Op x7v.Text (Gp ug) uh ui) 3 0) :: (ug, .row 30 uj (ui * kT29.size) 0) :: (some gx2, .row 3 [.i u8] 1 0) :: Lr)) (_ : Rd kT29 S1 w1 u9 ub x3v.L) (_ : x3v.L.length = ua) (_ : Els kT29 S1 w1 uf x6v.L) (_ : x6v.L.length = ud) (_ : Els kT29 S1 w1 uj x7v.L) (_ : x7v.L.length = uh) (junk : Nat → Value),
 Goes Tryz.prog (base 12) Jz ⟨lfr 56 [(1, .i x1), (2, (pt gx2 0)), (3, (pt gx3 0)), (6, (pt gx6 0)), (7, (pt gx7 0)), (8, .i x8), (38, .bool x38)] junk, []⟩ w1 (Done Tryz.prog 12 (Rets (Post.z5 nz wz S0 w0 Lr gx2 r)))

def LL.z7 : Int × T29 × T29 × T29 × Int × Bool × Int → (T29 × Int) → Prop := fun a r => ∀ {nz wz S0 w0 Lr} (gx2 : Nat), L.z7 nz wz S0 w0 Lr gx2 a r

theorem W.z8 : (∀ a r, M.a25 a = some r → LF.z5 a r) ∧ (∀ a r, M.a26 a = some r → LL.z6 a r) ∧ (∀ a r, M.a1i a = some r → LL.z7 a r) := by
 refine M.a25.mutual_partial_correctness LF.z5 LL.z6 LL.z7 ?_ ?_ ?_
 ·
  intro u1h u1i ⟨x0, x1, u4⟩ r h nz wz S0 w0 Lr u5 u6 u7 gx2 p0 un uo
  try dsimp only at h
  subst uo
  refine Zf Tryz.f12 B12 53 ?_
  refine Gj 56 [(0, (ag (wT29 x0.Op x0.Text u5 x0.L.length u7))), (1, .i x1), (2, (pt gx2 0))] fun junk => ?_
  refine Gn 2 [] (Yt 10 B12 [0, 1] (Ys 11 B12 [])) ?_
  refine Ob 30 (.tmp 0) 3 0 ((ag (wT29 x0.Op x0.Text u5 x0.L.length u7))) (wT29 x0.Op x0.Text u5 x0.L.length u7) p0 Goes.v fun b2 w2 z2 p2 => ?_
  refine Oa 30 6 0 (.agg #[.i 0, .string (⟨#[]⟩ : ByteArray), .slice none 0 0]) [.i 0, .string (⟨#[]⟩ : ByteArray), .slice none 0 0] p2 Goes.v fun b4 w3 z3 p3 => ?_
  refine Gm 5 [([9, 10], (pt gx2 0))] (Zr Qu [2, 3, 4, 5] J12) ?_
  refine Goes.ld 3 (.tmp 10) 11 3 ⟨gx2, 0, none⟩ (.i u4) (p3.c 2 0) ?_
  refine Gn 2 [(12, .i (wr .i64 (u4 - 1))), (13, (pt gx2 0))] (Zr Qu [5] J12) ?_
  refine So 3 (.tmp 13) (.tmp 12) 0 2 gx2 0 (.i (wr .i64 (u4 - 1))) [.i (wr .i64 (u4 - 1))] p3 rfl Goes.s fun w4 z4 p4 => ?_
  refine Gn 2 [] (Ys 1110 B12 (Ys 1111 B12 [])) ?_
  have z5 : Ext S0 w4 S0 (w4).drew := Ext.draw
  have p5 := p4.draw
  refine Gd [11] (Fc S0 (w4).drew [(⟨b2, 0, none⟩, .i x0.Op), (⟨b2, 1, none⟩, .string x0.Text)]) 2 12 ?_
  generalize (w4).drew = w5 at z5 p5 ⊢
  refine AnyG.pu 0 (.fieldAddr 30 (.tmp 3) 0) 14 0 ((pt b2 0)) (Fc.here (p5.cs [(1, 0, 2)])) ?_
  refine Al 1 3 (.tmp 14) 15 3 ⟨b2, 0, none⟩ (.i x0.Op) (Fc.here (p5.cs [(1, 0, 2)])) (fun _ h => h.2.at_ 0 rfl) ?_
  refine AnyG.pu 2 (.fieldAddr 30 (.tmp 3) 1) 16 0 ((pt b2 1)) (Fc.here (p5.cs [(1, 0, 2)])) ?_
  refine Al 3 9 (.tmp 16) 17 9 ⟨b2, 1, none⟩ (.string x0.Text) (Fc.here (p5.cs [(1, 0, 2)])) (fun _ h => h.2.at_ 1 rfl) ?_
  refine AnyG.pu 4 (.fieldAddr 30 (.tmp 3) 1) 18 0 ((pt b2 1)) (Fc.here (p5.cs [(1, 0, 2)])) ?_
  refine Al 5 9 (.tmp 18) 19 9 ⟨b2, 1, none⟩ (.string x0.Text) (Fc.here (p5.cs [(1, 0, 2)])) (fun _ h => h.2.at_ 1 rfl) ?_
  refine AnyG.pu 6 (.call { callee := .builtin .len, args := #[(.tmp 19)], argTypes := #[9] }) 20 3 (.i (x0.Text.size : Int)) (Fc.here (p5.cs [(1, 0, 2)])) ?_
  refine AnyG.pu 7 (.call { callee := .builtin .min, args := #[(.tmp 20), (.const (.int .i64 5))], argTypes := #[3, 3] }) 21 3 (.i (imn (x0.Text.size : Int) 5)) (Fc.here (p5.cs [(1, 0, 2)])) ?_
  refine Gg h fun g6 h => ?_
  refine Gg h fun g7 h => ?_
  refine AnyG.slS (i := 8) 9 (.tmp 17) none (some (.tmp 21)) 22 9 x0.Text 0 (imn (x0.Text.size : Int) 5) (by kernel_rfl) (by kernel_rfl) (Fc.here (p5.cs [(1, 0, 2)])) (by kernel_rfl) (by kernel_rfl) Bnd.no (Bnd.at_ .i64 (by kernel_rfl)) (by decide : (0 : Int) ≤ 0) g6 g7 ?_
  refine AnyG.pu 9 (.build 30 #[(0, (.tmp 15)), (1, (.tmp 22))]) 23 30 (.agg #[.i x0.Op, .string (ss x0.Text 0 (imn (x0.Text.size : Int) 5)), .slice none 0 0]) (Fc.here (p5.cs [(1, 0, 2)])) ?_
  refine Oa 30 7 0 (.agg #[.i 0, .string (⟨#[]⟩ : ByteArray), .slice none 0 0]) [.i 0, .string (⟨#[]⟩ : ByteArray), .slice none 0 0] p5 (Av 10) fun b8 w6 z6 p6 => ?_
  refine AnyG.next z6 ⟨(p6.c 2 0), (p6.c 2 1), trivial⟩ ?_
  refine So 30 (.tmp 7) (.tmp 23) 0 0 b8 0 (.agg #[.i x0.Op, .string (ss x0.Text 0 (imn (x0.Text.size : Int) 5)), .slice none 0 0]) [.i x0.Op, .string (ss x0.Text 0 (imn (x0.Text.size : Int) 5)), .slice none 0 0] p6 rfl (As 11) fun w7 z7 p7 => ?_
  refine AnyG.last [] (Fc S0 w7 []) (by decide) ?_
  refine Ad ?_
  refine Gn 7 [(8, .i 0)] Jx ?_
  have p7 : Hp nz wz S0 w7 ((none, .row 30 [] (0 * kT29.size) 0) :: (some b8, .row 30 [.i x0.Op, .string (ss x0.Text 0 (imn (x0.Text.size : Int) 5)), .slice none 0 0] 3 0) :: (some b4, .row 30 [.i 0, .string (⟨#[]⟩ : ByteArray), .slice none 0 0] 3 0) :: (some b2, .row 30 (wT29 x0.Op x0.Text u5 x0.L.length u7) 3 0) :: (some gx2, .row 3 [.i (wr .i64 (u4 - 1))] 1 0) :: Lr) := p7.nilRow' 30
  have p7 : Hp nz wz S0 w7 ((none, .row 30 [] (0 * kT29.size) 0) :: (none, .row 30 [] (0 * kT29.size) 0) :: (some b8, .row 30 [.i x0.Op, .string (ss x0.Text 0 (imn (x0.Text.size : Int) 5)), .slice none 0 0] 3 0) :: (some b4, .row 30 [.i 0, .string (⟨#[]⟩ : ByteArray), .slice (Gp none) 0 0] 3 0) :: (some b2, .row 30 (wT29 x0.Op x0.Text u5 x0.L.length u7) 3 0) :: (some gx2, .row 3 [.i (wr .i64 (u4 - 1))] 1 0) :: Lr) := p7.nilRow' 30
  have p7 := (((((p7.fr 5).fr 1).fr 3).fr 3).fr 4).fr 5
  exact Gj 56 [(1, .i x1), (2, (pt gx2 0)), (3, (pt b2 0)), (6, (pt b4 0)), (7, (pt b8 0)), (8, .i 0)] (u1i _ _ h gx2 _ _ (((((z2.t z3).t z4).t z5).t z6).t z7) _ _ _ _ _ none 0 0 [] _ none 0 0 [] p7 (un.ext (((((z2.t z3).t z4).t z5).t z6).t z7)) rfl (Els.nil (K := kT29)) rfl (Els.nil (K := kT29)) rfl)
 ·
  intro u1j u1k ⟨x1, x3v, x6v, x7v, x8, u8⟩ r h nz wz S0 w0 Lr gx2 S1 w1 hx gx3 u9 ua ub gx6 uc ud ue uf gx7 ug uh ui uj p1 ut uu uw ux uz u10 junk
  try dsimp only at h
  subst uu
  subst ux
  subst u10
  refine Gn 5 [(24, .i x8), (25, (pt gx3 2))] (Zr Qx [2, 3, 4, 5, 6, 7, 8, 9, 10, 11, 12, 13, 14] Jz) ?_
  refine Goes.ld 28 (.tmp 25) 26 28 ⟨gx3, 2, none⟩ (.slice u9 x3v.L.length ub) (p1.c 0 2) ?_
  refine Gm 3 [([27], .i (x3v.L.length : Int)), ([28, 29], .bool (decide (x8 < (x3v.L.length : Int))))] (Zr Qx [6, 7, 8, 9, 10, 11, 12, 13, 14] Jz) ?_
  refine Gi h (fun h17 h => ?_) fun h17 h => ?_
  ·
   rw [dt h17]
   refine Gm 4 [([30], .i x1), ([31, 32, 33], .bool (decide (x1 > 0)))] (Zr Qx [10, 11, 12, 13, 14] Jz) ?_
   refine Gi h (fun h18 h => ?_) fun h18 h => ?_
   ·
    rw [dt h18]
    refine Gm 2 [([34, 35], (pt gx2 0))] (Zr Qx [12, 13, 14] Jz) ?_
    refine Goes.ld 3 (.tmp 35) 36 3 ⟨gx2, 0, none⟩ (.i u8) (p1.c 5 0) ?_
    refine Gm 3 [([37, 38], .bool (decide (u8 > 0)))] Jz ?_
    exact Gj 56 [(1, .i x1), (2, (pt gx2 0)), (3, (pt gx3 0)), (6, (pt gx6 0)), (7, (pt gx7 0)), (8, .i x8), (38, .bool (decide (u8 > 0)))] (u1k _ _ h gx2 _ _ hx _ _ _ _ _ _ _ _ _ _ _ _ _ _ p1 ut rfl uw rfl uz rfl)
   ·
    rw [df h18]
    refine Gm 6 [([34, 35, 36, 37], undef), ([38], .bool false)] Jz ?_
    exact Gj 56 [(1, .i x1), (2, (pt gx2 0)), (3, (pt gx3 0)), (6, (pt gx6 0)), (7, (pt gx7 0)), (8, .i x8), (38, .bool false)] (u1k _ _ h gx2 _ _ hx _ _ _ _ _ _ _ _ _ _ _ _ _ _ p1 ut rfl uw rfl uz rfl)
  ·
   rw [df h17]
   refine Gm 10 [([30, 31, 34, 35, 36, 37], undef), ([32, 33, 38], .bool false)] Jz ?_
   exact Gj 56 [(1, .i x1), (2, (pt gx2 0)), (3, (pt gx3 0)), (6, (pt gx6 0)), (7, (pt gx7 0)), (8, .i x8), (38, .bool false)] (u1k _ _ h gx2 _ _ hx _ _ _ _ _ _ _ _ _ _ _ _ _ _ p1 ut rfl uw rfl uz rfl)
 ·
  intro u1l u1h u1m u1i ⟨x1, x3v, x6v, x7v, x8, x38, u8⟩ r h nz wz S0 w0 Lr gx2 S1 w1 hx gx3 u9 ua ub gx6 uc ud ue uf gx7 ug uh ui uj p1 ut uu uw ux uz u10 junk
  try dsimp only at h
  subst uu
  subst ux
  subst u10
  refine Gi h (fun h24 h => ?_) fun h24 h => ?_
  ·
   rw [h24]
   refine Gn 4 [] (Ys 11110100100 B12 (Zb 1 (Ys 1111010011 B12 Jw))) ?_
   have z8 : Ext S1 w1 S1 (w1).drew := Ext.draw
   have p8 := p1.draw
   refine Gd [12, 14] (Fc S1 (w1).drew [(⟨gx7, 2, none⟩, .slice (Gp ug) x7v.L.length ui), (⟨gx3, 2, none⟩, .slice u9 x3v.L.length ub)]) 6 15 ?_
   generalize (w1).drew = w8 at z8 p8 ⊢
   refine AnyG.pu 0 (.fieldAddr 30 (.tmp 7) 2) 41 0 ((pt gx7 2)) (Fc.here (p8.cs [(3, 2, 1), (0, 2, 1)])) ?_
   refine Al 1 28 (.tmp 41) 42 28 ⟨gx7, 2, none⟩ (.slice (Gp ug) x7v.L.length ui) (Fc.here (p8.cs [(3, 2, 1), (0, 2, 1)])) (fun _ h => h.2.at_ 0 rfl) ?_
   refine AnyG.pu 2 (.fieldAddr 30 (.tmp 3) 2) 43 0 ((pt gx3 2)) (Fc.here (p8.cs [(3, 2, 1), (0, 2, 1)])) ?_
   refine Al 3 28 (.tmp 43) 44 28 ⟨gx3, 2, none⟩ (.slice u9 x3v.L.length ub) (Fc.here (p8.cs [(3, 2, 1), (0, 2, 1)])) (fun _ h => h.2.at_ 1 rfl) ?_
   refine AnyG.pu 4 (.move (.tmp 8)) 45 3 (.i x8) (Fc.here (p8.cs [(3, 2, 1), (0, 2, 1)])) ?_
   refine Gg h fun g25 h => ?_
   refine Gg h fun g26 h => ?_
   refine AnyG.ixR_n (i := 5) 28 (.tmp 44) (.tmp 45) 46 0 30 .i64 x8 (gi x3v.L x8) rfl rfl (ut.ext z8) (by kernel_rfl) (by kernel_rfl) (Fc.here (p8.cs [(3, 2, 1), (0, 2, 1)])) (by kernel_rfl) (by kernel_rfl) (by kernel_rfl) (by kernel_rfl) g25 g26 fun a27 _ f28 q29 => ?_
   have q30 := q29
   obtain ⟨_, _, rfl, rfl, ⟨_, _, rfl, rfl, ⟨A31, c32, rfl, f33⟩⟩⟩ := kT29_open q30
   refine AnyG.ldN (i := 6) 30 (.tmp 46) 47 30 a27 ([.i ((gi x3v.L x8).Op)] ++ ([.string ((gi x3v.L x8).Text)] ++ [.slice A31 (((gi x3v.L x8).L).length) c32])) (by kernel_rfl) (by kernel_rfl) (Fc.here (p8.cs [(3, 2, 1), (0, 2, 1)])) (by kernel_rfl) (by kernel_rfl) (by kernel_rfl) (fun _ h => f28.fc h) ?_
   refine AnyG.pu 7 (.move (.tmp 1)) 48 3 (.i x1) (Fc.here (p8.cs [(3, 2, 1), (0, 2, 1)])) ?_
   refine AnyG.pu 8 (.binOp .sub 3 (.tmp 48) (.const (.int .i64 1)) 3) 49 3 (.i (wr .i64 (x1 - 1))) (Fc.here (p8.cs [(3, 2, 1), (0, 2, 1)])) ?_
   refine AnyG.pu 9 (.move (.tmp 2)) 50 33 ((pt gx2 0)) (Fc.here (p8.cs [(3, 2, 1), (0, 2, 1)])) ?_
   have p8 := p8.fr 5
   refine Gb h fun y34 e35 h => ?_
   refine Oc (kc 12 [47, 49, 50] #[30, 3, 33]) 51 30 12 #[(ag (wT29 (gi x3v.L x8).Op (gi x3v.L x8).Text A31 (((gi x3v.L x8).L).length) c32)), .i (wr .i64 (x1 - 1)), (pt gx2 0)] (Ac 10) (u1m (gi x3v.L x8, wr .i64 (x1 - 1), u8) y34 e35 _ _ _ _ p8 f33 rfl) ?_
   rintro _ w9 ⟨S9, u13, u14, u15, u16, rfl, z9, p9, u18, rfl⟩
   refine AnyG.next z9 ⟨(p9.c 5 2), (p9.c 2 2), trivial⟩ ?_
   obtain ⟨S10, z10, p10, f37⟩ := p9.freezeRd 0 rfl u18 (by decide)
   refine AnyG.refz z10 ?_
   have f39 : Els kT29 S10 w9 ((wT29 y34.1.Op y34.1.Text (Gp u13) y34.1.L.length u15) : List Value) [y34.1] := by exact (Els.cons (K := kT29) (vs := (wT29 y34.1.Op y34.1.Text (Gp u13) y34.1.L.length u15)) (x := y34.1) (kT29_close ⟨[.i y34.1.Op], [.string y34.1.Text, .slice (Gp u13) y34.1.L.length u15], rfl, rfl, ⟨[.string y34.1.Text], [.slice (Gp u13) y34.1.L.length u15], rfl, rfl, ⟨_, _, rfl, f37⟩⟩⟩) Els.nil)
   refine Om (.buildSlice 28 1 #[(0, (.tmp 51))]) 52 28 (fun b => .slice (Gp (some b)) 1 1) 30 ((wT29 y34.1.Op y34.1.Text (Gp u13) y34.1.L.length u15) : List Value) (1 * kT29.size) p10 (Av 11) fun b38 w11 z11 p11 => ?_
   refine AnyG.next z11 ⟨(p11.c 6 2), (p11.c 3 2), trivial⟩ ?_
   refine Gg h fun g44 h => ?_
   refine On (K := kT29) 28 (.tmp 42) (.tmp 52) 53 28 30 7 (.agg #[.i 0, .string ⟨#[]⟩, .slice none 0 0]) 48 x7v.L.length ui 1 x7v.L [y34.1] (x7v.L ++ [y34.1]) (Gp (some b38)) 1 rfl rfl rfl p11 rfl (uz.ext (((z8.t z9).t z10).t z11)) (Av 12) (f39.ext z11) (src_own p11 (q := 0) rfl) g44 fun w12 G45 c46 u19 z12 p12 f48 => ?_
   refine AnyG.last [14] (Fc S10 w12 []) (by decide) ?_
   refine AnyG.pu 13 (.fieldAddr 30 (.tmp 7) 2) 54 0 ((pt gx7 2)) (Fc.here trivial) ?_
   refine So 28 (.tmp 54) (.tmp 53) 0 6 gx7 2 (.slice (Gp G45) ((x7v.L ++ [y34.1]).length) c46) [.slice (Gp G45) ((x7v.L ++ [y34.1]).length) c46] p12 rfl (As 14) fun w13 z13 p13 => ?_
   refine AnyG.last [] (Fc S10 w13 []) (by decide) ?_
   refine Ad ?_
   have p13 := (p13.dp 0).dp 0
   refine Gm 7 [([39], .i x8), ([40, 8], .i (wr .i64 (x8 + 1)))] Jx ?_
   have p13 := (((((p13.fr 0).fr 5).fr 5).fr 5).fr 5).fr 5
   exact Gj 56 [(1, .i x1), (2, (pt gx2 0)), (3, (pt gx3 0)), (6, (pt gx6 0)), (7, (pt gx7 0)), (8, .i (wr .i64 (x8 + 1)))] (u1i _ _ h gx2 _ _ ((((((hx.t z8).t z9).t z10).t z11).t z12).t z13) _ _ _ _ _ _ _ _ _ _ _ _ _ _ p13 (ut.ext (((((z8.t z9).t z10).t z11).t z12).t z13)) rfl (uw.ext (((((z8.t z9).t z10).t z11).t z12).t z13)) rfl (f48.ext z13) rfl)
  ·
   rw [bf h24]
   refine Gn 4 [] (Yt 111110 B12 [0, 1] J1e) ?_
   refine Goes.ldN 30 (.tmp 7) 55 30 ⟨gx7, 0, none⟩ (wT29 x7v.Op x7v.Text (Gp ug) x7v.L.length ui) (p1.pa 3 0) ?_
   refine So 30 (.tmp 6) (.tmp 55) 0 1 gx6 0 ((ag (wT29 x7v.Op x7v.Text (Gp ug) x7v.L.length ui))) (wT29 x7v.Op x7v.Text (Gp ug) x7v.L.length ui) p1 rfl Goes.s fun w14 z14 p14 => ?_
   refine Gn 1 [] J1e ?_
   obtain rfl := sj h
   have p14 := ((p14.dp 0).dp 1).dp 1
   exact R1 Tryz.f12 (.cell 6 30) ((ag (wT29 x7v.Op x7v.Text (Gp ug) x7v.L.length ui))) (Rn gx6 (p14.pa 0 0)) ⟨_, _, _, _, _, rfl, (hx.t z14), p14.drop, (uz.ext z14), rfl⟩

theorem W.z5 : ∀ a r, M.a25 a = some r → LF.z5 a r := (W.z8).1

theorem W.z6 : ∀ a r, M.a26 a = some r → LL.z6 a r := (W.z8).2.1

theorem W.z7 : ∀ a r, M.a1i a = some r → LL.z7 a r := (W.z8).2.2

def J1g := Ys 1111 B179 []
def J1h := Ys 11101 B179 J1g
def J1i := Ys 11111 B179 []
def Q15 := Yq 11110100 B179
def J1k := Zl Q15 (Zb 0 J1i)
def J1l := Zc Q15 J1k
def J1o := Ys 111 B179 []
def Q19 := Yq 110 B179
def Q1a := Yq 11100 B179
def J1z := Zb 1 (Ys 11110100111 B179 J1k)
def J22 := Ys 11110100110011 B179 J1z
def Q1k := Yq 11110100110010 B179

def Post.z9 (gx2 : Nat) (r : Bool × Int) (v : Value) (w' : World) : Prop :=
 ∃ S', v = .bool r.1 ∧ Ext S0 w0 S' w' ∧ Hp nz wz S' w' ((some gx2, .row 3 [.i r.2] 1 0) :: Lr)

def LF.z9 : T26 × Int × Int → (Bool × Int) → Prop := fun ⟨x0, x1, u4⟩ r => ∀ {nz wz S0 w0 Lr} u5 u6 u7 gx2 (_ : Hp nz wz S0 w0 ((some gx2, .row 3 [.i u4] 1 0) :: Lr)) (_ : x0.Set.length = 4) (_ : Rd kT26 S0 w0 u5 u7 x0.L) (_ : x0.L.length = u6),
 Calls Tryz.prog 179 #[(ag (vT26 x0 u5 u6 u7)), .i x1, (pt gx2 0)] w0 (Rets (Post.z9 nz wz S0 w0 Lr gx2 r))

def L.za (gx2 : Nat) : Int × T26 × Bool × Int → (Bool × Int) → Prop := fun ⟨x1, x3v, x21, u8⟩ r => ∀ S1 w1, Ext S0 w0 S1 w1 → ∀ gx3 u9 ua ub (_ : Hp nz wz S1 w1 ((some gx3, .row 27 (vT26 x3v u9 ua ub) 8 0) :: (some gx2, .row 3 [.i u8] 1 0) :: Lr)) (_ : x3v.Set.length = 4) (_ : Rd kT26 S1 w1 u9 ub x3v.L) (_ : x3v.L.length = ua) (junk : Nat → Value),
 Goes Tryz.prog (base 179) J1h ⟨lfr 36 [(1, .i x1), (2, (pt gx2 0)), (3, (pt gx3 0)), (21, .bool x21)] junk, []⟩ w1 (Done Tryz.prog 179 (Rets (Post.z9 nz wz S0 w0 Lr gx2 r)))

def LL.za : Int × T26 × Bool × Int → (Bool × Int) → Prop := fun a r => ∀ {nz wz S0 w0 Lr} (gx2 : Nat), L.za nz wz S0 w0 Lr gx2 a r

def L.zb (gx2 : Nat) : Int × (List T26) × Int × Int × Int → (Bool × Int) → Prop := fun ⟨x1, x23, x24, x25, u8⟩ r => ∀ S1 w1, Ext S0 w0 S1 w1 → ∀ u1o u1p u1q (_ : Hp nz wz S1 w1 ((some gx2, .row 3 [.i u8] 1 0) :: Lr)) (_ : Rd kT26 S1 w1 u1o u1q x23) (_ : x23.length = u1p) (junk : Nat → Value),
 Goes Tryz.prog (base 179) J1l ⟨lfr 36 [(1, .i x1), (2, (pt gx2 0)), (23, .slice u1o u1p u1q), (24, .i x24), (25, .i x25)] junk, []⟩ w1 (Done Tryz.prog 179 (Rets (Post.z9 nz wz S0 w0 Lr gx2 r)))

def LL.zb : Int × (List T26) × Int × Int × Int → (Bool × Int) → Prop := fun a r => ∀ {nz wz S0 w0 Lr} (gx2 : Nat), L.zb nz wz S0 w0 Lr gx2 a r

theorem W.zc : (∀ a r, M.aa a = some r → LF.z9 a r) ∧ (∀ a r, M.a1q a = some r → LL.za a r) ∧ (∀ a r, M.aw a = some r → LL.zb a r) := by
 refine M.aa.mutual_partial_correctness LF.z9 LL.za LL.zb ?_ ?_ ?_
 ·
  intro u1r u1s ⟨x0, x1, u4⟩ r h nz wz S0 w0 Lr u5 u6 u7 gx2 p0 um un uo
  try dsimp only at h
  subst uo
  refine Zf Tryz.f179 B179 33 ?_
  refine Gj 36 [(0, (ag (vT26 x0 u5 x0.L.length u7))), (1, .i x1), (2, (pt gx2 0))] fun junk => ?_
  refine Gn 2 [] (Yt 10 B179 [0, 1] (Ys 11 B179 [])) ?_
  refine Ob 27 (.tmp 0) 3 0 (ag (vT26 x0 u5 x0.L.length u7)) (vT26 x0 u5 x0.L.length u7) p0 Goes.v fun b2 w2 z2 p2 => ?_
  refine Gm 6 [([6], .bool false), ([9, 10], (pt gx2 0))] (Zr Q19 [2, 3, 4, 5] J1o) ?_
  refine Goes.ld 3 (.tmp 10) 11 3 ⟨gx2, 0, none⟩ (.i u4) (p2.c 1 0) ?_
  refine Gn 2 [(12, .i (wr .i64 (u4 + 1))), (13, (pt gx2 0))] (Zr Q19 [5] J1o) ?_
  refine So 3 (.tmp 13) (.tmp 12) 0 1 gx2 0 (.i (wr .i64 (u4 + 1))) [.i (wr .i64 (u4 + 1))] p2 rfl Goes.s fun w3 z3 p3 => ?_
  refine Gm 7 [([14], .i x1), ([15, 16], .bool (decide (x1 = 0)))] (Zr Q1a [3, 4, 5, 6, 7] J1h) ?_
  refine Gi h (fun h4 h => ?_) fun h4 h => ?_
  ·
   rw [dt h4]
   refine Gm 6 [([17, 18, 19, 20], undef), ([21], .bool true)] J1h ?_
   exact Gj 36 [(1, .i x1), (2, (pt gx2 0)), (3, (pt b2 0)), (21, .bool true)] (u1s _ _ h gx2 _ _ (z2.t z3) _ _ _ _ p3 um (un.ext (z2.t z3)) rfl)
  ·
   rw [df h4]
   refine Gm 2 [([17, 18], (pt gx2 0))] (Zr Q1a [5, 6, 7] J1h) ?_
   refine Goes.ld 3 (.tmp 18) 19 3 ⟨gx2, 0, none⟩ (.i (wr .i64 (u4 + 1))) (p3.c 1 0) ?_
   refine Gm 3 [([20, 21], .bool (decide (wr .i64 (u4 + 1) > 4096)))] J1h ?_
   exact Gj 36 [(1, .i x1), (2, (pt gx2 0)), (3, (pt b2 0)), (21, .bool (decide (wr .i64 (u4 + 1) > 4096)))] (u1s _ _ h gx2 _ _ (z2.t z3) _ _ _ _ p3 um (un.ext (z2.t z3)) rfl)
 ·
  intro u1t u1u ⟨x1, x3v, x21, u8⟩ r h nz wz S0 w0 Lr gx2 S1 w1 hx gx3 u9 ua ub p1 ur ut uu junk
  try dsimp only at h
  subst uu
  refine Gi h (fun h6 h => ?_) fun h6 h => ?_
  ·
   rw [h6]
   refine Gn 5 [(6, .bool false)] (Ys 1110101 B179 J1g) ?_
   obtain rfl := sj h
   have p1 := p1.dp 0
   exact Goes.rt Tryz.f179 (.bool false) ⟨_, rfl, hx, p1⟩
  ·
   rw [bf h6]
   refine Gn 6 [(22, (pt gx3 5))] (Yt 111100 B179 [1, 2, 3] (Ys 111101 B179 J1i)) ?_
   refine Goes.ld 25 (.tmp 22) 23 25 ⟨gx3, 5, none⟩ (.slice u9 x3v.L.length ub) (p1.c 0 5) ?_
   refine Gn 5 [(24, .i (x3v.L.length : Int)), (25, .i 0)] J1l ?_
   have p1 := p1.dp 0
   exact Gj 36 [(1, .i x1), (2, (pt gx2 0)), (23, .slice u9 x3v.L.length ub), (24, .i (x3v.L.length : Int)), (25, .i 0)] (u1u _ _ h gx2 _ _ hx _ _ _ p1 ut rfl)
 ·
  intro rec_syntax_count u1t ih_syntax_count u1u ⟨x1, x23, x24, x25, u8⟩ r h nz wz S0 w0 Lr gx2 S1 w1 hx u1o u1p u1q p1 u1v u1w junk
  try dsimp only at h
  subst u1w
  refine Gn 5 [(26, .bool (decide (x25 < x24)))] (Ys 1111010010 B179 (Ys 1111010011 B179 J1k)) ?_
  refine Gi h (fun h7 h => ?_) fun h7 h => ?_
  ·
   rw [dt h7]
   refine Gn 6 [] (Yt 1111010011000 B179 [0, 1, 2, 3] (Ys 1111010011001 B179 J1z)) ?_
   refine Gg h fun g8 h => ?_
   refine Gg h fun g9 h => ?_
   refine Oi 25 (.tmp 23) (.tmp 25) 27 0 27 .i64 x25 (gi x23 x25) rfl rfl u1v Goes.v g8 g9 fun a10 _ f11 q12 => ?_
   have q13 := q12
   obtain ⟨_, _, rfl, rfl, ⟨_, _, rfl, ⟨l14, f15⟩, ⟨_, _, rfl, ⟨A16, c17, rfl, f18⟩, ⟨_, _, rfl, rfl, rfl⟩⟩⟩⟩ := kT26_open q13
   obtain rfl := els_lit4' f15 l14
   refine Goes.ldN 27 (.tmp 27) 28 27 a10 ([.i ((gi x23 x25).Kind)] ++ ((U4 ((gi x23 x25).Set) []) ++ ([.slice A16 (((gi x23 x25).L).length) c17] ++ ([.i ((gi x23 x25).Min)] ++ [.i ((gi x23 x25).Max)])))) (f11.cell) ?_
   refine Oa 27 8 0 (.agg #[.i 0, .u 0, .u 0, .u 0, .u 0, .slice none 0 0, .i 0, .i 0]) [.i 0, .u 0, .u 0, .u 0, .u 0, .slice none 0 0, .i 0, .i 0] p1 Goes.v fun b19 w4 z4 p4 => ?_
   refine So 27 (.tmp 8) (.tmp 28) 0 0 b19 0 (ag (.i ((gi x23 x25).Kind) :: U4 ((gi x23 x25).Set) [.slice A16 (((gi x23 x25).L).length) c17, .i ((gi x23 x25).Min), .i ((gi x23 x25).Max)])) (.i ((gi x23 x25).Kind) :: U4 ((gi x23 x25).Set) [.slice A16 (((gi x23 x25).L).length) c17, .i ((gi x23 x25).Min), .i ((gi x23 x25).Max)]) p4 rfl Goes.s fun w5 z5 p5 => ?_
   refine Gn 3 [] (Zr Q1k [0, 1, 2, 3, 4, 5] J22) ?_
   refine Goes.ldN 27 (.tmp 8) 29 27 ⟨b19, 0, none⟩ (.i ((gi x23 x25).Kind) :: U4 ((gi x23 x25).Set) [.slice A16 (((gi x23 x25).L).length) c17, .i ((gi x23 x25).Min), .i ((gi x23 x25).Max)]) (p5.pa 0 0) ?_
   refine Gn 3 [(30, .i x1), (31, .i (wr .i64 (x1 - 1))), (32, (pt gx2 0))] (Zr Q1k [4, 5] J22) ?_
   have p5 := p5.fr 1
   refine Gb h fun y21 e22 h => ?_
   refine Gc (kc 179 [29, 31, 32] #[27, 3, 33]) 33 4 179 _ (ih_syntax_count ((⟨(gi x23 x25).Kind, ((gi x23 x25).Set), (gi x23 x25).L, (gi x23 x25).Min, (gi x23 x25).Max⟩ : T26), wr .i64 (x1 - 1), u8) y21 e22 _ _ _ _ p5 l14 (f18.ext (z4.t z5)) rfl) ?_
   rintro _ w6 ⟨S6, rfl, z6, p6⟩
   have p6 := p6.dp 1
   refine Gn 2 [(34, .bool (!y21.1))] J22 ?_
   refine Gi h (fun h23 h => ?_) fun h23 h => ?_
   ·
    rw [h23]
    refine Gm 8 [([35, 25], .i (wr .i64 (x25 + 1)))] J1l ?_
    exact Gj 36 [(1, .i x1), (2, (pt gx2 0)), (23, .slice u1o x23.length u1q), (24, .i x24), (25, .i (wr .i64 (x25 + 1)))] (u1u _ _ h gx2 _ _ (((hx.t z4).t z5).t z6) _ _ _ p6 (u1v.ext ((z4.t z5).t z6)) rfl)
   ·
    rw [bf h23]
    refine Gn 5 [(6, .bool false)] (Ys 1111010011001101 B179 J1z) ?_
    obtain rfl := sj h
    exact Goes.rt Tryz.f179 (.bool false) ⟨_, rfl, (((hx.t z4).t z5).t z6), p6⟩
  ·
   rw [df h7]
   refine Gn 6 [(6, .bool true)] (Ys 111111 B179 []) ?_
   obtain rfl := sj h
   exact Goes.rt Tryz.f179 (.bool true) ⟨_, rfl, hx, p1⟩

theorem W.z9 : ∀ a r, M.aa a = some r → LF.z9 a r := (W.zc).1

theorem W.za : ∀ a r, M.a1q a = some r → LL.za a r := (W.zc).2.1

theorem W.zb : ∀ a r, M.aw a = some r → LL.zb a r := (W.zc).2.2

def J27 := Ys 11111 B230 []
def J28 := Zb 0 J27
def J29 := Ys 111101011111011 B230 J28
def J2a := Ys 1111010111110111 B230 J28
def Q1q := Yq 1111010111110110 B230

def Post.zd (r : Bool) (v : Value) (w' : World) : Prop :=
 ∃ S', v = .bool r ∧ Ext S0 w0 S' w' ∧ Hp nz wz S' w' (Lr)

def L.ze : T26 × (List Int) × Bool × Bool → Bool → Prop := fun ⟨x1v, u1y, x5, x6⟩ r => ∀ S1 w1, Ext S0 w0 S1 w1 → ∀ gx1 u1z u20 u21 gx3 (_ : Hp nz wz S1 w1 ((some gx1, .row 27 (vT26 x1v u1z u20 u21) 8 0) :: (some gx3, .row 24 (U4 u1y []) 4 0) :: Lr)) (_ : x1v.Set.length = 4) (_ : Rd kT26 S1 w1 u1z u21 x1v.L) (_ : x1v.L.length = u20) (_ : u1y.length = 4) (junk : Nat → Value),
 Goes Tryz.prog (base 230) J29 ⟨lfr 77 [(1, (pt gx1 0)), (3, (pt gx3 0)), (5, .bool x5), (6, .bool x6)] junk, []⟩ w1 (Done Tryz.prog 230 (Rets (Post.zd nz wz S0 w0 Lr r)))

theorem W.ze {nz wz S0 w0 Lr} : ∀ a r, M.a3u a = some r → L.ze nz wz S0 w0 Lr a r := by
 intro ⟨x1v, u1y, x5, x6⟩ r h S1 w1 hx gx1 u1z u20 u21 gx3 p1 u22 u23 u24 u25 junk
 rw [M.a3u] at h
 try dsimp only at h
 subst u24
 refine Gn 3 [(61, (pt gx1 5))] (Zr Q1q [1, 2, 3, 4, 5, 6, 7, 8, 9, 10, 11, 12, 13, 14, 15, 16] J2a) ?_
 refine Goes.ld 25 (.tmp 61) 62 25 ⟨gx1, 5, none⟩ (.slice u1z x1v.L.length u21) (p1.c 0 5) ?_
 refine Gm 3 [([63], .i (x1v.L.length : Int)), ([64, 65], .bool (decide ((x1v.L.length : Int) = 1)))] (Zr Q1q [5, 6, 7, 8, 9, 10, 11, 12, 13, 14, 15, 16] J2a) ?_
 refine Gi h (fun h23 h => ?_) fun h23 h => ?_
 ·
  rw [dt h23]
  refine Gn 1 [(66, (pt gx1 1))] (Zr Q1q [6, 7, 8, 9, 10, 11, 12, 13, 14, 15, 16] J2a) ?_
  refine Goes.ldN 24 (.tmp 66) 67 24 ⟨gx1, 1, none⟩ (U4 x1v.Set []) (p1.pa 0 1) ?_
  refine Goes.ldN 24 (.tmp 3) 68 24 ⟨gx3, 0, none⟩ (U4 u1y []) (p1.pa 1 0) ?_
  refine Op_.eqA 24 (.tmp 67) (.tmp 68) 24 69 4 22 4 .u64 (us := ((U4 x1v.Set []) : List Value)) (vs := ((U4 u1y []) : List Value)) Goes.v (by kernel_rfl) (by kernel_rfl) (by kernel_rfl) (by kernel_rfl) (by kernel_rfl) (by kernel_rfl) (by kernel_rfl) (els_mk4 (S := S1) (w := w1) (k := .u64) u22) (els_mk4 (S := S1) (w := w1) (k := .u64) u25) (Els.len1 (els_mk4 (S := S1) (w := w1) (k := .u64) u22) rfl rfl) (Els.len1 (els_mk4 (S := S1) (w := w1) (k := .u64) u25) rfl rfl) ?_
  refine Gm 2 [([70, 71], .bool (decide (x1v.Set = u1y)))] (Zr Q1q [11, 12, 13, 14, 15, 16] J2a) ?_
  refine Gi h (fun h24 h => ?_) fun h24 h => ?_
  ·
   rw [dt h24]
   refine Gm 3 [([72, 73, 74], .bool x5)] (Zr Q1q [14, 15, 16] J2a) ?_
   refine Gi h (fun h25 h => ?_) fun h25 h => ?_
   ·
    rw [h25]
    refine Gm 4 [([75, 76, 2], .bool x6)] J2a ?_
    obtain rfl := sj h
    have p1 := (p1.dp 0).dp 0
    exact Goes.rt Tryz.f230 (.bool x6) ⟨_, rfl, hx, p1⟩
   ·
    rw [bf h25]
    refine Gm 4 [([75], undef), ([76, 2], .bool false)] J2a ?_
    obtain rfl := sj h
    have p1 := (p1.dp 0).dp 0
    exact Goes.rt Tryz.f230 (.bool false) ⟨_, rfl, hx, p1⟩
  ·
   rw [df h24]
   refine Gm 7 [([72, 75], undef), ([73, 74, 76, 2], .bool false)] J2a ?_
   obtain rfl := sj h
   have p1 := (p1.dp 0).dp 0
   exact Goes.rt Tryz.f230 (.bool false) ⟨_, rfl, hx, p1⟩
 ·
  rw [df h23]
  refine Gm 13 [([66, 67, 68, 69, 72, 75], undef), ([70, 71, 73, 74, 76, 2], .bool false)] J2a ?_
  obtain rfl := sj h
  have p1 := (p1.dp 0).dp 0
  exact Goes.rt Tryz.f230 (.bool false) ⟨_, rfl, hx, p1⟩

def J2g := Ys 11110101111101 B230 J28
def Q1s := Yq 111101011111010 B230

def L.zf : T26 × (List Int) × Bool → Bool → Prop := fun ⟨x1v, u1y, x5⟩ r => ∀ S1 w1, Ext S0 w0 S1 w1 → ∀ gx1 u1z u20 u21 gx3 (_ : Hp nz wz S1 w1 ((some gx1, .row 27 (vT26 x1v u1z u20 u21) 8 0) :: (some gx3, .row 24 (U4 u1y []) 4 0) :: Lr)) (_ : x1v.Set.length = 4) (_ : Rd kT26 S1 w1 u1z u21 x1v.L) (_ : x1v.L.length = u20) (_ : u1y.length = 4) (junk : Nat → Value),
 Goes Tryz.prog (base 230) J2g ⟨lfr 77 [(1, (pt gx1 0)), (3, (pt gx3 0)), (5, .bool x5)] junk, []⟩ w1 (Done Tryz.prog 230 (Rets (Post.zd nz wz S0 w0 Lr r)))

theorem W.zf {nz wz S0 w0 Lr} : ∀ a r, M.a4x a = some r → L.zf nz wz S0 w0 Lr a r := by
 intro ⟨x1v, u1y, x5⟩ r h S1 w1 hx gx1 u1z u20 u21 gx3 p1 u22 u23 u24 u25 junk
 rw [M.a4x] at h
 try dsimp only at h
 subst u24
 refine Gn 3 [(46, (pt gx1 7))] (Zr Q1s [1, 2, 3, 4, 5, 6, 7, 8, 9, 10, 11, 12, 13, 14, 15] J29) ?_
 refine Goes.ld 3 (.tmp 46) 47 3 ⟨gx1, 7, none⟩ (.i x1v.Max) (p1.c 0 7) ?_
 refine Gm 2 [([48, 49], .bool (decide (x1v.Max = (-1))))] (Zr Q1s [4, 5, 6, 7, 8, 9, 10, 11, 12, 13, 14, 15] J29) ?_
 refine Gi h (fun h19 h => ?_) fun h19 h => ?_
 ·
  rw [dt h19]
  refine Gm 13 [([50, 51, 52, 53, 54, 55, 56, 57, 58, 59], undef), ([60, 6], .bool true)] J29 ?_
  exact Gj 77 [(1, (pt gx1 0)), (3, (pt gx3 0)), (5, .bool x5), (6, .bool true)] (W.ze _ _ h _ _ hx _ _ _ _ _ p1 u22 u23 rfl u25)
 ·
  rw [df h19]
  refine Gn 1 [(50, (pt gx1 7))] (Zr Q1s [5, 6, 7, 8, 9, 10, 11, 12, 13, 14, 15] J29) ?_
  refine Goes.ld 3 (.tmp 50) 51 3 ⟨gx1, 7, none⟩ (.i x1v.Max) (p1.c 0 7) ?_
  refine Gn 1 [(52, (pt gx1 6))] (Zr Q1s [7, 8, 9, 10, 11, 12, 13, 14, 15] J29) ?_
  refine Goes.ld 3 (.tmp 52) 53 3 ⟨gx1, 6, none⟩ (.i x1v.Min) (p1.c 0 6) ?_
  refine Gm 2 [([54, 55], .bool (decide (x1v.Max ≥ x1v.Min)))] (Zr Q1s [10, 11, 12, 13, 14, 15] J29) ?_
  refine Gi h (fun h22 h => ?_) fun h22 h => ?_
  ·
   rw [dt h22]
   refine Gn 1 [(56, (pt gx1 7))] (Zr Q1s [11, 12, 13, 14, 15] J29) ?_
   refine Goes.ld 3 (.tmp 56) 57 3 ⟨gx1, 7, none⟩ (.i x1v.Max) (p1.c 0 7) ?_
   refine Gm 5 [([58, 59, 60, 6], .bool (decide (x1v.Max ≤ 64)))] J29 ?_
   exact Gj 77 [(1, (pt gx1 0)), (3, (pt gx3 0)), (5, .bool x5), (6, .bool (decide (x1v.Max ≤ 64)))] (W.ze _ _ h _ _ hx _ _ _ _ _ p1 u22 u23 rfl u25)
  ·
   rw [df h22]
   refine Gm 7 [([56, 57, 58], undef), ([59, 60, 6], .bool false)] J29 ?_
   exact Gj 77 [(1, (pt gx1 0)), (3, (pt gx3 0)), (5, .bool x5), (6, .bool false)] (W.ze _ _ h _ _ hx _ _ _ _ _ p1 u22 u23 rfl u25)

def J2n := Ys 1111010111 B230 J28
def J2o := Ys 111101011101 B230 J28
def Q1v := Yq 111101011100 B230
def Q1x := Yq 11110101111100 B230

def L.zg : T26 × (List Int) × Bool × Int × Bool → Bool → Prop := fun ⟨x1v, u1y, x4, x16, x26⟩ r => ∀ S1 w1, Ext S0 w0 S1 w1 → ∀ gx1 u1z u20 u21 gx3 (_ : Hp nz wz S1 w1 ((some gx1, .row 27 (vT26 x1v u1z u20 u21) 8 0) :: (some gx3, .row 24 (U4 u1y []) 4 0) :: Lr)) (_ : x1v.Set.length = 4) (_ : Rd kT26 S1 w1 u1z u21 x1v.L) (_ : x1v.L.length = u20) (_ : u1y.length = 4) (junk : Nat → Value),
 Goes Tryz.prog (base 230) J2n ⟨lfr 77 [(1, (pt gx1 0)), (3, (pt gx3 0)), (4, .bool x4), (16, .i x16), (26, .bool x26)] junk, []⟩ w1 (Done Tryz.prog 230 (Rets (Post.zd nz wz S0 w0 Lr r)))

theorem W.zg {nz wz S0 w0 Lr} : ∀ a r, M.a4y a = some r → L.zg nz wz S0 w0 Lr a r := by
 intro ⟨x1v, u1y, x4, x16, x26⟩ r h S1 w1 hx gx1 u1z u20 u21 gx3 p1 u22 u23 u24 u25 junk
 rw [M.a4y] at h
 try dsimp only at h
 subst u24
 refine Gi h (fun h13 h => ?_) fun h13 h => ?_
 ·
  rw [h13]
  refine Gn 4 [(29, (pt gx1 1))] (Zr Q1v [1, 2, 3, 4, 5, 6, 7] J2o) ?_
  refine Goes.ldN 24 (.tmp 29) 30 24 ⟨gx1, 1, none⟩ (U4 x1v.Set []) (p1.pa 0 1) ?_
  refine Goes.ldN 24 (.tmp 3) 31 24 ⟨gx3, 0, none⟩ (U4 u1y []) (p1.pa 1 0) ?_
  refine Op_.eqA 24 (.tmp 30) (.tmp 31) 24 32 4 22 4 .u64 (us := ((U4 x1v.Set []) : List Value)) (vs := ((U4 u1y []) : List Value)) Goes.v (by kernel_rfl) (by kernel_rfl) (by kernel_rfl) (by kernel_rfl) (by kernel_rfl) (by kernel_rfl) (by kernel_rfl) (els_mk4 (S := S1) (w := w1) (k := .u64) u22) (els_mk4 (S := S1) (w := w1) (k := .u64) u25) (Els.len1 (els_mk4 (S := S1) (w := w1) (k := .u64) u22) rfl rfl) (Els.len1 (els_mk4 (S := S1) (w := w1) (k := .u64) u25) rfl rfl) ?_
  refine Gn 1 [(33, .bool (decide (x1v.Set = u1y)))] (Zr Q1v [5, 6, 7] J2o) ?_
  refine Gi h (fun h14 h => ?_) fun h14 h => ?_
  ·
   rw [dt h14]
   refine Gm 4 [([34, 35, 2], .bool x4)] J2o ?_
   obtain rfl := sj h
   have p1 := (p1.dp 0).dp 0
   exact Goes.rt Tryz.f230 (.bool x4) ⟨_, rfl, hx, p1⟩
  ·
   rw [df h14]
   refine Gm 4 [([34], undef), ([35, 2], .bool false)] J2o ?_
   obtain rfl := sj h
   have p1 := (p1.dp 0).dp 0
   exact Goes.rt Tryz.f230 (.bool false) ⟨_, rfl, hx, p1⟩
 ·
  rw [bf h13]
  refine Gm 6 [([37, 36], .bool (decide (x16 = 4)))] (Ys 111101011111 B230 J28) ?_
  refine Gi h (fun h15 h => ?_) fun h15 h => ?_
  ·
   rw [dt h15]
   refine Gn 4 [(38, (pt gx1 6))] (Zr Q1x [1, 2, 3, 4, 5, 6, 7, 8] J2g) ?_
   refine Goes.ld 3 (.tmp 38) 39 3 ⟨gx1, 6, none⟩ (.i x1v.Min) (p1.c 0 6) ?_
   refine Gm 2 [([40, 41], .bool (decide (x1v.Min ≥ 0)))] (Zr Q1x [4, 5, 6, 7, 8] J2g) ?_
   refine Gi h (fun h16 h => ?_) fun h16 h => ?_
   ·
    rw [dt h16]
    refine Gn 1 [(42, (pt gx1 6))] (Zr Q1x [5, 6, 7, 8] J2g) ?_
    refine Goes.ld 3 (.tmp 42) 43 3 ⟨gx1, 6, none⟩ (.i x1v.Min) (p1.c 0 6) ?_
    refine Gm 4 [([44, 45, 5], .bool (decide (x1v.Min ≤ 64)))] J2g ?_
    exact Gj 77 [(1, (pt gx1 0)), (3, (pt gx3 0)), (5, .bool (decide (x1v.Min ≤ 64)))] (W.zf _ _ h _ _ hx _ _ _ _ _ p1 u22 u23 rfl u25)
   ·
    rw [df h16]
    refine Gm 6 [([42, 43, 44], undef), ([45, 5], .bool false)] J2g ?_
    exact Gj 77 [(1, (pt gx1 0)), (3, (pt gx3 0)), (5, .bool false)] (W.zf _ _ h _ _ hx _ _ _ _ _ p1 u22 u23 rfl u25)
  ·
   rw [df h15]
   refine Gn 7 [(2, .bool false)] (Ys 111111 B230 []) ?_
   obtain rfl := sj h
   have p1 := (p1.dp 0).dp 0
   exact Goes.rt Tryz.f230 (.bool false) ⟨_, rfl, hx, p1⟩

def J2w := Ys 1111 B230 []
def J30 := Ys 1111010101 B230 J28
def Q24 := Yq 1111010100 B230

def L.zh : T26 × (List Int) × Bool → Bool → Prop := fun ⟨x1v, u1y, x4⟩ r => ∀ S1 w1, Ext S0 w0 S1 w1 → ∀ gx1 u1z u20 u21 gx3 (_ : Hp nz wz S1 w1 ((some gx1, .row 27 (vT26 x1v u1z u20 u21) 8 0) :: (some gx3, .row 24 (U4 u1y []) 4 0) :: Lr)) (_ : x1v.Set.length = 4) (_ : Rd kT26 S1 w1 u1z u21 x1v.L) (_ : x1v.L.length = u20) (_ : u1y.length = 4) (junk : Nat → Value),
 Goes Tryz.prog (base 230) J2w ⟨lfr 77 [(1, (pt gx1 0)), (3, (pt gx3 0)), (4, .bool x4)] junk, []⟩ w1 (Done Tryz.prog 230 (Rets (Post.zd nz wz S0 w0 Lr r)))

theorem W.zh {nz wz S0 w0 Lr} : ∀ a r, M.a4z a = some r → L.zh nz wz S0 w0 Lr a r := by
 intro ⟨x1v, u1y, x4⟩ r h S1 w1 hx gx1 u1z u20 u21 gx3 p1 u22 u23 u24 u25 junk
 rw [M.a4z] at h
 try dsimp only at h
 subst u24
 refine Gn 4 [(15, (pt gx1 0))] (Yt 111100 B230 [1] (Ys 111101 B230 J27)) ?_
 refine Goes.ld 3 (.tmp 15) 16 3 ⟨gx1, 0, none⟩ (.i x1v.Kind) (p1.c 0 0) ?_
 refine Gm 7 [([18, 17], .bool (decide (x1v.Kind = 1)))] (Ys 11110101 B230 J28) ?_
 refine Gi h (fun h8 h => ?_) fun h8 h => ?_
 ·
  rw [dt h8]
  refine Gn 4 [(19, (pt gx1 5))] (Zr Q24 [1, 2, 3, 4, 5, 6, 7] J30) ?_
  refine Goes.ld 25 (.tmp 19) 20 25 ⟨gx1, 5, none⟩ (.slice u1z x1v.L.length u21) (p1.c 0 5) ?_
  refine Gm 3 [([21], .i (x1v.L.length : Int)), ([22, 23], .bool (decide ((x1v.L.length : Int) = 0)))] (Zr Q24 [5, 6, 7] J30) ?_
  refine Gi h (fun h9 h => ?_) fun h9 h => ?_
  ·
   rw [dt h9]
   refine Gm 4 [([24, 25, 2], .bool x4)] J30 ?_
   obtain rfl := sj h
   have p1 := (p1.dp 0).dp 0
   exact Goes.rt Tryz.f230 (.bool x4) ⟨_, rfl, hx, p1⟩
  ·
   rw [df h9]
   refine Gm 4 [([24], undef), ([25, 2], .bool false)] J30 ?_
   obtain rfl := sj h
   have p1 := (p1.dp 0).dp 0
   exact Goes.rt Tryz.f230 (.bool false) ⟨_, rfl, hx, p1⟩
 ·
  rw [df h8]
  refine Gm 7 [([27, 26], .bool (decide (x1v.Kind = 2)))] (Ys 11110101101 B230 J2n) ?_
  refine Gi h (fun h10 h => ?_) fun h10 h => ?_
  ·
   rw [dt h10]
   refine Gn 2 [] J2n ?_
   exact Gj 77 [(1, (pt gx1 0)), (3, (pt gx3 0)), (4, .bool x4), (16, .i x1v.Kind), (26, .bool true)] (W.zg _ _ h _ _ hx _ _ _ _ _ p1 u22 u23 rfl u25)
  ·
   rw [df h10]
   refine Gm 5 [([28, 26], .bool (decide (x1v.Kind = 3)))] J2n ?_
   exact Gj 77 [(1, (pt gx1 0)), (3, (pt gx3 0)), (4, .bool x4), (16, .i x1v.Kind), (26, .bool (decide (x1v.Kind = 3)))] (W.zg _ _ h _ _ hx _ _ _ _ _ p1 u22 u23 rfl u25)

def Q2a := Yq 1110 B230

theorem W.zd (x0 : T26) (r : Bool) (h : M.a4c x0 = some r) {nz wz S0 w0 Lr} (u5 u6 u7) (p0 : Hp nz wz S0 w0 (Lr)) (um : x0.Set.length = 4) (un : Rd kT26 S0 w0 u5 u7 x0.L) (uo : x0.L.length = u6) :
  Calls Tryz.prog 230 #[(ag (vT26 x0 u5 u6 u7))] w0 (Rets (Post.zd nz wz S0 w0 Lr r)) := by
 subst uo
 refine Zf Tryz.f230 B230 76 ?_
 refine Gj 77 [(0, (ag (vT26 x0 u5 x0.L.length u7)))] fun junk => ?_
 delta M.a4c at h
 refine Gn 2 [] (Yt 10 B230 [0, 1] (Ys 11 B230 [])) ?_
 refine Ob 27 (.tmp 0) 1 0 (ag (vT26 x0 u5 x0.L.length u7)) (vT26 x0 u5 x0.L.length u7) p0 Goes.v fun b1 w2 z2 p2 => ?_
 refine Gn 4 [(2, .bool false)] (Yt 110 B230 [0] (Ys 111 B230 [])) ?_
 refine Oa 24 3 0 (.agg #[.u 0, .u 0, .u 0, .u 0]) [.u 0, .u 0, .u 0, .u 0] p2 Goes.v fun b3 w3 z3 p3 => ?_
 refine Gn 4 [(7, (pt b1 6))] (Zr Q2a [1, 2, 3, 4, 5, 6, 7, 8] J2w) ?_
 refine Goes.ld 3 (.tmp 7) 8 3 ⟨b1, 6, none⟩ (.i x0.Min) (p3.c 1 6) ?_
 refine Gm 2 [([9, 10], .bool (decide (x0.Min = 0)))] (Zr Q2a [4, 5, 6, 7, 8] J2w) ?_
 refine Gi h (fun h5 h => ?_) fun h5 h => ?_
 ·
  rw [dt h5]
  refine Gn 1 [(11, (pt b1 7))] (Zr Q2a [5, 6, 7, 8] J2w) ?_
  refine Goes.ld 3 (.tmp 11) 12 3 ⟨b1, 7, none⟩ (.i x0.Max) (p3.c 1 7) ?_
  refine Gm 4 [([13, 14, 4], .bool (decide (x0.Max = 0)))] J2w ?_
  have p3 := (p3.fr 0).fr 1
  exact Gj 77 [(1, (pt b1 0)), (3, (pt b3 0)), (4, .bool (decide (x0.Max = 0)))] (W.zh _ _ h _ _ (z2.t z3) _ _ _ _ _ p3 um (un.ext (z2.t z3)) rfl rfl)
 ·
  rw [df h5]
  refine Gm 6 [([11, 12, 13], undef), ([14, 4], .bool false)] J2w ?_
  have p3 := (p3.fr 0).fr 1
  exact Gj 77 [(1, (pt b1 0)), (3, (pt b3 0)), (4, .bool false)] (W.zh _ _ h _ _ (z2.t z3) _ _ _ _ _ p3 um (un.ext (z2.t z3)) rfl rfl)

def J3b := Ys 111 B180 []
def Q2c := Yq 110100 B180
def J3d := Zl Q2c (Zb 0 J3b)
def J3e := Zc Q2c J3d
def J3m := Zb 1 (Ys 110100111 B180 J3d)
def J3p := Ys 110100110011 B180 J3m
def J3s := Ys 1111 B180 []

def Post.zi (r : Bool) (v : Value) (w' : World) : Prop :=
 ∃ S', v = .bool r ∧ Ext S0 w0 S' w' ∧ Hp nz wz S' w' (Lr)

def LF.zi : T26 → Bool → Prop := fun x0 r => ∀ {nz wz S0 w0 Lr} u5 u6 u7 (_ : Hp nz wz S0 w0 (Lr)) (_ : x0.Set.length = 4) (_ : Rd kT26 S0 w0 u5 u7 x0.L) (_ : x0.L.length = u6),
 Calls Tryz.prog 180 #[(ag (vT26 x0 u5 u6 u7))] w0 (Rets (Post.zi nz wz S0 w0 Lr r))

def L.zj : T26 × (List T26) × Int × Int → Bool → Prop := fun ⟨x1v, x6, x7, x8⟩ r => ∀ S1 w1, Ext S0 w0 S1 w1 → ∀ gx1 u1z u20 u21 Ax6 nx6 cx6 (_ : Hp nz wz S1 w1 ((some gx1, .row 27 (vT26 x1v u1z u20 u21) 8 0) :: Lr)) (_ : x1v.Set.length = 4) (_ : Rd kT26 S1 w1 u1z u21 x1v.L) (_ : x1v.L.length = u20) (_ : Rd kT26 S1 w1 Ax6 cx6 x6) (_ : x6.length = nx6) (junk : Nat → Value),
 Goes Tryz.prog (base 180) J3e ⟨lfr 18 [(1, (pt gx1 0)), (6, .slice Ax6 nx6 cx6), (7, .i x7), (8, .i x8)] junk, []⟩ w1 (Done Tryz.prog 180 (Rets (Post.zi nz wz S0 w0 Lr r)))

def LL.zj : T26 × (List T26) × Int × Int → Bool → Prop := fun a r => ∀ {nz wz S0 w0 Lr}, L.zj nz wz S0 w0 Lr a r

theorem W.zk : (∀ a r, M.ak a = some r → LF.zi a r) ∧ (∀ a r, M.ax a = some r → LL.zj a r) := by
 refine M.ak.mutual_partial_correctness LF.zi LL.zj ?_ ?_
 ·
  intro u28 u29 x0 r h nz wz S0 w0 Lr u5 u6 u7 p0 um un uo
  try dsimp only at h
  subst uo
  refine Zf Tryz.f180 B180 17 ?_
  refine Gj 18 [(0, (ag (vT26 x0 u5 x0.L.length u7)))] fun junk => ?_
  refine Gn 2 [] (Yt 10 B180 [0, 1] (Ys 11 B180 [])) ?_
  refine Ob 27 (.tmp 0) 1 0 (ag (vT26 x0 u5 x0.L.length u7)) (vT26 x0 u5 x0.L.length u7) p0 Goes.v fun b1 w2 z2 p2 => ?_
  refine Gn 6 [(2, .bool false), (5, (pt b1 5))] (Yt 1100 B180 [1, 2, 3] (Ys 1101 B180 J3b)) ?_
  refine Goes.ld 25 (.tmp 5) 6 25 ⟨b1, 5, none⟩ (.slice u5 x0.L.length u7) (p2.c 0 5) ?_
  refine Gn 5 [(7, .i (x0.L.length : Int)), (8, .i 0)] J3e ?_
  exact Gj 18 [(1, (pt b1 0)), (6, .slice u5 x0.L.length u7), (7, .i (x0.L.length : Int)), (8, .i 0)] (u29 _ _ h _ _ z2 _ _ _ _ _ _ _ p2 um (un.ext z2) rfl (un.ext z2) rfl)
 ·
  intro rec_syntax_right u28 ih_syntax_right u29 ⟨x1v, x6, x7, x8⟩ r h nz wz S0 w0 Lr S1 w1 hx gx1 u1z u20 u21 Ax6 nx6 cx6 p1 u22 u23 u24 fx6 lx6 junk
  try dsimp only at h
  subst u24
  subst lx6
  refine Gn 5 [(9, .bool (decide (x8 < x7)))] (Ys 11010010 B180 (Ys 11010011 B180 J3d)) ?_
  refine Gi h (fun h4 h => ?_) fun h4 h => ?_
  ·
   rw [dt h4]
   refine Gn 6 [] (Yt 11010011000 B180 [0, 1, 2, 3] (Ys 11010011001 B180 J3m)) ?_
   refine Gg h fun g5 h => ?_
   refine Gg h fun g6 h => ?_
   refine Oi 25 (.tmp 6) (.tmp 8) 10 0 27 .i64 x8 (gi x6 x8) rfl rfl fx6 Goes.v g5 g6 fun a7 _ f8 q9 => ?_
   have q10 := q9
   obtain ⟨_, _, rfl, rfl, ⟨_, _, rfl, ⟨l11, f12⟩, ⟨_, _, rfl, ⟨A13, c14, rfl, f15⟩, ⟨_, _, rfl, rfl, rfl⟩⟩⟩⟩ := kT26_open q10
   obtain rfl := els_lit4' f12 l11
   refine Goes.ldN 27 (.tmp 10) 11 27 a7 ([.i ((gi x6 x8).Kind)] ++ ((U4 ((gi x6 x8).Set) []) ++ ([.slice A13 (((gi x6 x8).L).length) c14] ++ ([.i ((gi x6 x8).Min)] ++ [.i ((gi x6 x8).Max)])))) (f8.cell) ?_
   refine Oa 27 4 0 (.agg #[.i 0, .u 0, .u 0, .u 0, .u 0, .slice none 0 0, .i 0, .i 0]) [.i 0, .u 0, .u 0, .u 0, .u 0, .slice none 0 0, .i 0, .i 0] p1 Goes.v fun b16 w3 z3 p3 => ?_
   refine So 27 (.tmp 4) (.tmp 11) 0 0 b16 0 (ag (.i ((gi x6 x8).Kind) :: U4 ((gi x6 x8).Set) [.slice A13 (((gi x6 x8).L).length) c14, .i ((gi x6 x8).Min), .i ((gi x6 x8).Max)])) (.i ((gi x6 x8).Kind) :: U4 ((gi x6 x8).Set) [.slice A13 (((gi x6 x8).L).length) c14, .i ((gi x6 x8).Min), .i ((gi x6 x8).Max)]) p3 rfl Goes.s fun w4 z4 p4 => ?_
   refine Gn 3 [] (Yt 110100110010 B180 [0, 1, 2] J3p) ?_
   refine Goes.ldN 27 (.tmp 4) 12 27 ⟨b16, 0, none⟩ (.i ((gi x6 x8).Kind) :: U4 ((gi x6 x8).Set) [.slice A13 (((gi x6 x8).L).length) c14, .i ((gi x6 x8).Min), .i ((gi x6 x8).Max)]) (p4.pa 0 0) ?_
   refine Gb h fun y18 e19 h => ?_
   refine Gc (kc 180 [12] #[27]) 13 4 180 _ (ih_syntax_right (⟨(gi x6 x8).Kind, ((gi x6 x8).Set), (gi x6 x8).L, (gi x6 x8).Min, (gi x6 x8).Max⟩ : T26) y18 e19 _ _ _ p4 l11 (f15.ext (z3.t z4)) rfl) ?_
   rintro _ w5 ⟨S5, rfl, z5, p5⟩
   have p5 := p5.dp 0
   refine Gn 2 [(14, .bool (!y18))] J3p ?_
   refine Gi h (fun h20 h => ?_) fun h20 h => ?_
   ·
    rw [h20]
    refine Gm 8 [([15, 8], .i (wr .i64 (x8 + 1)))] J3e ?_
    exact Gj 18 [(1, (pt gx1 0)), (6, .slice Ax6 x6.length cx6), (7, .i x7), (8, .i (wr .i64 (x8 + 1)))] (u29 _ _ h _ _ (((hx.t z3).t z4).t z5) _ _ _ _ _ _ _ p5 u22 (u23.ext ((z3.t z4).t z5)) rfl (fx6.ext ((z3.t z4).t z5)) rfl)
   ·
    rw [bf h20]
    refine Gn 5 [(2, .bool false)] (Ys 11010011001101 B180 J3m) ?_
    obtain rfl := sj h
    have p5 := p5.dp 0
    exact Goes.rt Tryz.f180 (.bool false) ⟨_, rfl, (((hx.t z3).t z4).t z5), p5⟩
  ·
   rw [df h4]
   refine Gn 4 [] (Yt 1110 B180 [0, 1, 2] J3s) ?_
   refine Goes.ldN 27 (.tmp 1) 16 27 ⟨gx1, 0, none⟩ (vT26 x1v u1z x1v.L.length u21) (p1.pa 0 0) ?_
   refine Gb h fun y21 e22 h => ?_
   refine Gc (kc 230 [16] #[27]) 17 4 230 _ (W.zd x1v y21 e22 _ _ _ p1 u22 u23 rfl) ?_
   rintro _ w6 ⟨S6, rfl, z6, p6⟩
   have p6 := p6.dp 0
   refine Gn 2 [(2, .bool y21)] J3s ?_
   obtain rfl := sj h
   exact Goes.rt Tryz.f180 (.bool y21) ⟨_, rfl, (hx.t z6), p6⟩

theorem W.zi : ∀ a r, M.ak a = some r → LF.zi a r := (W.zk).1

theorem W.zj : ∀ a r, M.ax a = some r → LL.zj a r := (W.zk).2

def J3y := Ys 1111 B114 []
def J3z := Ys 11101 B114 J3y
def Q2x := Yq 11100 B114
def J42 := Ys 11111 B114 []
def J44 := Ys 1110101 B114 J3y

def Post.zl (r : Int) (v : Value) (w' : World) : Prop :=
 ∃ S', v = .i r ∧ Ext S0 w0 S' w' ∧ Hp nz wz S' w' (Lr)

theorem W.zl (x0 : T26) (r : Int) (h : M.a34 x0 = some r) {nz wz S0 w0 Lr} (u5 u6 u7) (p0 : Hp nz wz S0 w0 (Lr)) (um : x0.Set.length = 4) (un : Rd kT26 S0 w0 u5 u7 x0.L) (uo : x0.L.length = u6) :
  Calls Tryz.prog 114 #[(ag (vT26 x0 u5 u6 u7))] w0 (Rets (Post.zl nz wz S0 w0 Lr r)) := by
 subst uo
 refine Zf Tryz.f114 B114 12 ?_
 refine Gj 13 [(0, (ag (vT26 x0 u5 x0.L.length u7)))] fun junk => ?_
 delta M.a34 at h
 refine Gn 2 [] (Yt 10 B114 [0, 1] (Ys 11 B114 [])) ?_
 refine Ob 27 (.tmp 0) 1 0 (ag (vT26 x0 u5 x0.L.length u7)) (vT26 x0 u5 x0.L.length u7) p0 Goes.v fun b1 w2 z2 p2 => ?_
 refine Gn 4 [(2, .i 0)] (Yt 110 B114 [0, 1] (Ys 111 B114 [])) ?_
 refine Oa 3 3 0 (.i 0) [.i 0] p2 Goes.v fun b3 w3 z3 p3 => ?_
 refine So 3 (.tmp 3) (.const (.int .i64 0)) 0 0 b3 0 (.i 0) [.i 0] p3 rfl Goes.s fun w4 z4 p4 => ?_
 refine Gn 4 [] (Zr Q2x [0, 1, 2, 3, 4, 5, 6, 7] J3z) ?_
 refine Goes.ldN 27 (.tmp 1) 4 27 ⟨b1, 0, none⟩ (vT26 x0 u5 x0.L.length u7) (p4.pa 1 0) ?_
 refine Gb h fun y5 e6 h => ?_
 refine Gc (.call { callee := .value (.func 179), args := #[(.tmp 4), (.const (.int .i64 128)), (.tmp 3)], argTypes := #[27, 3, 33] }) 5 4 179 _ (W.z9 (x0, 128, 0) y5 e6 _ _ _ _ p4 um (un.ext ((z2.t z3).t z4)) rfl) ?_
 rintro _ w5 ⟨S5, rfl, z5, p5⟩
 refine Gm 2 [([6, 7], .bool (!y5.1))] (Zr Q2x [4, 5, 6, 7] J3z) ?_
 refine Gi h (fun h7 h => ?_) fun h7 h => ?_
 ·
  rw [h7]
  refine Goes.ldN 27 (.tmp 1) 8 27 ⟨b1, 0, none⟩ (vT26 x0 u5 x0.L.length u7) (p5.pa 1 0) ?_
  refine Gb h fun y8 e9 h => ?_
  refine Gc (kc 180 [8] #[27]) 9 4 180 _ (W.zi x0 y8 e9 _ _ _ p5 um (un.ext (((z2.t z3).t z4).t z5)) rfl) ?_
  rintro _ w6 ⟨S6, rfl, z6, p6⟩
  have p6 := p6.dp 1
  refine Gm 3 [([10, 11], .bool (!y8))] J3z ?_
  refine Gi h (fun h10 h => ?_) fun h10 h => ?_
  ·
   rw [h10]
   refine Gn 4 [] (Yt 11110 B114 [0, 1] J42) ?_
   refine Goes.ld 3 (.tmp 3) 12 3 ⟨b3, 0, none⟩ (.i y5.2) (p6.c 0 0) ?_
   refine Gn 2 [(2, .i y5.2)] J42 ?_
   obtain rfl := sj h
   have p6 := p6.dp 0
   exact Goes.rt Tryz.f114 (.i y5.2) ⟨_, rfl, ((((z2.t z3).t z4).t z5).t z6), p6⟩
  ·
   rw [bf h10]
   refine Gn 5 [(2, .i 0)] J44 ?_
   obtain rfl := sj h
   have p6 := p6.dp 0
   exact Goes.rt Tryz.f114 (.i 0) ⟨_, rfl, ((((z2.t z3).t z4).t z5).t z6), p6⟩
 ·
  rw [bf h7]
  refine Gm 10 [([8, 9, 10], undef), ([11], .bool true), ([2], .i 0)] J44 ?_
  obtain rfl := sj h
  have p5 := (p5.dp 0).dp 0
  exact Goes.rt Tryz.f114 (.i 0) ⟨_, rfl, (((z2.t z3).t z4).t z5), p5⟩

def J47 := Ys 111 B53 []

def Post.zm (r : Bool) (v : Value) (w' : World) : Prop :=
 ∃ S', v = .bool r ∧ Ext S0 w0 S' w' ∧ Hp nz wz S' w' (Lr)

theorem W.zm (x0 : T26) (r : Bool) (h : M.a35 x0 = some r) {nz wz S0 w0 Lr} (u5 u6 u7) (p0 : Hp nz wz S0 w0 (Lr)) (um : x0.Set.length = 4) (un : Rd kT26 S0 w0 u5 u7 x0.L) (uo : x0.L.length = u6) :
  Calls Tryz.prog 53 #[(ag (vT26 x0 u5 u6 u7))] w0 (Rets (Post.zm nz wz S0 w0 Lr r)) := by
 subst uo
 refine Zf Tryz.f53 B53 5 ?_
 refine Gj 6 [(0, (ag (vT26 x0 u5 x0.L.length u7)))] fun junk => ?_
 delta M.a35 at h
 refine Gn 2 [] (Yt 10 B53 [0, 1] (Ys 11 B53 [])) ?_
 refine Ob 27 (.tmp 0) 1 0 (ag (vT26 x0 u5 x0.L.length u7)) (vT26 x0 u5 x0.L.length u7) p0 Goes.v fun b1 w2 z2 p2 => ?_
 refine Gn 4 [(2, .bool false)] (Yt 110 B53 [0, 1, 2, 3] J47) ?_
 refine Goes.ldN 27 (.tmp 1) 3 27 ⟨b1, 0, none⟩ (vT26 x0 u5 x0.L.length u7) (p2.pa 0 0) ?_
 refine Gb h fun y3 e4 h => ?_
 refine Gc (kc 114 [3] #[27]) 4 3 114 _ (W.zl x0 y3 e4 _ _ _ p2 um (un.ext z2) rfl) ?_
 rintro _ w3 ⟨S3, rfl, z3, p3⟩
 have p3 := p3.dp 0
 refine Gm 3 [([5, 2], .bool (decide (y3 > 0)))] J47 ?_
 obtain rfl := sj h
 exact Goes.rt Tryz.f53 (.bool (decide (y3 > 0))) ⟨_, rfl, (z2.t z3), p3⟩

def J4b := Ys 111 B214 []
def Q38 := Yq 110 B214

def Post.zn (r : Bool) (v : Value) (w' : World) : Prop :=
 ∃ S', v = .bool r ∧ Ext S0 w0 S' w' ∧ Hp nz wz S' w' (Lr)

theorem W.zn (x0 : List Int) (x1 : Int) (r : Bool) (h : M.a1r x0 x1 = some r) {nz wz S0 w0 Lr} (u2c) (p0 : Hp nz wz S0 w0 (Lr)) (fx0 : Els (kInt .u64) S0 w0 u2c x0) (lx0 : u2c.length = 4) :
  Calls Tryz.prog 214 #[.agg u2c.toArray, .int .u8 x1] w0 (Rets (Post.zn nz wz S0 w0 Lr r)) := by
 refine Zf Tryz.f214 B214 12 ?_
 refine Gj 14 [(0, .agg u2c.toArray), (1, .int .u8 x1)] fun junk => ?_
 delta M.a1r at h
 refine Gn 2 [] (Yt 10 B214 [0, 1] (Ys 11 B214 [])) ?_
 refine Op_.box 24 (.tmp 0) 2 0 (.agg u2c.toArray) u2c p0 Goes.v (by kernel_rfl) rfl fun b1 w2 z2 p2 => ?_
 replace p2 : Hp nz wz S0 w2 ((some b1, .row 24 u2c 4 0) :: Lr) := by rw [show (u2c).length = 4 from lx0] at p2; exact p2
 refine Gn 6 [(4, .bool false), (5, .int .u8 x1), (6, .int .u8 (iquo .u8 x1 64))] (Zr Q38 [2, 3, 4, 5, 6, 7, 8, 9] J4b) ?_
 refine Gg h fun g3 h => ?_
 refine Gg h fun g4 h => ?_
 refine Op_.ixA_n (K := (kInt .u64)) 24 (.tmp 2) (.tmp 6) 7 0 22 4 .u8 (iquo .u8 x1 64) 0 (gi x0 (iquo .u8 x1 64)) rfl p2 rfl (fx0.ext z2) (Els.len1 (fx0.ext z2) lx0 rfl) Goes.v (by kernel_rfl) (by kernel_rfl) (by kernel_rfl) (by kernel_rfl) g3 g4 fun _ q6 f5 => ?_
 obtain rfl := q6
 refine Goes.ld 22 (.tmp 7) 8 22 ⟨b1, (iquo .u8 x1 64 : Int).toNat * (kInt .u64).size, none⟩ (.u (gi x0 (iquo .u8 x1 64))) (f5 0 _ rfl) ?_
 refine Gn 2 [(9, .int .u8 x1), (10, .int .u8 (irem .u8 x1 64))] (Zr Q38 [6, 7, 8, 9] J4b) ?_
 refine Gg h fun g7 h => ?_
 refine Op_.binshr 22 (.tmp 8) (.tmp 10) 5 11 22 .u64 .u8 (gi x0 (iquo .u8 x1 64)) (irem .u8 x1 64) Goes.v (by kernel_rfl) (by kernel_rfl) g7 ?_
 refine Gm 4 [([12], .u (iand .u64 (ishr .u64 (gi x0 (iquo .u8 x1 64)) (irem .u8 x1 64)) 1)), ([13, 4], .bool (decide (iand .u64 (ishr .u64 (gi x0 (iquo .u8 x1 64)) (irem .u8 x1 64)) 1 = 1)))] J4b ?_
 obtain rfl := sj h
 have p2 := p2.dp 0
 exact Goes.rt Tryz.f214 (.bool (decide (iand .u64 (ishr .u64 (gi x0 (iquo .u8 x1 64)) (irem .u8 x1 64)) 1 = 1))) ⟨_, rfl, z2, p2⟩

def J4g := Ys 111 B184 []

def Post.zo (r : T218) (v : Value) (w' : World) : Prop :=
 ∃ S' u2d u2e u2f, v = (ag (vT218 r u2d u2e u2f)) ∧ Ext S0 w0 S' w' ∧ Hp nz wz S' w' (Lr) ∧ Rd kStr S' w' u2d u2f r.l ∧ r.l.length = u2e

theorem W.zo (r : T218) (h : M.a5 = some r) {nz wz S0 w0 Lr} (p0 : Hp nz wz S0 w0 (Lr)) :
  Calls Tryz.prog 184 #[] w0 (Rets (Post.zo nz wz S0 w0 Lr r)) := by
 refine Zf Tryz.f184 B184 2 ?_
 refine Gj 2 [] fun junk => ?_
 delta M.a5 at h
 refine Gn 2 [] (Yt 10 B184 [0] (Ys 11 B184 [])) ?_
 refine Oa 219 0 0 (.agg #[.slice none 0 0, .bool false]) [.slice none 0 0, .bool false] p0 Goes.v fun b1 w2 z2 p2 => ?_
 refine Gn 4 [(1, .agg #[.slice none 0 0, .bool false])] (Yt 110 B184 [1] J4g) ?_
 refine So 219 (.tmp 0) (.tmp 1) 0 0 b1 0 (.agg #[.slice none 0 0, .bool false]) [.slice none 0 0, .bool false] p2 rfl Goes.s fun w3 z3 p3 => ?_
 refine Gn 1 [] J4g ?_
 obtain rfl := sj h
 exact R1 Tryz.f184 (.cell 0 219) (.agg #[.slice none 0 0, .bool false]) (Rn b1 (p3.pa 0 0)) ⟨_, _, _, _, rfl, (z2.t z3), p3.drop, Rd.none_, rfl⟩

def Q3e := Yq 1110100 B181
def J4k := Zl Q3e (Zb 0 (Ys 1111 B181 []))
def J4l := Zc Q3e J4k
def J4n := Zb 1 (Ys 1110100111 B181 J4k)
def J4q := Ys 1110100110011 B181 J4n
def Q3j := Yq 1110100110010 B181
def J4u := Ys 11111 B181 []
def J4w := Ys 11110101 B181 J4u
def J4y := Ys 111111 B181 []

def Post.zp (r : T218) (v : Value) (w' : World) : Prop :=
 ∃ S' u2d u2e u2f, v = (ag (vT218 r u2d u2e u2f)) ∧ Ext S0 w0 S' w' ∧ Hp nz wz S' w' (Lr) ∧ Rd kStr S' w' u2d u2f r.l ∧ r.l.length = u2e

def L.zq : (List Int) × T218 × (List ByteArray) × Int → T218 → Prop := fun ⟨x1, x2v, x3, x5⟩ r => ∀ S1 w1, Ext S0 w0 S1 w1 → ∀ gx1 u2g gx2 u2h u2i u2j u2k Gx3 nx3 cx3 u2l (_ : Hp nz wz S1 w1 ((some gx1, .row 24 u2g 4 0) :: (some gx2, .row 219 (vT218 x2v (Gp u2h) u2i u2j) 2 0) :: (u2h, .row 9 u2k (u2j * kStr.size) 0) :: (Gx3, .row 9 u2l (cx3 * kStr.size) 0) :: Lr)) (_ : Els (kInt .u64) S1 w1 u2g x1) (_ : u2g.length = 4) (_ : Els kStr S1 w1 u2k x2v.l) (_ : x2v.l.length = u2i) (_ : Els kStr S1 w1 u2l x3) (_ : x3.length = nx3) (junk : Nat → Value),
 Goes Tryz.prog (base 181) J4l ⟨lfr 26 [(1, (pt gx1 0)), (2, (pt gx2 0)), (3, .slice (Gp Gx3) nx3 cx3), (5, .i x5)] junk, []⟩ w1 (Done Tryz.prog 181 (Rets (Post.zp nz wz S0 w0 Lr r)))

def L.zr : (List Int) × T218 × (List ByteArray) × Int → T218 → Prop := fun ⟨x1, x2v, x3, x5⟩ r => ∀ S1 w1, Ext S0 w0 S1 w1 → ∀ gx1 u2g gx2 u2h u2i u2j u2k Gx3 nx3 cx3 u2l (_ : Hp nz wz S1 w1 ((some gx1, .row 24 u2g 4 0) :: (some gx2, .row 219 (vT218 x2v (Gp u2h) u2i u2j) 2 0) :: (u2h, .row 9 u2k (u2j * kStr.size) 0) :: (Gx3, .row 9 u2l (cx3 * kStr.size) 0) :: Lr)) (_ : Els (kInt .u64) S1 w1 u2g x1) (_ : u2g.length = 4) (_ : Els kStr S1 w1 u2k x2v.l) (_ : x2v.l.length = u2i) (_ : Els kStr S1 w1 u2l x3) (_ : x3.length = nx3) (junk : Nat → Value),
 Goes Tryz.prog (base 181) J4n ⟨lfr 26 [(1, (pt gx1 0)), (2, (pt gx2 0)), (3, .slice (Gp Gx3) nx3 cx3), (5, .i x5)] junk, []⟩ w1 (Done Tryz.prog 181 (Rets (Post.zp nz wz S0 w0 Lr r)))

theorem W.zs {nz wz S0 w0 Lr} : (∀ a r, M.ab a = some r → (L.zq nz wz S0 w0 Lr) a r) ∧ (∀ a r, M.a1s a = some r → (L.zr nz wz S0 w0 Lr) a r) := by
 refine M.ab.mutual_partial_correctness (L.zq nz wz S0 w0 Lr) (L.zr nz wz S0 w0 Lr) ?_ ?_
 ·
  intro u2m u2n ⟨x1, x2v, x3, x5⟩ r h S1 w1 hx gx1 u2g gx2 u2h u2i u2j u2k Gx3 nx3 cx3 u2l p1 fx1 lx1 u2o u2p fx3 lx3 junk
  try dsimp only at h
  subst u2p
  subst lx3
  refine Gn 5 [(6, .bool (decide (x5 < 256)))] (Ys 111010010 B181 (Ys 111010011 B181 J4k)) ?_
  refine Gi h (fun h11 h => ?_) fun h11 h => ?_
  ·
   rw [dt h11]
   refine Gm 11 [([7, 4], .i x5)] (Zr Q3j [0, 1, 2, 3] J4q) ?_
   refine Op_.ldN 24 (.tmp 1) 8 24 ⟨gx1, 0, none⟩ u2g Goes.v (by kernel_rfl) (by kernel_rfl) (by rw [lx1]; kernel_rfl) (At_all (p1.mem 0 rfl)) ?_
   refine Gn 2 [(9, .i x5), (10, .int .u8 (wr .u8 x5))] (Zr Q3j [3] J4q) ?_
   refine Gb h fun y12 e13 h => ?_
   refine Gc (kc 214 [8, 10] #[24, 5]) 11 4 214 _ (W.zn x1 (wr .u8 x5) y12 e13 _ p1 fx1 lx1) ?_
   rintro _ w4 ⟨S4, rfl, z4, p4⟩
   refine Gn 1 [] J4q ?_
   refine Gi h (fun h14 h => ?_) fun h14 h => ?_
   ·
    rw [h14]
    refine Gn 5 [(12, .slice (Gp Gx3) x3.length cx3), (13, .i x5), (14, .int .u8 (wr .u8 x5))] (Yt 11101001100110 B181 [3, 4, 5, 6, 7] J4n) ?_
    have f16 : Els (kInt .u8) S4 w4 ([.int .u8 (wr .u8 x5)] : List Value) [wr .u8 x5] := by exact (Els.cons (K := (kInt .u8)) (vs := [.int .u8 (wr .u8 x5)]) (x := wr .u8 x5) rfl Els.nil)
    refine Om (.buildSlice 141 1 #[(0, (.tmp 14))]) 15 141 (fun b => .slice (Gp (some b)) 1 1) 5 ([.int .u8 (wr .u8 x5)] : List Value) (1 * (kInt .u8).size) p4 Goes.v fun b15 w5 z5 p5 => ?_
    obtain ⟨S6, z6, p6, f18⟩ := p5.freezeRd 0 rfl (f16.ext z5) (by decide)
    refine Op_.b2s_n 141 9 (.tmp 15) 16 9 5 (b2s [wr .u8 x5]) rfl rfl f18 Goes.v (by kernel_rfl) (by kernel_rfl) (by kernel_rfl) (by kernel_rfl) ?_
    have f20 : Els kStr S6 w5 ([.string (b2s [wr .u8 x5])] : List Value) [b2s [wr .u8 x5]] := by exact (Els.cons (K := kStr) (vs := [.string (b2s [wr .u8 x5])]) (x := b2s [wr .u8 x5]) rfl Els.nil)
    refine Om (.buildSlice 43 1 #[(0, (.tmp 16))]) 17 43 (fun b => .slice (Gp (some b)) 1 1) 9 ([.string (b2s [wr .u8 x5])] : List Value) (1 * kStr.size) p6 Goes.v fun b19 w7 z7 p7 => ?_
    refine Gg h fun g25 h => ?_
    refine On (K := kStr) 43 (.tmp 12) (.tmp 17) 18 43 9 5 (.string ⟨#[]⟩) 16 x3.length cx3 1 x3 [b2s [wr .u8 x5]] (x3 ++ [b2s [wr .u8 x5]]) (Gp (some b19)) 1 rfl rfl rfl p7 rfl (fx3.ext (((z4.t z5).t z6).t z7)) Goes.v (f20.ext z7) (src_own p7 (q := 0) rfl) g25 fun w8 G26 c27 u2q z8 p8 f29 => ?_
    refine Gn 2 [(3, .slice (Gp G26) ((x3 ++ [b2s [wr .u8 x5]]).length) c27)] J4n ?_
    have p8 := (p8.dp 0).dp 0
    exact Gj 26 [(1, (pt gx1 0)), (2, (pt gx2 0)), (3, .slice (Gp G26) ((x3 ++ [b2s [wr .u8 x5]]).length) c27), (5, .i x5)] (u2n _ _ h _ _ (((((hx.t z4).t z5).t z6).t z7).t z8) _ _ _ _ _ _ _ _ _ _ _ p8 (fx1.ext ((((z4.t z5).t z6).t z7).t z8)) lx1 (u2o.ext ((((z4.t z5).t z6).t z7).t z8)) rfl f29 rfl)
   ·
    rw [bf h14]
    refine Gn 2 [] J4n ?_
    exact Gj 26 [(1, (pt gx1 0)), (2, (pt gx2 0)), (3, .slice (Gp Gx3) x3.length cx3), (5, .i x5)] (u2n _ _ h _ _ (hx.t z4) _ _ _ _ _ _ _ _ _ _ _ p4 (fx1.ext z4) lx1 (u2o.ext z4) rfl (fx3.ext z4) rfl)
  ·
   rw [df h11]
   refine Gn 9 [(20, .slice (Gp Gx3) x3.length cx3), (21, .i (x3.length : Int)), (22, .bool (decide ((x3.length : Int) > 8)))] (Ys 111101 B181 J4u) ?_
   refine Gi h (fun h34 h => ?_) fun h34 h => ?_
   ·
    rw [dt h34]
    refine Gn 3 [] (Yt 11110100 B181 [0, 1] J4w) ?_
    refine Gb h fun y35 e36 h => ?_
    refine Gc (kc 184 [] #[]) 23 219 184 _ (W.zo y35 e36  p1 ) ?_
    rintro _ w9 ⟨S9, u2s, u2t, u2u, rfl, z9, p9, u2v, rfl⟩
    have p9 := (p9.dp 0).dp 2
    refine So 219 (.tmp 2) (.tmp 23) 0 0 gx2 0 (ag (vT218 y35 u2s y35.l.length u2u)) (vT218 y35 u2s y35.l.length u2u) p9 rfl Goes.s fun w10 z10 p10 => ?_
    refine Gn 1 [] J4w ?_
    obtain rfl := sj h
    have p10 := p10.dp 1
    exact R1 Tryz.f181 (.cell 2 219) (ag (vT218 y35 u2s y35.l.length u2u)) (Rn gx2 (p10.pa 0 0)) ⟨_, _, _, _, rfl, ((hx.t z9).t z10), p10.drop, (u2v.ext z10), rfl⟩
   ·
    rw [df h34]
    refine Gn 6 [(24, .slice (Gp Gx3) x3.length cx3), (25, .agg #[.slice (Gp Gx3) x3.length cx3, .bool true])] (Yt 111110 B181 [2] J4y) ?_
    refine So 219 (.tmp 2) (.tmp 25) 0 1 gx2 0 (.agg #[.slice (Gp Gx3) x3.length cx3, .bool true]) [.slice (Gp Gx3) x3.length cx3, .bool true] p1 rfl Goes.s fun w11 z11 p11 => ?_
    refine Gn 1 [] J4y ?_
    obtain ⟨S12, z12, p12, f37⟩ := p11.freezeRd 3 rfl (fx3.ext z11) (by decide)
    obtain rfl := sj h
    have p12 := ((p12.dp 0).dp 1).dp 1
    exact R1 Tryz.f181 (.cell 2 219) (.agg #[.slice (Gp Gx3) x3.length cx3, .bool true]) (Rn gx2 (p12.pa 0 0)) ⟨_, _, _, _, rfl, ((hx.t z11).t z12), p12.drop, f37, rfl⟩
 ·
  intro u2w u2x ⟨x1, x2v, x3, x5⟩ r h S1 w1 hx gx1 u2g gx2 u2h u2i u2j u2k Gx3 nx3 cx3 u2l p1 fx1 lx1 u2o u2p fx3 lx3 junk
  try dsimp only at h
  subst u2p
  subst lx3
  refine Gm 6 [([19, 5], .i (wr .i64 (x5 + 1)))] J4l ?_
  exact Gj 26 [(1, (pt gx1 0)), (2, (pt gx2 0)), (3, .slice (Gp Gx3) x3.length cx3), (5, .i (wr .i64 (x5 + 1)))] (u2x _ _ h _ _ hx _ _ _ _ _ _ _ _ _ _ _ p1 fx1 lx1 u2o rfl fx3 rfl)

theorem W.zq {nz wz S0 w0 Lr} : ∀ a r, M.ab a = some r → (L.zq nz wz S0 w0 Lr) a r := (W.zs).1

theorem W.zr {nz wz S0 w0 Lr} : ∀ a r, M.a1s a = some r → (L.zr nz wz S0 w0 Lr) a r := (W.zs).2


theorem W.zp (x0 : List Int) (r : T218) (h : M.a4d x0 = some r) {nz wz S0 w0 Lr} (u2c) (p0 : Hp nz wz S0 w0 (Lr)) (fx0 : Els (kInt .u64) S0 w0 u2c x0) (lx0 : u2c.length = 4) :
  Calls Tryz.prog 181 #[.agg u2c.toArray] w0 (Rets (Post.zp nz wz S0 w0 Lr r)) := by
 refine Zf Tryz.f181 B181 25 ?_
 refine Gj 26 [(0, .agg u2c.toArray)] fun junk => ?_
 delta M.a4d at h
 refine Gn 2 [] (Yt 10 B181 [0, 1] (Ys 11 B181 [])) ?_
 refine Op_.box 24 (.tmp 0) 1 0 (.agg u2c.toArray) u2c p0 Goes.v (by kernel_rfl) rfl fun b1 w2 z2 p2 => ?_
 replace p2 : Hp nz wz S0 w2 ((some b1, .row 24 u2c 4 0) :: Lr) := by rw [show (u2c).length = 4 from lx0] at p2; exact p2
 refine Oa 219 2 0 (.agg #[.slice none 0 0, .bool false]) [.slice none 0 0, .bool false] p2 Goes.v fun b3 w3 z3 p3 => ?_
 refine Gn 12 [(3, .slice none 0 0), (5, .i 0)] J4l ?_
 have p3 : Hp nz wz S0 w3 ((none, .row 9 [] (0 * kStr.size) 0) :: (some b3, .row 219 [.slice none 0 0, .bool false] 2 0) :: (some b1, .row 24 u2c 4 0) :: Lr) := p3.nilRow' 9
 have p3 : Hp nz wz S0 w3 ((none, .row 9 [] (0 * kStr.size) 0) :: (none, .row 9 [] (0 * kStr.size) 0) :: (some b3, .row 219 [.slice (Gp none) 0 0, .bool false] 2 0) :: (some b1, .row 24 u2c 4 0) :: Lr) := p3.nilRow' 9
 have p3 := (((p3.fr 0).fr 1).fr 2).fr 3
 exact Gj 26 [(1, (pt b1 0)), (2, (pt b3 0)), (3, .slice (Gp none) 0 0), (5, .i 0)] (W.zq _ _ h _ _ (z2.t z3) _ _ _ none 0 0 [] none 0 0 [] p3 (fx0.ext (z2.t z3)) lx0 (Els.nil (K := kStr)) rfl (Els.nil (K := kStr)) rfl)

def J53 := Yt 10 B183 [0] (Ys 11 B183 [])
def J55 := Yt 110 B183 [1] (Ys 111 B183 [])
def J57 := Yt 1110 B183 [1, 2] (Ys 1111 B183 [])
def J58 := Ys 11111 B183 []
def J59 := Ys 111101 B183 J58
def J5a := Ys 11110101 B183 J58
def J5b := Yt 11110100 B183 [0, 1] J5a
def J5c := Ys 111111 B183 []
def J5d := Yt 111110 B183 [2] J5c

def Post.zt (r : T218) (v : Value) (w' : World) : Prop :=
 ∃ S' u2d u2e u2f, v = (ag (vT218 r u2d u2e u2f)) ∧ Ext S0 w0 S' w' ∧ Hp nz wz S' w' (Lr) ∧ Rd kStr S' w' u2d u2f r.l ∧ r.l.length = u2e

theorem W.zt (x0 : List ByteArray) (r : T218) (h : M.ay x0 = some r) {nz wz S0 w0 Lr} (Gx0 nx0 cx0 u2y) (p0 : Hp nz wz S0 w0 ((Gx0, .row 9 u2y (cx0 * kStr.size) 0) :: Lr)) (fx0 : Els kStr S0 w0 u2y x0) (lx0 : x0.length = nx0) :
  Calls Tryz.prog 183 #[.slice (Gp Gx0) nx0 cx0] w0 (Rets (Post.zt nz wz S0 w0 Lr r)) := by
 subst lx0
 refine Zf Tryz.f183 B183 12 ?_
 refine Gj 13 [(0, .slice (Gp Gx0) x0.length cx0)] fun junk => ?_
 delta M.ay at h
 refine Gn 2 [] J53 ?_
 refine Oa 219 2 0 (.agg #[.slice none 0 0, .bool false]) [.slice none 0 0, .bool false] p0 Goes.v fun b2 w2 z2 p2 => ?_
 refine Gn 4 [(3, .slice (Gp Gx0) x0.length cx0)] J55 ?_
 have p2 := p2.fr 1
 refine Gg h fun g4 h => ?_
 refine Gc (kc 126 [3] #[43]) 4 0 126 _ (sortS_calls Tryz.sortS p2 (fx0.ext z2) rfl g4) ?_
 rintro _ w3 ⟨rfl, z3, cs5, p3, f6⟩
 refine Gn 4 [(5, .slice (Gp Gx0) x0.length cx0)] J57 ?_
 refine Gc (kc 57 [5] #[43]) 6 43 57 _ (compactS_calls (zs := (cmpL (srtS x0))) Tryz.compS p3 f6 (srtS_len rfl) rfl g4) ?_
 rintro _ w4 ⟨rfl, z4, cs7, p4, f8⟩
 refine Gm 9 [([0, 7], .slice (Gp Gx0) ((cmpL (srtS x0)).length) cx0), ([8], .i ((cmpL (srtS x0)).length : Int)), ([9], .bool (decide (((cmpL (srtS x0)).length : Int) > 32)))] J59 ?_
 refine Gi h (fun h9 h => ?_) fun h9 h => ?_
 ·
  rw [dt h9]
  refine Gn 3 [] J5b ?_
  refine Gb h fun y10 e11 h => ?_
  refine Gc (kc 184 [] #[]) 10 219 184 _ (W.zo y10 e11  p4 ) ?_
  rintro _ w5 ⟨S5, u2z, u30, u31, rfl, z5, p5, u32, rfl⟩
  refine So 219 (.tmp 2) (.tmp 10) 0 1 b2 0 (ag (vT218 y10 u2z y10.l.length u31)) (vT218 y10 u2z y10.l.length u31) p5 rfl Goes.s fun w6 z6 p6 => ?_
  refine Gn 1 [] J5a ?_
  obtain rfl := sj h
  have p6 := p6.dp 0
  exact R1 Tryz.f183 (.cell 2 219) (ag (vT218 y10 u2z y10.l.length u31)) (Rn b2 (p6.pa 0 0)) ⟨_, _, _, _, rfl, ((((z2.t z3).t z4).t z5).t z6), p6.drop, (u32.ext z6), rfl⟩
 ·
  rw [df h9]
  refine Gn 6 [(11, .slice (Gp Gx0) ((cmpL (srtS x0)).length) cx0), (12, .agg #[.slice (Gp Gx0) ((cmpL (srtS x0)).length) cx0, .bool true])] J5d ?_
  refine So 219 (.tmp 2) (.tmp 12) 0 1 b2 0 (.agg #[.slice (Gp Gx0) ((cmpL (srtS x0)).length) cx0, .bool true]) [.slice (Gp Gx0) ((cmpL (srtS x0)).length) cx0, .bool true] p4 rfl Goes.s fun w7 z7 p7 => ?_
  refine Gn 1 [] J5c ?_
  obtain ⟨S8, z8, p8, f12⟩ := p7.freezeRd 0 rfl (f8.ext z7) (by decide)
  obtain rfl := sj h
  have p8 := p8.dp 0
  exact R1 Tryz.f183 (.cell 2 219) (.agg #[.slice (Gp Gx0) ((cmpL (srtS x0)).length) cx0, .bool true]) (Rn b2 (p8.pa 0 0)) ⟨_, _, _, _, rfl, ((((z2.t z3).t z4).t z7).t z8), p8.drop, f12, rfl⟩

def J5e := Ys 11111 B231 []
def Q46 := Yq 11110100 B231
def J5g := Zl Q46 (Zb 0 J5e)
def J5h := Zc Q46 J5g
def J5j := Zb 1 (Ys 11110100111 B231 J5g)
def Q48 := Yq 1111010011001100 B231
def J5l := Zl Q48 (Zb 2 J5j)
def J5m := Zc Q48 J5l
def J5t := Ys 111111 B231 []
def J5y := Zb 3 (Ys 1111010011001100111 B231 J5l)
def Q4m := Yq 1111010011001100110011 B231
def J61 := Zc Q4m J5y
def J63 := Ys 1111010011001100110010101 B231 J61

def Post.zu (r : T218) (v : Value) (w' : World) : Prop :=
 ∃ S' u2d u2e u2f, v = (ag (vT218 r u2d u2e u2f)) ∧ Ext S0 w0 S' w' ∧ Hp nz wz S' w' (Lr) ∧ Rd kStr S' w' u2d u2f r.l ∧ r.l.length = u2e

def L.zv : T218 × T218 × (List ByteArray) × (List ByteArray) × Int × Int → T218 → Prop := fun ⟨x3v, x4v, x5, x20, x21, x22⟩ r => ∀ S1 w1, Ext S0 w0 S1 w1 → ∀ gx3 u33 u34 u35 gx4 u36 u37 u38 u39 Gx5 nx5 cx5 u3a u3b u3c u3d (_ : Hp nz wz S1 w1 ((some gx3, .row 219 (vT218 x3v u33 u34 u35) 2 0) :: (some gx4, .row 219 (vT218 x4v (Gp u36) u37 u38) 2 0) :: (u36, .row 9 u39 (u38 * kStr.size) 0) :: (Gx5, .row 9 u3a (cx5 * kStr.size) 0) :: Lr)) (_ : Rd kStr S1 w1 u33 u35 x3v.l) (_ : x3v.l.length = u34) (_ : Els kStr S1 w1 u39 x4v.l) (_ : x4v.l.length = u37) (_ : Els kStr S1 w1 u3a x5) (_ : x5.length = nx5) (_ : Rd kStr S1 w1 u3b u3d x20) (_ : x20.length = u3c) (junk : Nat → Value),
 Goes Tryz.prog (base 231) J5h ⟨lfr 50 [(3, (pt gx3 0)), (4, (pt gx4 0)), (5, .slice (Gp Gx5) nx5 cx5), (20, .slice u3b u3c u3d), (21, .i x21), (22, .i x22)] junk, []⟩ w1 (Done Tryz.prog 231 (Rets (Post.zu nz wz S0 w0 Lr r)))

def L.zw : T218 × T218 × (List ByteArray) × ByteArray × (List ByteArray) × Int × Int × (List ByteArray) × Int × Int → T218 → Prop := fun ⟨x3v, x4v, x5, x7, x20, x21, x22, x27, x28, x29⟩ r => ∀ S1 w1, Ext S0 w0 S1 w1 → ∀ gx3 u33 u34 u35 gx4 u36 u37 u38 u39 Gx5 nx5 cx5 u3a u3b u3c u3d u3e u3f u3g (_ : Hp nz wz S1 w1 ((some gx3, .row 219 (vT218 x3v u33 u34 u35) 2 0) :: (some gx4, .row 219 (vT218 x4v (Gp u36) u37 u38) 2 0) :: (u36, .row 9 u39 (u38 * kStr.size) 0) :: (Gx5, .row 9 u3a (cx5 * kStr.size) 0) :: Lr)) (_ : Rd kStr S1 w1 u33 u35 x3v.l) (_ : x3v.l.length = u34) (_ : Els kStr S1 w1 u39 x4v.l) (_ : x4v.l.length = u37) (_ : Els kStr S1 w1 u3a x5) (_ : x5.length = nx5) (_ : Rd kStr S1 w1 u3b u3d x20) (_ : x20.length = u3c) (_ : Rd kStr S1 w1 u3e u3g x27) (_ : x27.length = u3f) (junk : Nat → Value),
 Goes Tryz.prog (base 231) J5m ⟨lfr 50 [(3, (pt gx3 0)), (4, (pt gx4 0)), (5, .slice (Gp Gx5) nx5 cx5), (7, .string x7), (20, .slice u3b u3c u3d), (21, .i x21), (22, .i x22), (27, .slice u3e u3f u3g), (28, .i x28), (29, .i x29)] junk, []⟩ w1 (Done Tryz.prog 231 (Rets (Post.zu nz wz S0 w0 Lr r)))

theorem W.zx {nz wz S0 w0 Lr} : (∀ a r, M.ac a = some r → (L.zv nz wz S0 w0 Lr) a r) ∧ (∀ a r, M.az a = some r → (L.zw nz wz S0 w0 Lr) a r) := by
 refine M.ac.mutual_partial_correctness (L.zv nz wz S0 w0 Lr) (L.zw nz wz S0 w0 Lr) ?_ ?_
 ·
  intro u3h u3i ⟨x3v, x4v, x5, x20, x21, x22⟩ r h S1 w1 hx gx3 u33 u34 u35 gx4 u36 u37 u38 u39 Gx5 nx5 cx5 u3a u3b u3c u3d p1 u3j u25 u3k u3l fx5 lx5 u3m u3n junk
  try dsimp only at h
  subst u25
  subst u3l
  subst lx5
  subst u3n
  refine Gn 5 [(23, .bool (decide (x22 < x21)))] (Ys 1111010010 B231 (Ys 1111010011 B231 J5g)) ?_
  refine Gi h (fun h22 h => ?_) fun h22 h => ?_
  ·
   rw [dt h22]
   refine Gn 6 [] (Yt 1111010011000 B231 [0, 1, 2] (Ys 1111010011001 B231 J5j)) ?_
   refine Gg h fun g23 h => ?_
   refine Gg h fun g24 h => ?_
   refine Oi 43 (.tmp 20) (.tmp 22) 24 0 9 .i64 x22 (gi x20 x22) rfl rfl u3m Goes.v g23 g24 fun a25 _ f26 q27 => ?_
   obtain rfl := q27
   refine Goes.ld 9 (.tmp 24) 25 9 a25 (.string (gi x20 x22)) (f26.cell 0 _ rfl) ?_
   refine Gn 5 [(7, .string (gi x20 x22)), (26, (pt gx3 0))] (Yt 11110100110010 B231 [1, 2, 3] (Ys 11110100110011 B231 J5j)) ?_
   refine Goes.ld 43 (.tmp 26) 27 43 ⟨gx3, 0, none⟩ (.slice u33 x3v.l.length u35) (p1.c 0 0) ?_
   refine Gn 5 [(28, .i (x3v.l.length : Int)), (29, .i 0)] J5m ?_
   exact Gj 50 [(3, (pt gx3 0)), (4, (pt gx4 0)), (5, .slice (Gp Gx5) x5.length cx5), (7, .string (gi x20 x22)), (20, .slice u3b x20.length u3d), (21, .i x21), (22, .i x22), (27, .slice u33 x3v.l.length u35), (28, .i (x3v.l.length : Int)), (29, .i 0)] (u3i _ _ h _ _ hx _ _ _ _ _ _ _ _ _ _ _ _ _ _ _ _ _ _ _ p1 u3j rfl u3k rfl fx5 rfl u3m rfl u3j rfl)
  ·
   rw [df h22]
   refine Gn 5 [(48, .slice (Gp Gx5) x5.length cx5)] (Yt 111110 B231 [1, 2] J5t) ?_
   have p1 := p1.fr 3
   refine Gb h fun y32 e33 h => ?_
   refine Gc (kc 183 [48] #[43]) 49 219 183 _ (W.zt x5 y32 e33 _ _ _ _ p1 fx5 rfl) ?_
   rintro _ w7 ⟨S7, u3o, u3p, u3q, rfl, z7, p7, u3r, rfl⟩
   have p7 := p7.dp 0
   refine So 219 (.tmp 4) (.tmp 49) 0 0 gx4 0 (ag (vT218 y32 u3o y32.l.length u3q)) (vT218 y32 u3o y32.l.length u3q) p7 rfl Goes.s fun w8 z8 p8 => ?_
   refine Gn 1 [] J5t ?_
   obtain rfl := sj h
   have p8 := p8.dp 1
   exact R1 Tryz.f231 (.cell 4 219) (ag (vT218 y32 u3o y32.l.length u3q)) (Rn gx4 (p8.pa 0 0)) ⟨_, _, _, _, rfl, ((hx.t z7).t z8), p8.drop, (u3r.ext z8), rfl⟩
 ·
  intro u3s u3h u3t u3i ⟨x3v, x4v, x5, x7, x20, x21, x22, x27, x28, x29⟩ r h S1 w1 hx gx3 u33 u34 u35 gx4 u36 u37 u38 u39 Gx5 nx5 cx5 u3a u3b u3c u3d u3e u3f u3g p1 u3j u25 u3k u3l fx5 lx5 u3m u3n u3u u3v junk
  try dsimp only at h
  subst u25
  subst u3l
  subst lx5
  subst u3n
  subst u3v
  refine Gn 5 [(30, .bool (decide (x29 < x28)))] (Ys 111101001100110010 B231 (Ys 111101001100110011 B231 J5l)) ?_
  refine Gi h (fun h34 h => ?_) fun h34 h => ?_
  ·
   rw [dt h34]
   refine Gn 6 [] (Yt 111101001100110011000 B231 [0, 1, 2] (Ys 111101001100110011001 B231 J5y)) ?_
   refine Gg h fun g35 h => ?_
   refine Gg h fun g36 h => ?_
   refine Oi 43 (.tmp 27) (.tmp 29) 31 0 9 .i64 x29 (gi x27 x29) rfl rfl u3u Goes.v g35 g36 fun a37 _ f38 q39 => ?_
   obtain rfl := q39
   refine Goes.ld 9 (.tmp 31) 32 9 a37 (.string (gi x27 x29)) (f38.cell 0 _ rfl) ?_
   refine Gm 12 [([9, 35], .string (gi x27 x29)), ([33], .string x7), ([34], .i (x7.size : Int)), ([36], .i ((gi x27 x29).size : Int)), ([37], .i (wr .i64 ((x7.size : Int) + ((gi x27 x29).size : Int)))), ([38], .bool (decide (wr .i64 ((x7.size : Int) + ((gi x27 x29).size : Int)) > 32)))] (Ys 11110100110011001100101 B231 J61) ?_
   refine Gi h (fun h40 h => ?_) fun h40 h => ?_
   ·
    rw [dt h40]
    refine Gn 3 [] (Yt 1111010011001100110010100 B231 [0, 1] J63) ?_
    refine Gb h fun y41 e42 h => ?_
    refine Gc (kc 184 [] #[]) 39 219 184 _ (W.zo y41 e42  p1 ) ?_
    rintro _ w9 ⟨S9, u2s, u2t, u2u, rfl, z9, p9, u2v, rfl⟩
    have p9 := (p9.dp 0).dp 2
    refine So 219 (.tmp 4) (.tmp 39) 0 0 gx4 0 (ag (vT218 y41 u2s y41.l.length u2u)) (vT218 y41 u2s y41.l.length u2u) p9 rfl Goes.s fun w10 z10 p10 => ?_
    refine Gn 1 [] J63 ?_
    obtain rfl := sj h
    have p10 := p10.dp 1
    exact R1 Tryz.f231 (.cell 4 219) (ag (vT218 y41 u2s y41.l.length u2u)) (Rn gx4 (p10.pa 0 0)) ⟨_, _, _, _, rfl, ((hx.t z9).t z10), p10.drop, (u2v.ext z10), rfl⟩
   ·
    rw [df h40]
    refine Gn 6 [(40, .slice (Gp Gx5) x5.length cx5), (41, .string x7), (42, .string (gi x27 x29))] (Zr Q4m [3, 4, 5, 6] J5y) ?_
    refine Gg h fun g43 h => ?_
    refine Op_.cat_n 9 (.tmp 41) (.tmp 42) 9 43 9 x7 (gi x27 x29) (x7 ++ (gi x27 x29)) rfl Goes.v (by kernel_rfl) (by kernel_rfl) g43 ?_
    have f45 : Els kStr S1 w1 ([.string (x7 ++ (gi x27 x29))] : List Value) [x7 ++ (gi x27 x29)] := by exact (Els.cons (K := kStr) (vs := [.string (x7 ++ (gi x27 x29))]) (x := x7 ++ (gi x27 x29)) rfl Els.nil)
    refine Om (.buildSlice 43 1 #[(0, (.tmp 43))]) 44 43 (fun b => .slice (Gp (some b)) 1 1) 9 ([.string (x7 ++ (gi x27 x29))] : List Value) (1 * kStr.size) p1 Goes.v fun b44 w11 z11 p11 => ?_
    refine Gg h fun g50 h => ?_
    refine On (K := kStr) 43 (.tmp 40) (.tmp 44) 45 43 9 4 (.string ⟨#[]⟩) 16 x5.length cx5 1 x5 [x7 ++ (gi x27 x29)] (x5 ++ [x7 ++ (gi x27 x29)]) (Gp (some b44)) 1 rfl rfl rfl p11 rfl (fx5.ext z11) Goes.v (f45.ext z11) (src_own p11 (q := 0) rfl) g50 fun w12 G51 c52 u3w z12 p12 f54 => ?_
    refine Gm 8 [([5], .slice (Gp G51) ((x5 ++ [x7 ++ (gi x27 x29)]).length) c52), ([46, 29], .i (wr .i64 (x29 + 1)))] J5m ?_
    have p12 := p12.dp 0
    exact Gj 50 [(3, (pt gx3 0)), (4, (pt gx4 0)), (5, .slice (Gp G51) ((x5 ++ [x7 ++ (gi x27 x29)]).length) c52), (7, .string x7), (20, .slice u3b x20.length u3d), (21, .i x21), (22, .i x22), (27, .slice u3e x27.length u3g), (28, .i x28), (29, .i (wr .i64 (x29 + 1)))] (u3i _ _ h _ _ ((hx.t z11).t z12) _ _ _ _ _ _ _ _ _ _ _ _ _ _ _ _ _ _ _ p12 (u3j.ext (z11.t z12)) rfl (u3k.ext (z11.t z12)) rfl f54 rfl (u3m.ext (z11.t z12)) rfl (u3u.ext (z11.t z12)) rfl)
  ·
   rw [df h34]
   refine Gm 8 [([47, 22], .i (wr .i64 (x22 + 1)))] J5h ?_
   exact Gj 50 [(3, (pt gx3 0)), (4, (pt gx4 0)), (5, .slice (Gp Gx5) x5.length cx5), (20, .slice u3b x20.length u3d), (21, .i x21), (22, .i (wr .i64 (x22 + 1)))] (u3t _ _ h _ _ hx _ _ _ _ _ _ _ _ _ _ _ _ _ _ _ _ p1 u3j rfl u3k rfl fx5 rfl u3m rfl)

theorem W.zv {nz wz S0 w0 Lr} : ∀ a r, M.ac a = some r → (L.zv nz wz S0 w0 Lr) a r := (W.zx).1

theorem W.zw {nz wz S0 w0 Lr} : ∀ a r, M.az a = some r → (L.zw nz wz S0 w0 Lr) a r := (W.zx).2

def J66 := Ys 111 B231 []
def J67 := Ys 1101 B231 J66
def J68 := Ys 110101 B231 J66

def L.zy : T218 × T218 × T218 × Bool → T218 → Prop := fun ⟨x2v, x3v, x4v, x17⟩ r => ∀ S1 w1, Ext S0 w0 S1 w1 → ∀ gx2 u3x u2i u2j gx3 u33 u34 u35 gx4 u36 u37 u38 u39 (_ : Hp nz wz S1 w1 ((some gx2, .row 219 (vT218 x2v u3x u2i u2j) 2 0) :: (some gx3, .row 219 (vT218 x3v u33 u34 u35) 2 0) :: (some gx4, .row 219 (vT218 x4v (Gp u36) u37 u38) 2 0) :: (u36, .row 9 u39 (u38 * kStr.size) 0) :: Lr)) (_ : Rd kStr S1 w1 u3x u2j x2v.l) (_ : x2v.l.length = u2i) (_ : Rd kStr S1 w1 u33 u35 x3v.l) (_ : x3v.l.length = u34) (_ : Els kStr S1 w1 u39 x4v.l) (_ : x4v.l.length = u37) (junk : Nat → Value),
 Goes Tryz.prog (base 231) J67 ⟨lfr 50 [(2, (pt gx2 0)), (3, (pt gx3 0)), (4, (pt gx4 0)), (17, .bool x17)] junk, []⟩ w1 (Done Tryz.prog 231 (Rets (Post.zu nz wz S0 w0 Lr r)))

theorem W.zy {nz wz S0 w0 Lr} : ∀ a r, M.a2b a = some r → L.zy nz wz S0 w0 Lr a r := by
 intro ⟨x2v, x3v, x4v, x17⟩ r h S1 w1 hx gx2 u3x u2i u2j gx3 u33 u34 u35 gx4 u36 u37 u38 u39 p1 u2o u2p u3j u25 u3k u3l junk
 rw [M.a2b] at h
 try dsimp only at h
 subst u2p
 subst u25
 subst u3l
 refine Gi h (fun h14 h => ?_) fun h14 h => ?_
 ·
  rw [h14]
  refine Gn 3 [] (Yt 110100 B231 [0, 1] J68) ?_
  refine Gb h fun y15 e16 h => ?_
  refine Gc (kc 184 [] #[]) 18 219 184 _ (W.zo y15 e16  p1 ) ?_
  rintro _ w5 ⟨S5, u2z, u30, u31, rfl, z5, p5, u32, rfl⟩
  have p5 := (p5.dp 0).dp 0
  refine So 219 (.tmp 4) (.tmp 18) 0 0 gx4 0 (ag (vT218 y15 u2z y15.l.length u31)) (vT218 y15 u2z y15.l.length u31) p5 rfl Goes.s fun w6 z6 p6 => ?_
  refine Gn 1 [] J68 ?_
  obtain rfl := sj h
  have p6 := p6.dp 1
  exact R1 Tryz.f231 (.cell 4 219) (ag (vT218 y15 u2z y15.l.length u31)) (Rn gx4 (p6.pa 0 0)) ⟨_, _, _, _, rfl, ((hx.t z5).t z6), p6.drop, (u32.ext z6), rfl⟩
 ·
  rw [bf h14]
  refine Gn 10 [(5, .slice none 0 0), (19, (pt gx2 0))] (Yt 111100 B231 [1, 2, 3] (Ys 111101 B231 J5e)) ?_
  refine Goes.ld 43 (.tmp 19) 20 43 ⟨gx2, 0, none⟩ (.slice u3x x2v.l.length u2j) (p1.c 0 0) ?_
  refine Gn 5 [(21, .i (x2v.l.length : Int)), (22, .i 0)] J5h ?_
  have p1 := p1.dp 0
  have p1 : Hp nz wz S1 w1 ((none, .row 9 [] (0 * kStr.size) 0) :: (some gx3, .row 219 (vT218 x3v u33 x3v.l.length u35) 2 0) :: (some gx4, .row 219 (vT218 x4v (Gp u36) x4v.l.length u38) 2 0) :: (u36, .row 9 u39 (u38 * kStr.size) 0) :: Lr) := p1.nilRow' 9
  have p1 := (((p1.fr 0).fr 3).fr 3).fr 3
  exact Gj 50 [(3, (pt gx3 0)), (4, (pt gx4 0)), (5, .slice (Gp none) 0 0), (20, .slice u3x x2v.l.length u2j), (21, .i (x2v.l.length : Int)), (22, .i 0)] (W.zv _ _ h _ _ hx _ _ _ _ _ _ _ _ _ none 0 0 [] _ _ _ p1 u3j rfl u3k rfl (Els.nil (K := kStr)) rfl u2o rfl)

def Q4y := Yq 1100 B231

theorem W.zu (x0 : T218) (x1 : T218) (r : T218) (h : M.a2c x0 x1 = some r) {nz wz S0 w0 Lr} (u3y u3z u40 u41 u42 u43) (p0 : Hp nz wz S0 w0 (Lr)) (u44 : Rd kStr S0 w0 u3y u40 x0.l) (u45 : x0.l.length = u3z) (u46 : Rd kStr S0 w0 u41 u43 x1.l) (u47 : x1.l.length = u42) :
  Calls Tryz.prog 231 #[(ag (vT218 x0 u3y u3z u40)), (ag (vT218 x1 u41 u42 u43))] w0 (Rets (Post.zu nz wz S0 w0 Lr r)) := by
 subst u45
 subst u47
 refine Zf Tryz.f231 B231 48 ?_
 refine Gj 50 [(0, (ag (vT218 x0 u3y x0.l.length u40))), (1, (ag (vT218 x1 u41 x1.l.length u43)))] fun junk => ?_
 delta M.a2c at h
 refine Gn 2 [] (Yt 10 B231 [0, 1, 2] (Ys 11 B231 [])) ?_
 refine Ob 219 (.tmp 0) 2 0 (ag (vT218 x0 u3y x0.l.length u40)) (vT218 x0 u3y x0.l.length u40) p0 Goes.v fun b1 w2 z2 p2 => ?_
 refine Ob 219 (.tmp 1) 3 0 (ag (vT218 x1 u41 x1.l.length u43)) (vT218 x1 u41 x1.l.length u43) p2 Goes.v fun b3 w3 z3 p3 => ?_
 refine Oa 219 4 0 (.agg #[.slice none 0 0, .bool false]) [.slice none 0 0, .bool false] p3 Goes.v fun b5 w4 z4 p4 => ?_
 refine Gn 5 [(10, (pt b1 1))] (Zr Q4y [1, 2, 3, 4, 5, 6, 7] J67) ?_
 refine Goes.ld 4 (.tmp 10) 11 4 ⟨b1, 1, none⟩ (.bool x0.known) (p4.c 2 1) ?_
 refine Gm 2 [([12, 13], .bool (!x0.known))] (Zr Q4y [4, 5, 6, 7] J67) ?_
 refine Gi h (fun h7 h => ?_) fun h7 h => ?_
 ·
  rw [h7]
  have p4 : Hp nz wz S0 w4 ((some b5, .row 219 [.slice none 0 0, .bool false] 2 0) :: (some b3, .row 219 (vT218 x1 u41 x1.l.length u43) 2 0) :: (some b1, .row 219 [.slice u3y x0.l.length u40, .bool true] 2 0) :: Lr) := by simp only [vT26, wT29, vT218, vT134, vT370, h7] at p4; exact p4
  refine Gn 1 [(14, (pt b3 1))] (Zr Q4y [5, 6, 7] J67) ?_
  refine Goes.ld 4 (.tmp 14) 15 4 ⟨b3, 1, none⟩ (.bool x1.known) (p4.c 1 1) ?_
  refine Gm 3 [([16, 17], .bool (!x1.known))] J67 ?_
  have p4 : Hp nz wz S0 w4 ((none, .row 9 [] (0 * kStr.size) 0) :: (some b5, .row 219 [.slice none 0 0, .bool false] 2 0) :: (some b3, .row 219 (vT218 x1 u41 x1.l.length u43) 2 0) :: (some b1, .row 219 [.slice u3y x0.l.length u40, .bool true] 2 0) :: Lr) := p4.nilRow' 9
  have p4 := (((p4.fr 0).fr 1).fr 2).fr 3
  exact Gj 50 [(2, (pt b1 0)), (3, (pt b3 0)), (4, (pt b5 0)), (17, .bool (!x1.known))] (W.zy _ _ h _ _ ((z2.t z3).t z4) _ _ _ _ _ _ _ _ _ none 0 0 [] p4 (u44.ext ((z2.t z3).t z4)) rfl (u46.ext ((z2.t z3).t z4)) rfl (Els.nil (K := kStr)) rfl)
 ·
  have h7' := bf h7
  rw [h7']
  have p4 : Hp nz wz S0 w4 ((some b5, .row 219 [.slice none 0 0, .bool false] 2 0) :: (some b3, .row 219 (vT218 x1 u41 x1.l.length u43) 2 0) :: (some b1, .row 219 [.slice u3y x0.l.length u40, .bool false] 2 0) :: Lr) := by simp only [vT26, wT29, vT218, vT134, vT370, h7'] at p4; exact p4
  refine Gm 5 [([14, 15, 16], undef), ([17], .bool true)] J67 ?_
  have p4 : Hp nz wz S0 w4 ((none, .row 9 [] (0 * kStr.size) 0) :: (some b5, .row 219 [.slice none 0 0, .bool false] 2 0) :: (some b3, .row 219 (vT218 x1 u41 x1.l.length u43) 2 0) :: (some b1, .row 219 [.slice u3y x0.l.length u40, .bool false] 2 0) :: Lr) := p4.nilRow' 9
  have p4 := (((p4.fr 0).fr 1).fr 2).fr 3
  exact Gj 50 [(2, (pt b1 0)), (3, (pt b3 0)), (4, (pt b5 0)), (17, .bool true)] (W.zy _ _ h _ _ ((z2.t z3).t z4) _ _ _ _ _ _ _ _ _ none 0 0 [] p4 (u44.ext ((z2.t z3).t z4)) rfl (u46.ext ((z2.t z3).t z4)) rfl (Els.nil (K := kStr)) rfl)

def Post.zz (r : T218) (v : Value) (w' : World) : Prop :=
 ∃ S' u2d u2e u2f, v = (ag (vT218 r u2d u2e u2f)) ∧ Ext S0 w0 S' w' ∧ Hp nz wz S' w' (Lr) ∧ Rd kStr S' w' u2d u2f r.l ∧ r.l.length = u2e

theorem W.zz (r : T218) (h : M.a36 = some r) {nz wz S0 w0 Lr} (p0 : Hp nz wz S0 w0 (Lr)) :
  Calls Tryz.prog 183 #[.slice none 0 0] w0 (Rets (Post.zz nz wz S0 w0 Lr r)) := by
 refine Zf Tryz.f183 B183 12 ?_
 refine Gj 13 [(0, .slice none 0 0)] fun junk => ?_
 delta M.a36 at h
 refine Gn 2 [] J53 ?_
 refine Oa 219 2 0 (.agg #[.slice none 0 0, .bool false]) [.slice none 0 0, .bool false] p0 Goes.v fun b1 w2 z2 p2 => ?_
 refine Gn 4 [(3, .slice none 0 0)] J55 ?_
 have p2 : Hp nz wz S0 w2 ((none, .row 9 [] (0 * kStr.size) 0) :: (some b1, .row 219 [.slice none 0 0, .bool false] 2 0) :: Lr) := p2.nilRow' 9
 refine Gg h fun g4 h => ?_
 refine Gc (kc 126 [3] #[43]) 4 0 126 _ (sortS_calls Tryz.sortS p2 (Els.nil (K := kStr)) rfl g4) ?_
 rintro _ w3 ⟨rfl, z3, cs5, p3, f6⟩
 refine Gn 4 [(5, .slice (Gp none) 0 0)] J57 ?_
 refine Gc (kc 57 [5] #[43]) 6 43 57 _ (compactS_calls (zs := (cmpL (srtS ([] : List ByteArray)))) Tryz.compS p3 f6 (srtS_len rfl) rfl g4) ?_
 rintro _ w4 ⟨rfl, z4, cs7, p4, f8⟩
 refine Gm 9 [([0, 7], .slice (Gp none) ((cmpL (srtS ([] : List ByteArray))).length) 0), ([8], .i ((cmpL (srtS ([] : List ByteArray))).length : Int)), ([9], .bool (decide (((cmpL (srtS ([] : List ByteArray))).length : Int) > 32)))] J59 ?_
 refine Gi h (fun h9 h => ?_) fun h9 h => ?_
 ·
  rw [dt h9]
  refine Gn 3 [] J5b ?_
  refine Gb h fun y10 e11 h => ?_
  refine Gc (kc 184 [] #[]) 10 219 184 _ (W.zo y10 e11  p4 ) ?_
  rintro _ w5 ⟨S5, u2z, u30, u31, rfl, z5, p5, u32, rfl⟩
  have p5 := p5.dp 0
  refine So 219 (.tmp 2) (.tmp 10) 0 0 b1 0 (ag (vT218 y10 u2z y10.l.length u31)) (vT218 y10 u2z y10.l.length u31) p5 rfl Goes.s fun w6 z6 p6 => ?_
  refine Gn 1 [] J5a ?_
  obtain rfl := sj h
  exact R1 Tryz.f183 (.cell 2 219) (ag (vT218 y10 u2z y10.l.length u31)) (Rn b1 (p6.pa 0 0)) ⟨_, _, _, _, rfl, ((((z2.t z3).t z4).t z5).t z6), p6.drop, (u32.ext z6), rfl⟩
 ·
  rw [df h9]
  refine Gn 6 [(11, .slice (Gp none) ((cmpL (srtS ([] : List ByteArray))).length) 0), (12, .agg #[.slice (Gp none) ((cmpL (srtS ([] : List ByteArray))).length) 0, .bool true])] J5d ?_
  refine So 219 (.tmp 2) (.tmp 12) 0 1 b1 0 (.agg #[.slice (Gp none) ((cmpL (srtS ([] : List ByteArray))).length) 0, .bool true]) [.slice (Gp none) ((cmpL (srtS ([] : List ByteArray))).length) 0, .bool true] p4 rfl Goes.s fun w7 z7 p7 => ?_
  refine Gn 1 [] J5c ?_
  obtain ⟨S8, z8, p8, f12⟩ := p7.freezeRd 0 rfl (f8.ext z7) (by decide)
  obtain rfl := sj h
  have p8 := p8.dp 0
  exact R1 Tryz.f183 (.cell 2 219) (.agg #[.slice (Gp none) ((cmpL (srtS ([] : List ByteArray))).length) 0, .bool true]) (Rn b1 (p8.pa 0 0)) ⟨_, _, _, _, rfl, ((((z2.t z3).t z4).t z7).t z8), p8.drop, f12, rfl⟩

def J6h := Ys 111 B232 []
def J6i := Ys 1111 B232 []
def J6j := Ys 111011 B232 J6i
def Q53 := Yq 1110110 B232
def J6o := Ys 11111 B232 []

def Post.z10 (r : List ByteArray) (v : Value) (w' : World) : Prop :=
 ∃ S' Gq nq cq csq, v = .slice (Gp Gq) nq cq ∧ Ext S0 w0 S' w' ∧ Hp nz wz S' w' ((Gq, .row 9 csq (cq * kStr.size) 0) :: Lr) ∧ Els kStr S' w' csq r ∧ r.length = nq

def L.z11 : Int → (List ByteArray) → Prop := fun x1 r => ∀ S1 w1, Ext S0 w0 S1 w1 → ∀ (_ : Hp nz wz S1 w1 (Lr)) (junk : Nat → Value),
 Goes Tryz.prog (base 232) J6h ⟨lfr 27 [(0, .slice none 0 0), (1, .i x1)] junk, []⟩ w1 (Done Tryz.prog 232 (Rets (Post.z10 nz wz S0 w0 Lr r)))

theorem W.z11 {nz wz S0 w0 Lr} : ∀ a r, M.a5y a = some r → L.z11 nz wz S0 w0 Lr a r := by
 intro x1 r h S1 w1 hx p1 junk
 rw [M.a5y] at h
 try dsimp only at h
 refine Gm 14 [([8], .i x1), ([9, 11], .slice none 0 0), ([10, 12, 13], .i 0), ([14, 1], .i (wr .i64 (x1 - 0)))] (Yt 111010 B232 [0, 1] J6j) ?_
 refine Gn 3 [(15, .i (wr .i64 (x1 - 0))), (16, .bool (decide (wr .i64 (x1 - 0) > 0)))] J6j ?_
 refine Gi h (fun h2 h => ?_) fun h2 h => ?_
 ·
  rw [dt h2]
  refine Gm 5 [([17, 18], .slice none 0 0), ([19], .i 0)] (Zr Q53 [3, 4, 5, 6, 7, 8, 9] J6i) ?_
  refine Op_.slN (sz := 1) 43 (.tmp 17) none (some (.tmp 19)) 20 43 9 Goes.v (by kernel_rfl) (by kernel_rfl) (by kernel_rfl) Bnd.no (Bnd.at_ .i64 (by kernel_rfl)) ?_
  refine Gn 1 [(21, .i (wr .i64 (x1 - 0)))] (Zr Q53 [5, 6, 7, 8, 9] J6i) ?_
  have p1 : Hp nz wz S1 w1 ((none, .row 9 [] (0 * kStr.size) 0) :: Lr) := p1.nilRow' 9
  refine Gg h fun g7 h => ?_
  refine Gg h fun g8 h => ?_
  refine Gl h fun v9 e10 h => ?_
  refine Op_.apz_n (K := kStr) 43 3 (.tmp 20) (.tmp 21) 22 43 9 0 (.string ⟨#[]⟩) 16 0 0 ([] : List ByteArray) ((⟨#[]⟩ : ByteArray) : ByteArray) v9 .i64 .i64 (wr .i64 (x1 - 0)) rfl e10 p1 rfl (Els.nil (K := kStr)) Goes.v (by kernel_rfl) (by kernel_rfl) (by kernel_rfl) (by kernel_rfl) (by kernel_rfl) rfl rfl rfl (fun _ _ => rfl) g7 (by have := g8; omega) g8 fun w2 G11 c12 u48 z2 p2 f14 => ?_
  refine Gn 2 [(23, .slice none 0 0), (24, .i 0)] (Zr Q53 [8, 9] J6i) ?_
  refine Op_.slO (K := kStr) 43 (.tmp 22) (.tmp 24) 25 43 9 .i64 0 0 (sl v9 0 0) rfl rfl p2 rfl rfl (by decide) f14 Goes.v (by kernel_rfl) (by kernel_rfl) (by kernel_rfl) (by kernel_rfl) (by decide : (0 : Int) ≤ 0) (Int.natCast_nonneg _) fun u49 p2 f16 => ?_
  refine Gm 7 [([0, 26, 4], .slice (Gp G11) ((sl v9 0 0).length) c12)] J6o ?_
  obtain rfl := sj h
  exact Goes.rt Tryz.f232 (.slice (Gp G11) ((sl v9 0 0).length) c12) ⟨_, _, _, _, _, rfl, (hx.t z2), p2, f16, rfl⟩
 ·
  rw [df h2]
  refine Gm 7 [([26, 4], .slice none 0 0)] J6o ?_
  have p1 : Hp nz wz S1 w1 ((none, .row 9 [] (0 * kStr.size) 0) :: Lr) := p1.nilRow' 9
  obtain rfl := sj h
  exact Goes.rt Tryz.f232 (.slice (Gp none) 0 0) ⟨_, _, _, _, _, rfl, hx, p1, (Els.nil (K := kStr)), rfl⟩


theorem W.z10 (x1 : Int) (r : List ByteArray) (h : M.a4e x1 = some r) {nz wz S0 w0 Lr} (p0 : Hp nz wz S0 w0 (Lr)) :
  Calls Tryz.prog 232 #[.slice none 0 0, .i x1] w0 (Rets (Post.z10 nz wz S0 w0 Lr r)) := by
 refine Zf Tryz.f232 B232 25 ?_
 refine Gj 27 [(0, .slice none 0 0), (1, .i x1)] fun junk => ?_
 delta M.a4e at h
 refine Gn 10 [(4, .slice none 0 0), (5, .i x1), (6, .bool (decide (x1 < 0)))] (Ys 1101 B232 J6h) ?_
 refine Gi h (fun h1 h => ?_) fun h1 h => ?_
 ·
  rw [dt h1]
  refine Gn 2 [] (Yt 11010 B232 [0, 1] J6h) ?_
  cases h
 ·
  rw [df h1]
  refine Gn 2 [] J6h ?_
  exact Gj 27 [(0, .slice none 0 0), (1, .i x1)] (W.z11 _ _ h _ _ (Ext.refl S0 w0) p0)

def Q58 := Yq 111110100 B185
def J6t := Zl Q58 (Zb 2 (Ys 111111 B185 []))
def J6u := Zc Q58 J6t
def J6y := Zb 3 (Ys 111110100111 B185 J6t)
def Q5c := Yq 11111010011001 B185

def Post.z12 (r : List ByteArray) (v : Value) (w' : World) : Prop :=
 ∃ S' Gq nq cq csq, v = .slice (Gp Gq) nq cq ∧ Ext S0 w0 S' w' ∧ Hp nz wz S' w' ((Gq, .row 9 csq (cq * kStr.size) 0) :: Lr) ∧ Els kStr S' w' csq r ∧ r.length = nq

def L.z13 : (List ByteArray) × (List (List ByteArray)) × Int × Int → (List ByteArray) → Prop := fun ⟨x6, x25, x26, x27⟩ r => ∀ S1 w1, Ext S0 w0 S1 w1 → ∀ Gx6 nx6 cx6 u4a u4b u4c u4d (_ : Hp nz wz S1 w1 ((Gx6, .row 9 u4a (cx6 * kStr.size) 0) :: Lr)) (_ : Els kStr S1 w1 u4a x6) (_ : x6.length = nx6) (_ : Rd (kSl kStr) S1 w1 u4b u4d x25) (_ : x25.length = u4c) (junk : Nat → Value),
 Goes Tryz.prog (base 185) J6u ⟨lfr 36 [(6, .slice (Gp Gx6) nx6 cx6), (25, .slice u4b u4c u4d), (26, .i x26), (27, .i x27)] junk, []⟩ w1 (Done Tryz.prog 185 (Rets (Post.z12 nz wz S0 w0 Lr r)))

theorem W.z13 {nz wz S0 w0 Lr} : ∀ a r, M.a10 a = some r → (L.z13 nz wz S0 w0 Lr) a r := by
 refine M.a10.partial_correctness (motive := (L.z13 nz wz S0 w0 Lr)) ?_
 intro u4e u4f ⟨x6, x25, x26, x27⟩ r h S1 w1 hx Gx6 nx6 cx6 u4a u4b u4c u4d p1 fx6 lx6 u4g u4h junk
 try dsimp only at h
 subst lx6
 subst u4h
 refine Gn 5 [(28, .bool (decide (x27 < x26)))] (Ys 11111010010 B185 (Ys 11111010011 B185 J6t)) ?_
 refine Gi h (fun h15 h => ?_) fun h15 h => ?_
 ·
  rw [dt h15]
  refine Gn 6 [] (Yt 11111010011000 B185 [0, 1, 2] (Zc Q5c J6y)) ?_
  refine Gg h fun g16 h => ?_
  refine Gg h fun g17 h => ?_
  refine Oi 335 (.tmp 25) (.tmp 27) 29 0 43 .i64 x27 (gi x25 x27) rfl rfl u4g Goes.v g16 g17 fun a18 _ f19 q20 => ?_
  obtain ⟨A21, c22, rfl, f23⟩ := q20
  refine Goes.ld 43 (.tmp 29) 30 43 a18 (.slice A21 ((gi x25 x27).length) c22) (f19.cell 0 _ rfl) ?_
  refine Gm 5 [([8, 32], .slice A21 ((gi x25 x27).length) c22), ([31], .slice (Gp Gx6) x6.length cx6)] (Zr Q5c [2, 3] J6y) ?_
  obtain ⟨u4i, f25, f26⟩ := src_rd f23
  refine Gg h fun g27 h => ?_
  refine On (K := kStr) 43 (.tmp 31) (.tmp 32) 33 43 9 0 (.string ⟨#[]⟩) 16 x6.length cx6 ((gi x25 x27).length) x6 (gi x25 x27) (x6 ++ gi x25 x27) A21 c22 rfl rfl rfl p1 rfl fx6 Goes.v f25 f26 g27 fun w3 G28 c29 u4j z3 p3 f31 => ?_
  refine Gm 8 [([6], .slice (Gp G28) ((x6 ++ gi x25 x27).length) c29), ([34, 27], .i (wr .i64 (x27 + 1)))] J6u ?_
  exact Gj 36 [(6, .slice (Gp G28) ((x6 ++ gi x25 x27).length) c29), (25, .slice u4b x25.length u4d), (26, .i x26), (27, .i (wr .i64 (x27 + 1)))] (u4f _ _ h _ _ (hx.t z3) _ _ _ _ _ _ _ p3 f31 rfl (u4g.ext z3) rfl)
 ·
  rw [df h15]
  refine Gm 7 [([35, 2], .slice (Gp Gx6) x6.length cx6)] (Ys 1111111 B185 []) ?_
  obtain rfl := sj h
  exact Goes.rt Tryz.f185 (.slice (Gp Gx6) x6.length cx6) ⟨_, _, _, _, _, rfl, hx, p1, fx6, rfl⟩

def J73 := Ys 1111 B185 []
def Q5g := Yq 1110100 B185
def J75 := Zl Q5g (Zb 0 J73)
def J76 := Zc Q5g J75
def J78 := Zb 1 (Ys 1110100111 B185 J75)
def J7d := Ys 11101001100111 B185 J78

def L.z14 : (List (List ByteArray)) × Int × (List (List ByteArray)) × Int × Int → (List ByteArray) → Prop := fun ⟨x0, x3, x9, x10, x11⟩ r => ∀ S1 w1, Ext S0 w0 S1 w1 → ∀ Ax0 nx0 cx0 Ax9 nx9 cx9 (_ : Hp nz wz S1 w1 (Lr)) (_ : Rd (kSl kStr) S1 w1 Ax0 cx0 x0) (_ : x0.length = nx0) (_ : Rd (kSl kStr) S1 w1 Ax9 cx9 x9) (_ : x9.length = nx9) (junk : Nat → Value),
 Goes Tryz.prog (base 185) J76 ⟨lfr 36 [(0, .slice Ax0 nx0 cx0), (3, .i x3), (9, .slice Ax9 nx9 cx9), (10, .i x10), (11, .i x11)] junk, []⟩ w1 (Done Tryz.prog 185 (Rets (Post.z12 nz wz S0 w0 Lr r)))

def L.z15 : (List (List ByteArray)) × Int × (List (List ByteArray)) × Int × Int → (List ByteArray) → Prop := fun ⟨x0, x3, x9, x10, x11⟩ r => ∀ S1 w1, Ext S0 w0 S1 w1 → ∀ Ax0 nx0 cx0 Ax9 nx9 cx9 (_ : Hp nz wz S1 w1 (Lr)) (_ : Rd (kSl kStr) S1 w1 Ax0 cx0 x0) (_ : x0.length = nx0) (_ : Rd (kSl kStr) S1 w1 Ax9 cx9 x9) (_ : x9.length = nx9) (junk : Nat → Value),
 Goes Tryz.prog (base 185) J78 ⟨lfr 36 [(0, .slice Ax0 nx0 cx0), (3, .i x3), (9, .slice Ax9 nx9 cx9), (10, .i x10), (11, .i x11)] junk, []⟩ w1 (Done Tryz.prog 185 (Rets (Post.z12 nz wz S0 w0 Lr r)))

theorem W.z16 {nz wz S0 w0 Lr} : (∀ a r, M.al a = some r → (L.z14 nz wz S0 w0 Lr) a r) ∧ (∀ a r, M.a2d a = some r → (L.z15 nz wz S0 w0 Lr) a r) := by
 refine M.al.mutual_partial_correctness (L.z14 nz wz S0 w0 Lr) (L.z15 nz wz S0 w0 Lr) ?_ ?_
 ·
  intro u4k u4l ⟨x0, x3, x9, x10, x11⟩ r h S1 w1 hx Ax0 nx0 cx0 Ax9 nx9 cx9 p1 fx0 lx0 fx9 lx9 junk
  try dsimp only at h
  subst lx0
  subst lx9
  refine Gn 5 [(12, .bool (decide (x11 < x10)))] (Ys 111010010 B185 (Ys 111010011 B185 J75)) ?_
  refine Gi h (fun h1 h => ?_) fun h1 h => ?_
  ·
   rw [dt h1]
   refine Gn 6 [] (Yt 111010011000 B185 [0, 1, 2] (Ys 111010011001 B185 J78)) ?_
   refine Gg h fun g2 h => ?_
   refine Gg h fun g3 h => ?_
   refine Oi 335 (.tmp 9) (.tmp 11) 13 0 43 .i64 x11 (gi x9 x11) rfl rfl fx9 Goes.v g2 g3 fun a4 _ f5 q6 => ?_
   obtain ⟨A7, c8, rfl, f9⟩ := q6
   refine Goes.ld 43 (.tmp 13) 14 43 a4 (.slice A7 ((gi x9 x11).length) c8) (f5.cell 0 _ rfl) ?_
   refine Gm 14 [([5, 16], .slice A7 ((gi x9 x11).length) c8), ([15], .i x3), ([17], .i ((gi x9 x11).length : Int)), ([18, 3, 19], .i (wr .i64 (x3 + ((gi x9 x11).length : Int)))), ([20], .bool (decide (wr .i64 (x3 + ((gi x9 x11).length : Int)) < 0)))] (Yt 11101001100110 B185 [] J7d) ?_
   refine Gn 1 [] J7d ?_
   refine Gi h (fun h10 h => ?_) fun h10 h => ?_
   ·
    rw [dt h10]
    refine Gn 2 [] (Yt 111010011001110 B185 [0, 1] J78) ?_
    cases h
   ·
    rw [df h10]
    refine Gn 2 [] J78 ?_
    exact Gj 36 [(0, .slice Ax0 x0.length cx0), (3, .i (wr .i64 (x3 + ((gi x9 x11).length : Int)))), (9, .slice Ax9 x9.length cx9), (10, .i x10), (11, .i x11)] (u4l _ _ h _ _ hx _ _ _ _ _ _ p1 fx0 rfl fx9 rfl)
  ·
   rw [df h1]
   refine Gn 5 [(23, .i x3)] (Yt 11110 B185 [1, 2] (Ys 11111 B185 [])) ?_
   refine Gb h fun y11 e12 h => ?_
   refine Gc (.call { callee := .value (.func 232), args := #[(.const (.slice none 0 0)), (.tmp 23)], argTypes := #[43, 3] }) 24 43 232 _ (W.z10 x3 y11 e12  p1 ) ?_
   rintro _ w2 ⟨S2, u4m, u4n, u4o, u4p, rfl, z2, p2, u4q, rfl⟩
   refine Gn 11 [(6, .slice (Gp u4m) y11.length u4o), (25, .slice Ax0 x0.length cx0), (26, .i (x0.length : Int)), (27, .i 0)] J6u ?_
   exact Gj 36 [(6, .slice (Gp u4m) y11.length u4o), (25, .slice Ax0 x0.length cx0), (26, .i (x0.length : Int)), (27, .i 0)] (W.z13 _ _ h _ _ (hx.t z2) _ _ _ _ _ _ _ p2 u4q rfl (fx0.ext z2) rfl)
 ·
  intro u4r u4s ⟨x0, x3, x9, x10, x11⟩ r h S1 w1 hx Ax0 nx0 cx0 Ax9 nx9 cx9 p1 fx0 lx0 fx9 lx9 junk
  try dsimp only at h
  subst lx0
  subst lx9
  refine Gm 6 [([22, 11], .i (wr .i64 (x11 + 1)))] J76 ?_
  exact Gj 36 [(0, .slice Ax0 x0.length cx0), (3, .i x3), (9, .slice Ax9 x9.length cx9), (10, .i x10), (11, .i (wr .i64 (x11 + 1)))] (u4s _ _ h _ _ hx _ _ _ _ _ _ p1 fx0 rfl fx9 rfl)

theorem W.z14 {nz wz S0 w0 Lr} : ∀ a r, M.al a = some r → (L.z14 nz wz S0 w0 Lr) a r := (W.z16).1

theorem W.z15 {nz wz S0 w0 Lr} : ∀ a r, M.a2d a = some r → (L.z15 nz wz S0 w0 Lr) a r := (W.z16).2


theorem W.z12 (x0 : List (List ByteArray)) (r : List ByteArray) (h : M.a2e x0 = some r) {nz wz S0 w0 Lr} (Ax0 nx0 cx0) (p0 : Hp nz wz S0 w0 (Lr)) (fx0 : Rd (kSl kStr) S0 w0 Ax0 cx0 x0) (lx0 : x0.length = nx0) :
  Calls Tryz.prog 185 #[.slice Ax0 nx0 cx0] w0 (Rets (Post.z12 nz wz S0 w0 Lr r)) := by
 subst lx0
 refine Zf Tryz.f185 B185 35 ?_
 refine Gj 36 [(0, .slice Ax0 x0.length cx0)] fun junk => ?_
 delta M.a2e at h
 refine Gn 14 [(2, .slice none 0 0), (3, .i 0), (9, .slice Ax0 x0.length cx0), (10, .i (x0.length : Int)), (11, .i 0)] (Yt 11100 B185 [] (Ys 11101 B185 J73)) ?_
 refine Gn 3 [] J76 ?_
 exact Gj 36 [(0, .slice Ax0 x0.length cx0), (3, .i 0), (9, .slice Ax0 x0.length cx0), (10, .i (x0.length : Int)), (11, .i 0)] (W.z14 _ _ h _ _ (Ext.refl S0 w0) _ _ _ _ _ _ p0 fx0 rfl fx0 rfl)

def J7u := Ys 1111111111111 B267 []

def Post.z17 (r : Int × Int) (v : Value) (w' : World) : Prop :=
 ∃ S', v = .tuple #[.u r.1, .u r.2] ∧ Ext S0 w0 S' w' ∧ Hp nz wz S' w' (Lr)

theorem W.z17 (x0 : Int) (x1 : Int) (r : Int × Int) (h : M.a5z x0 x1 = some r) {nz wz S0 w0 Lr} (p0 : Hp nz wz S0 w0 (Lr)) :
  Calls Tryz.prog 267 #[.u x0, .u x1] w0 (Rets (Post.z17 nz wz S0 w0 Lr r)) := by
 refine Zf Tryz.f267 B267 49 ?_
 refine Gj 51 [(0, .u x0), (1, .u x1)] fun junk => ?_
 delta M.a5z at h
 refine Gm 14 [([4, 5], .u 0), ([14, 16], .u x0), ([15, 6], .u (iand .u64 x0 4294967295))] (Yt 1110 B267 [1, 2] (Ys 1111 B267 [])) ?_
 refine Gm 14 [([17, 7], .u (ishr .u64 x0 32)), ([18, 20], .u x1), ([19, 8], .u (iand .u64 x1 4294967295)), ([21, 9], .u (ishr .u64 x1 32))] (Yt 111110 B267 [] (Ys 111111 B267 [])) ?_
 refine Gm 14 [([22], .u (iand .u64 x0 4294967295)), ([23, 26], .u (iand .u64 x1 4294967295)), ([24, 10, 28], .u (wr .u64 ((iand .u64 x0 4294967295) * (iand .u64 x1 4294967295)))), ([25], .u (ishr .u64 x0 32)), ([27], .u (wr .u64 ((ishr .u64 x0 32) * (iand .u64 x1 4294967295))))] (Yt 11111110 B267 [4, 5, 6] (Ys 11111111 B267 [])) ?_
 refine Gm 14 [([29], .u (ishr .u64 (wr .u64 ((iand .u64 x0 4294967295) * (iand .u64 x1 4294967295))) 32)), ([30, 11, 31, 33], .u (wr .u64 ((wr .u64 ((ishr .u64 x0 32) * (iand .u64 x1 4294967295))) + (ishr .u64 (wr .u64 ((iand .u64 x0 4294967295) * (iand .u64 x1 4294967295))) 32)))), ([32, 12], .u (iand .u64 (wr .u64 ((wr .u64 ((ishr .u64 x0 32) * (iand .u64 x1 4294967295))) + (ishr .u64 (wr .u64 ((iand .u64 x0 4294967295) * (iand .u64 x1 4294967295))) 32))) 4294967295)), ([34], .u (ishr .u64 (wr .u64 ((wr .u64 ((ishr .u64 x0 32) * (iand .u64 x1 4294967295))) + (ishr .u64 (wr .u64 ((iand .u64 x0 4294967295) * (iand .u64 x1 4294967295))) 32))) 32))] (Yt 1111111110 B267 [2] (Ys 1111111111 B267 [])) ?_
 refine Gm 14 [([13], .u (ishr .u64 (wr .u64 ((wr .u64 ((ishr .u64 x0 32) * (iand .u64 x1 4294967295))) + (ishr .u64 (wr .u64 ((iand .u64 x0 4294967295) * (iand .u64 x1 4294967295))) 32))) 32)), ([35], .u (iand .u64 (wr .u64 ((wr .u64 ((ishr .u64 x0 32) * (iand .u64 x1 4294967295))) + (ishr .u64 (wr .u64 ((iand .u64 x0 4294967295) * (iand .u64 x1 4294967295))) 32))) 4294967295)), ([36], .u (iand .u64 x0 4294967295)), ([37], .u (ishr .u64 x1 32)), ([38], .u (wr .u64 ((iand .u64 x0 4294967295) * (ishr .u64 x1 32)))), ([39, 12], .u (wr .u64 ((iand .u64 (wr .u64 ((wr .u64 ((ishr .u64 x0 32) * (iand .u64 x1 4294967295))) + (ishr .u64 (wr .u64 ((iand .u64 x0 4294967295) * (iand .u64 x1 4294967295))) 32))) 4294967295) + (wr .u64 ((iand .u64 x0 4294967295) * (ishr .u64 x1 32)))))), ([40], .u (ishr .u64 x0 32))] (Yt 111111111110 B267 [1, 2, 3, 4, 5, 6, 7, 8] (Ys 111111111111 B267 [])) ?_
 refine Gm 14 [([41], .u (ishr .u64 x1 32)), ([42], .u (wr .u64 ((ishr .u64 x0 32) * (ishr .u64 x1 32)))), ([43], .u (ishr .u64 (wr .u64 ((wr .u64 ((ishr .u64 x0 32) * (iand .u64 x1 4294967295))) + (ishr .u64 (wr .u64 ((iand .u64 x0 4294967295) * (iand .u64 x1 4294967295))) 32))) 32)), ([44], .u (wr .u64 ((wr .u64 ((ishr .u64 x0 32) * (ishr .u64 x1 32))) + (ishr .u64 (wr .u64 ((wr .u64 ((ishr .u64 x0 32) * (iand .u64 x1 4294967295))) + (ishr .u64 (wr .u64 ((iand .u64 x0 4294967295) * (iand .u64 x1 4294967295))) 32))) 32)))), ([45], .u (wr .u64 ((iand .u64 (wr .u64 ((wr .u64 ((ishr .u64 x0 32) * (iand .u64 x1 4294967295))) + (ishr .u64 (wr .u64 ((iand .u64 x0 4294967295) * (iand .u64 x1 4294967295))) 32))) 4294967295) + (wr .u64 ((iand .u64 x0 4294967295) * (ishr .u64 x1 32)))))), ([46], .u (ishr .u64 (wr .u64 ((iand .u64 (wr .u64 ((wr .u64 ((ishr .u64 x0 32) * (iand .u64 x1 4294967295))) + (ishr .u64 (wr .u64 ((iand .u64 x0 4294967295) * (iand .u64 x1 4294967295))) 32))) 4294967295) + (wr .u64 ((iand .u64 x0 4294967295) * (ishr .u64 x1 32))))) 32)), ([47, 4], .u (wr .u64 ((wr .u64 ((wr .u64 ((ishr .u64 x0 32) * (ishr .u64 x1 32))) + (ishr .u64 (wr .u64 ((wr .u64 ((ishr .u64 x0 32) * (iand .u64 x1 4294967295))) + (ishr .u64 (wr .u64 ((iand .u64 x0 4294967295) * (iand .u64 x1 4294967295))) 32))) 32))) + (ishr .u64 (wr .u64 ((iand .u64 (wr .u64 ((wr .u64 ((ishr .u64 x0 32) * (iand .u64 x1 4294967295))) + (ishr .u64 (wr .u64 ((iand .u64 x0 4294967295) * (iand .u64 x1 4294967295))) 32))) 4294967295) + (wr .u64 ((iand .u64 x0 4294967295) * (ishr .u64 x1 32))))) 32)))), ([48], .u x0), ([49], .u x1), ([50], .u (wr .u64 (x0 * x1)))] (Yt 1111111111110 B267 [3] J7u) ?_
 refine Gn 2 [(5, .u (wr .u64 (x0 * x1)))] J7u ?_
 obtain rfl := sj h
 exact Goes.rt Tryz.f267 (.tuple #[.u (wr .u64 ((wr .u64 ((wr .u64 ((ishr .u64 x0 32) * (ishr .u64 x1 32))) + (ishr .u64 (wr .u64 ((wr .u64 ((ishr .u64 x0 32) * (iand .u64 x1 4294967295))) + (ishr .u64 (wr .u64 ((iand .u64 x0 4294967295) * (iand .u64 x1 4294967295))) 32))) 32))) + (ishr .u64 (wr .u64 ((iand .u64 (wr .u64 ((wr .u64 ((ishr .u64 x0 32) * (iand .u64 x1 4294967295))) + (ishr .u64 (wr .u64 ((iand .u64 x0 4294967295) * (iand .u64 x1 4294967295))) 32))) 4294967295) + (wr .u64 ((iand .u64 x0 4294967295) * (ishr .u64 x1 32))))) 32))), .u (wr .u64 (x0 * x1))]) ⟨_, rfl, (Ext.refl S0 w0), p0⟩


def Post.z18 (r : Int × Int) (v : Value) (w' : World) : Prop :=
 ∃ S', v = .tuple #[.u r.1, .u r.2] ∧ Ext S0 w0 S' w' ∧ Hp nz wz S' w' (Lr)

theorem W.z18 (x0 : Int) (x1 : Int) (r : Int × Int) (h : M.a5i x0 x1 = some r) {nz wz S0 w0 Lr} (p0 : Hp nz wz S0 w0 (Lr)) :
  Calls Tryz.prog 233 #[.u x0, .u x1] w0 (Rets (Post.z18 nz wz S0 w0 Lr r)) := by
 refine Zf Tryz.f233 B233 28 ?_
 refine Gj 30 [(0, .u x0), (1, .u x1)] fun junk => ?_
 delta M.a5i at h
 refine Gm 12 [([4, 5], .u 0), ([23], .u x0), ([24], .u x1)] (Yt 1110 B233 [2, 3, 4, 5, 6, 7] (Ys 1111 B233 [])) ?_
 refine Gb h fun y1 e2 h => ?_
 refine Gc (kc 267 [23, 24] #[22, 22]) 25 361 267 _ (W.z17 x0 x1 y1 e2  p0 ) ?_
 rintro _ w2 ⟨S2, rfl, z2, p2⟩
 refine Gm 13 [([22], .tuple #[.u y1.1, .u y1.2]), ([26, 8, 28, 4], .u y1.1), ([27, 9, 29, 5], .u y1.2)] (Ys 11111 B233 []) ?_
 obtain rfl := sj h
 exact Goes.rt Tryz.f233 (.tuple #[.u y1.1, .u y1.2]) ⟨_, rfl, z2, p2⟩

def Q69 := Yq 1111111000 B186
def J81 := Zl Q69 (Zb 0 (Ys 11111111 B186 []))
def J82 := Zc Q69 J81

def Post.z19 (r : List T26) (v : Value) (w' : World) : Prop :=
 ∃ S' Gq nq cq csq, v = .slice (Gp Gq) nq cq ∧ Ext S0 w0 S' w' ∧ Hp nz wz S' w' ((Gq, .row 27 csq (cq * kT26.size) 0) :: Lr) ∧ Els kT26 S' w' csq r ∧ r.length = nq

def L.z1a : (List T26) × Int → (List T26) → Prop := fun ⟨x7, x8⟩ r => ∀ S1 w1, Ext S0 w0 S1 w1 → ∀ Gx7 nx7 cx7 u4t (_ : Hp nz wz S1 w1 ((Gx7, .row 27 u4t (cx7 * kT26.size) 0) :: Lr)) (_ : Els kT26 S1 w1 u4t x7) (_ : x7.length = nx7) (junk : Nat → Value),
 Goes Tryz.prog (base 186) J82 ⟨lfr 48 [(7, .slice (Gp Gx7) nx7 cx7), (8, .i x8)] junk, []⟩ w1 (Done Tryz.prog 186 (Rets (Post.z19 nz wz S0 w0 Lr r)))

theorem W.z1a {nz wz S0 w0 Lr} : ∀ a r, M.am a = some r → (L.z1a nz wz S0 w0 Lr) a r := by
 refine M.am.partial_correctness (motive := (L.z1a nz wz S0 w0 Lr)) ?_
 intro u4u u4v ⟨x7, x8⟩ r h S1 w1 hx Gx7 nx7 cx7 u4t p1 fx7 lx7 junk
 try dsimp only at h
 subst lx7
 refine Gn 8 [(34, .i x8), (35, .slice (Gp Gx7) x7.length cx7), (36, .i (x7.length : Int)), (37, .bool (decide (x8 < (x7.length : Int))))] (Ys 111111100001 B186 (Ys 11111110001 B186 J81)) ?_
 refine Gi h (fun h20 h => ?_) fun h20 h => ?_
 ·
  rw [dt h20]
  refine Gn 3 [] (Ys 111111100010 B186 (Zb 1 J81)) ?_
  have z5 : Ext S1 w1 S1 (w1).drew := Ext.draw
  have p5 := p1.draw
  refine Gd [] (Fc S1 (w1).drew []) 9 10 ?_
  generalize (w1).drew = w5 at z5 p5 ⊢
  refine AnyG.pu 0 (.move (.tmp 8)) 38 3 (.i x8) (Fc.here trivial) ?_
  refine AnyG.pu 1 (.move (.tmp 7)) 39 25 (.slice (Gp Gx7) x7.length cx7) (Fc.here trivial) ?_
  refine AnyG.pu 2 (.move (.tmp 8)) 40 3 (.i x8) (Fc.here trivial) ?_
  refine Gg h fun g21 h => ?_
  refine Gg h fun g22 h => ?_
  refine AnyG.slV (K := kT26) (i := 3) 25 (.tmp 39) (some (.tmp 40)) none 41 25 27 x8 (x7.length : Int) 0 rfl p5 rfl (by decide) (fx7.ext z5) (by kernel_rfl) (by kernel_rfl) (Fc.here trivial) (by kernel_rfl) (by kernel_rfl) (by kernel_rfl) (Bnd.at_ .i64 (by kernel_rfl)) Bnd.no g21 g22 (Int.le_refl _) ?_
  refine AnyG.pu 4 (.move (.tmp 7)) 42 25 (.slice (Gp Gx7) x7.length cx7) (Fc.here trivial) ?_
  refine AnyG.pu 5 (.move (.tmp 8)) 43 3 (.i x8) (Fc.here trivial) ?_
  refine AnyG.slV (K := kT26) (i := 6) 25 (.tmp 42) none (some (.tmp 43)) 44 25 27 0 x8 0 rfl p5 rfl (by decide) (fx7.ext z5) (by kernel_rfl) (by kernel_rfl) (Fc.here trivial) (by kernel_rfl) (by kernel_rfl) (by kernel_rfl) Bnd.no (Bnd.at_ .i64 (by kernel_rfl)) (by decide : (0 : Int) ≤ 0) g21 g22 ?_
  obtain ⟨u4w, f24, f25, f26⟩ := src_winI (K := kT26) p5 (q := 0) rfl rfl (by decide) (fx7.ext z5) (by decide : (0 : Int) ≤ 0) g21 g22
  refine Gl h fun v27 e28 h => ?_
  refine Op_.cpV (K := kT26) 25 25 (.tmp 41) (.tmp 44) 45 3 27 0 ((x8 : Int).toNat) (((x7.length : Int) : Int).toNat - (x8 : Int).toNat) (cx7 - (x8 : Int).toNat) (sl x7 0 x8) v27 ((x8 : Int).toNat - (0 : Int).toNat) (winA Gx7 (0 : Int).toNat cx7 kT26.size) (cx7 - (0 : Int).toNat) rfl f26 e28 p5 rfl (fx7.ext z5) (Av 7) (by kernel_rfl) (by kernel_rfl) (by kernel_rfl) (by kernel_rfl) (by decide) (by have h0 : 0 ≤ (x8 : Int) := g21; have h1 : (x8 : Int) ≤ (x7.length : Int) := g22; have h2 : ((x7.length : Int) : Int) ≤ (x7.length : Int) := (Int.le_refl _); omega) f24 f25 fun w6 u4x z6 p6 f30 => ?_
  refine AnyG.next z6 trivial ?_
  refine AnyG.pu 8 (.binOp .add 3 (.tmp 38) (.tmp 45) 3) 46 3 (.i (wr .i64 (x8 + ((min ((x8 : Int).toNat - (0 : Int).toNat) (((x7.length : Int) : Int).toNat - (x8 : Int).toNat) : Nat) : Int)))) (Fc.here trivial) ?_
  refine AnyG.pu 9 (.assign (.tmp 46)) 8 3 (.i (wr .i64 (x8 + ((min ((x8 : Int).toNat - (0 : Int).toNat) (((x7.length : Int) : Int).toNat - (x8 : Int).toNat) : Nat) : Int)))) (Fc.here trivial) ?_
  refine Ad ?_
  refine Gn 2 [] J82 ?_
  exact Gj 48 [(7, .slice (Gp Gx7) x7.length cx7), (8, .i (wr .i64 (x8 + ((min ((x8 : Int).toNat - (0 : Int).toNat) (((x7.length : Int) : Int).toNat - (x8 : Int).toNat) : Nat) : Int))))] (u4v _ _ h _ _ ((hx.t z5).t z6) _ _ _ _ p6 f30 ((congrArg List.length e28).symm.trans (cpy_length _ _ _ _ (by have h0 : 0 ≤ (x8 : Int) := g21; have h1 : (x8 : Int) ≤ (x7.length : Int) := g22; have h2 : ((x7.length : Int) : Int) ≤ (x7.length : Int) := (Int.le_refl _); omega))))
 ·
  rw [df h20]
  refine Gm 7 [([47, 4], .slice (Gp Gx7) x7.length cx7)] (Ys 111111111 B186 []) ?_
  obtain rfl := sj h
  exact Goes.rt Tryz.f186 (.slice (Gp Gx7) x7.length cx7) ⟨_, _, _, _, _, rfl, hx, p1, fx7, rfl⟩

def J88 := Ys 11111 B186 []

def L.z1b : (List T26) × Int → (List T26) → Prop := fun ⟨x0, x6⟩ r => ∀ S1 w1, Ext S0 w0 S1 w1 → ∀ Ax0 nx0 cx0 (_ : Hp nz wz S1 w1 (Lr)) (_ : Rd kT26 S1 w1 Ax0 cx0 x0) (_ : x0.length = nx0) (junk : Nat → Value),
 Goes Tryz.prog (base 186) J88 ⟨lfr 48 [(0, .slice Ax0 nx0 cx0), (6, .u x6)] junk, []⟩ w1 (Done Tryz.prog 186 (Rets (Post.z19 nz wz S0 w0 Lr r)))

theorem W.z1b {nz wz S0 w0 Lr} : ∀ a r, M.a4f a = some r → L.z1b nz wz S0 w0 Lr a r := by
 intro ⟨x0, x6⟩ r h S1 w1 hx Ax0 nx0 cx0 p1 fx0 lx0 junk
 rw [M.a4f] at h
 try dsimp only at h
 subst lx0
 refine Gn 4 [(28, .u x6), (29, .i (wr .i64 x6))] (Yt 111110 B186 [2, 3] (Ys 111111 B186 [])) ?_
 refine Gg h fun g6 h => ?_
 refine Gg h fun g7 h => ?_
 refine Gl h fun v8 e9 h => ?_
 refine Op_.mk_n (K := kT26) 25 (.tmp 29) (.tmp 29) 30 25 27 .i64 .i64 (wr .i64 x6) (wr .i64 x6) (.agg #[.i 0, .u 0, .u 0, .u 0, .u 0, .slice none 0 0, .i 0, .i 0]) [.i 0, .u 0, .u 0, .u 0, .u 0, .slice none 0 0, .i 0, .i 0] 80 (⟨0, [0, 0, 0, 0], ([] : List T26), 0, 0⟩ : T26) v8 e9 p1 Goes.v (by kernel_rfl) (by kernel_rfl) (by kernel_rfl) (by kernel_rfl) (by kernel_rfl) (fun _ _ => (kT26_close ⟨[.i 0], [.u 0, .u 0, .u 0, .u 0, .slice none 0 0, .i 0, .i 0], rfl, rfl, ⟨[.u 0, .u 0, .u 0, .u 0], [.slice none 0 0, .i 0, .i 0], rfl, ⟨rfl, (Els.cons (K := (kInt .u64)) (vs := [.u 0]) (x := 0) rfl (Els.cons (K := (kInt .u64)) (vs := [.u 0]) (x := 0) rfl (Els.cons (K := (kInt .u64)) (vs := [.u 0]) (x := 0) rfl (Els.cons (K := (kInt .u64)) (vs := [.u 0]) (x := 0) rfl Els.nil))))⟩, ⟨[.slice none 0 0], [.i 0, .i 0], rfl, ⟨none, 0, rfl, Rd.none_⟩, ⟨[.i 0], [.i 0], rfl, rfl, rfl⟩⟩⟩⟩)) g6 (Int.le_refl _) (by have := g7; omega) (by have := g7; omega) fun b10 w3 u4y z3 p3 f12 => ?_
 refine Gm 6 [([7, 31], .slice (Gp (some b10)) v8.length ((wr .i64 x6 : Int).toNat)), ([32], .slice Ax0 x0.length cx0)] (Yt 1111110 B186 [2, 3] (Ys 1111111 B186 [])) ?_
 obtain ⟨u4z, f15, f16⟩ := src_rd (fx0.ext z3)
 refine Op_.cpO (K := kT26) 25 25 (.tmp 31) (.tmp 32) 33 3 27 0 x0 (cpy v8 0 v8.length x0) x0.length Ax0 cx0 rfl rfl rfl p3 rfl f12 Goes.v (by kernel_rfl) (by kernel_rfl) (by kernel_rfl) (by kernel_rfl) (by decide) f15 f16 fun w4 u50 z4 p4 f18 => ?_
 refine Gn 5 [(8, .i ((min x0.length v8.length : Nat) : Int))] J82 ?_
 exact Gj 48 [(7, .slice (Gp (some b10)) v8.length ((wr .i64 x6 : Int).toNat)), (8, .i ((min x0.length v8.length : Nat) : Int))] (W.z1a _ _ h _ _ ((hx.t z3).t z4) (some b10) _ _ _ p4 f18 (cpy_length _ _ _ _ (by omega)))

def J8d := Ys 111101 B186 J88

def L.z1c : (List T26) × Int × Bool → (List T26) → Prop := fun ⟨x0, x6, x26⟩ r => ∀ S1 w1, Ext S0 w0 S1 w1 → ∀ Ax0 nx0 cx0 (_ : Hp nz wz S1 w1 (Lr)) (_ : Rd kT26 S1 w1 Ax0 cx0 x0) (_ : x0.length = nx0) (junk : Nat → Value),
 Goes Tryz.prog (base 186) J8d ⟨lfr 48 [(0, .slice Ax0 nx0 cx0), (6, .u x6), (26, .bool x26)] junk, []⟩ w1 (Done Tryz.prog 186 (Rets (Post.z19 nz wz S0 w0 Lr r)))

theorem W.z1c {nz wz S0 w0 Lr} : ∀ a r, M.a37 a = some r → L.z1c nz wz S0 w0 Lr a r := by
 intro ⟨x0, x6, x26⟩ r h S1 w1 hx Ax0 nx0 cx0 p1 fx0 lx0 junk
 rw [M.a37] at h
 try dsimp only at h
 subst lx0
 refine Gi h (fun h5 h => ?_) fun h5 h => ?_
 ·
  rw [h5]
  refine Gn 2 [] (Yt 1111010 B186 [0, 1] J88) ?_
  cases h
 ·
  rw [bf h5]
  refine Gn 2 [] J88 ?_
  exact Gj 48 [(0, .slice Ax0 x0.length cx0), (6, .u x6)] (W.z1b _ _ h _ _ hx _ _ _ p1 fx0 rfl)

def J8f := Ys 111 B186 []

def L.z1d : (List T26) × Int → (List T26) → Prop := fun ⟨x0, x1⟩ r => ∀ S1 w1, Ext S0 w0 S1 w1 → ∀ Ax0 nx0 cx0 (_ : Hp nz wz S1 w1 (Lr)) (_ : Rd kT26 S1 w1 Ax0 cx0 x0) (_ : x0.length = nx0) (junk : Nat → Value),
 Goes Tryz.prog (base 186) J8f ⟨lfr 48 [(0, .slice Ax0 nx0 cx0), (1, .i x1)] junk, []⟩ w1 (Done Tryz.prog 186 (Rets (Post.z19 nz wz S0 w0 Lr r)))

theorem W.z1d {nz wz S0 w0 Lr} : ∀ a r, M.a4g a = some r → L.z1d nz wz S0 w0 Lr a r := by
 intro ⟨x0, x1⟩ r h S1 w1 hx Ax0 nx0 cx0 p1 fx0 lx0 junk
 rw [M.a4g] at h
 try dsimp only at h
 subst lx0
 refine Gn 7 [(13, .slice Ax0 x0.length cx0), (14, .i (x0.length : Int)), (15, .u (wr .u64 (x0.length : Int))), (16, .i x1), (17, .u (wr .u64 x1))] (Yt 1110 B186 [5, 6, 7, 8, 9, 10] (Ys 1111 B186 [])) ?_
 refine Gb h fun y2 e3 h => ?_
 refine Gc (kc 233 [15, 17] #[150, 150]) 18 337 233 _ (W.z18 (wr .u64 (x0.length : Int)) (wr .u64 x1) y2 e3  p1 ) ?_
 rintro _ w2 ⟨S2, rfl, z2, p2⟩
 refine Gm 12 [([12], .tuple #[.u y2.1, .u y2.2]), ([19, 5, 21], .u y2.1), ([20, 6], .u y2.2), ([22, 23], .bool (decide (y2.1 > 0)))] (Yt 111100 B186 [3, 4, 5] J8d) ?_
 refine Gi h (fun h4 h => ?_) fun h4 h => ?_
 ·
  rw [dt h4]
  refine Gm 4 [([24, 25], undef), ([26], .bool true)] J8d ?_
  exact Gj 48 [(0, .slice Ax0 x0.length cx0), (6, .u y2.2), (26, .bool true)] (W.z1c _ _ h _ _ (hx.t z2) _ _ _ p2 (fx0.ext z2) rfl)
 ·
  rw [df h4]
  refine Gm 4 [([24], .u y2.2), ([25, 26], .bool (decide (y2.2 > 9223372036854775807)))] J8d ?_
  exact Gj 48 [(0, .slice Ax0 x0.length cx0), (6, .u y2.2), (26, .bool (decide (y2.2 > 9223372036854775807)))] (W.z1c _ _ h _ _ (hx.t z2) _ _ _ p2 (fx0.ext z2) rfl)


theorem W.z19 (x0 : List T26) (x1 : Int) (r : List T26) (h : M.a38 x0 x1 = some r) {nz wz S0 w0 Lr} (Ax0 nx0 cx0) (p0 : Hp nz wz S0 w0 (Lr)) (fx0 : Rd kT26 S0 w0 Ax0 cx0 x0) (lx0 : x0.length = nx0) :
  Calls Tryz.prog 186 #[.slice Ax0 nx0 cx0, .i x1] w0 (Rets (Post.z19 nz wz S0 w0 Lr r)) := by
 subst lx0
 refine Zf Tryz.f186 B186 46 ?_
 refine Gj 48 [(0, .slice Ax0 x0.length cx0), (1, .i x1)] fun junk => ?_
 delta M.a38 at h
 refine Gn 10 [(4, .slice none 0 0), (9, .i x1), (10, .bool (decide (x1 < 0)))] (Ys 1101 B186 J8f) ?_
 refine Gi h (fun h1 h => ?_) fun h1 h => ?_
 ·
  rw [dt h1]
  refine Gn 2 [] (Yt 11010 B186 [0, 1] J8f) ?_
  cases h
 ·
  rw [df h1]
  refine Gn 2 [] J8f ?_
  exact Gj 48 [(0, .slice Ax0 x0.length cx0), (1, .i x1)] (W.z1d _ _ h _ _ (Ext.refl S0 w0) _ _ _ p0 fx0 rfl)

def Q6s := Yq 1110100 B182
def J8n := Zl Q6s (Zb 0 (Ys 1111 B182 []))
def J8o := Zc Q6s J8n
def J8p := Ys 111 B115 []
def J8q := Zb 0 J8p
def J8r := Ys 1101011111011 B115 J8q
def Q6v := Yq 1101011111010100 B115
def J8t := Zl Q6v (Zb 1 J8r)
def J8u := Zc Q6v J8t
def J8w := Zb 2 (Ys 1101011111010100111 B115 J8t)
def Q6x := Yq 11010111110101001100111 B115
def J8x := Zc Q6x J8w
def J8y := Ys 110101111101010011001101 B115 J8x
def J94 := Ys 11010101 B115 J8q
def J97 := Ys 1101011101 B115 J8q
def J9e := Ys 1111 B115 []
def J9f := Ys 11101 B115 J9e
def Q7g := Yq 11100 B115
def J9i := Ys 11111 B115 []
def Q7i := Yq 11110 B115
def J9l := Ys 1110101 B115 J9e
def Q7r := Yq 110101111101010011001100 B115
def J9w := Ys 11010111110111 B115 J8q
def J9y := Ys 11010111110101001100110101 B115 J8x
def Ja9 := Zb 1 (Ys 1110100111 B182 J8n)
def Jae := Ys 11101001100111 B182 Ja9
def Jag := Ys 11111 B182 []
def Jah := Yt 11110 B182 [0, 1] Jag

def Post.z1e (r : T218) (v : Value) (w' : World) : Prop :=
 ∃ S' u2d u2e u2f, v = (ag (vT218 r u2d u2e u2f)) ∧ Ext S0 w0 S' w' ∧ Hp nz wz S' w' (Lr) ∧ Rd kStr S' w' u2d u2f r.l ∧ r.l.length = u2e

def Post.z1f (r : T218) (v : Value) (w' : World) : Prop :=
 ∃ S' u2d u2e u2f, v = (ag (vT218 r u2d u2e u2f)) ∧ Ext S0 w0 S' w' ∧ Hp nz wz S' w' (Lr) ∧ Rd kStr S' w' u2d u2f r.l ∧ r.l.length = u2e

def LF.z1e : T26 → T218 → Prop := fun x0 r => ∀ {nz wz S0 w0 Lr} u5 u6 u7 (_ : Hp nz wz S0 w0 (Lr)) (_ : x0.Set.length = 4) (_ : Rd kT26 S0 w0 u5 u7 x0.L) (_ : x0.L.length = u6),
 Calls Tryz.prog 115 #[(ag (vT26 x0 u5 u6 u7))] w0 (Rets (Post.z1e nz wz S0 w0 Lr r))

def LF.z1f : (List T26) → T218 → Prop := fun x0 r => ∀ {nz wz S0 w0 Lr} Ax0 nx0 cx0 (_ : Hp nz wz S0 w0 (Lr)) (_ : Rd kT26 S0 w0 Ax0 cx0 x0) (_ : x0.length = nx0),
 Calls Tryz.prog 182 #[.slice Ax0 nx0 cx0] w0 (Rets (Post.z1f nz wz S0 w0 Lr r))

def L.z1g : T218 × T218 × (List T26) × Int × Int → T218 → Prop := fun ⟨x2v, x3v, x8, x9, x10⟩ r => ∀ S1 w1, Ext S0 w0 S1 w1 → ∀ gx2 u2h u2i u2j u2k gx3 u33 u34 u35 Ax8 nx8 cx8 (_ : Hp nz wz S1 w1 ((some gx2, .row 219 (vT218 x2v (Gp u2h) u2i u2j) 2 0) :: (u2h, .row 9 u2k (u2j * kStr.size) 0) :: (some gx3, .row 219 (vT218 x3v u33 u34 u35) 2 0) :: Lr)) (_ : Els kStr S1 w1 u2k x2v.l) (_ : x2v.l.length = u2i) (_ : Rd kStr S1 w1 u33 u35 x3v.l) (_ : x3v.l.length = u34) (_ : Rd kT26 S1 w1 Ax8 cx8 x8) (_ : x8.length = nx8) (junk : Nat → Value),
 Goes Tryz.prog (base 182) J8o ⟨lfr 23 [(2, (pt gx2 0)), (3, (pt gx3 0)), (8, .slice Ax8 nx8 cx8), (9, .i x9), (10, .i x10)] junk, []⟩ w1 (Done Tryz.prog 182 (Rets (Post.z1f nz wz S0 w0 Lr r)))

def LL.z1g : T218 × T218 × (List T26) × Int × Int → T218 → Prop := fun a r => ∀ {nz wz S0 w0 Lr}, L.z1g nz wz S0 w0 Lr a r

def L.z1h : T218 × T218 × (List T26) × Int × Int → T218 → Prop := fun ⟨x2v, x3v, x23, x24, x25⟩ r => ∀ S1 w1, Ext S0 w0 S1 w1 → ∀ gx2 u2h u2i u2j u2k gx3 u33 u34 u35 u1o u1p u1q (_ : Hp nz wz S1 w1 ((some gx2, .row 219 (vT218 x2v (Gp u2h) u2i u2j) 2 0) :: (u2h, .row 9 u2k (u2j * kStr.size) 0) :: (some gx3, .row 219 (vT218 x3v u33 u34 u35) 2 0) :: Lr)) (_ : Els kStr S1 w1 u2k x2v.l) (_ : x2v.l.length = u2i) (_ : Rd kStr S1 w1 u33 u35 x3v.l) (_ : x3v.l.length = u34) (_ : Rd kT26 S1 w1 u1o u1q x23) (_ : x23.length = u1p) (junk : Nat → Value),
 Goes Tryz.prog (base 115) J8u ⟨lfr 61 [(2, (pt gx2 0)), (3, (pt gx3 0)), (23, .slice u1o u1p u1q), (24, .i x24), (25, .i x25)] junk, []⟩ w1 (Done Tryz.prog 115 (Rets (Post.z1e nz wz S0 w0 Lr r)))

def LL.z1h : T218 × T218 × (List T26) × Int × Int → T218 → Prop := fun a r => ∀ {nz wz S0 w0 Lr}, L.z1h nz wz S0 w0 Lr a r

def L.z1i : T218 × T218 × T218 × (List T26) × Int × Int × Bool → T218 → Prop := fun ⟨x2v, x3v, x6v, x23, x24, x25, x38⟩ r => ∀ S1 w1, Ext S0 w0 S1 w1 → ∀ gx2 u2h u2i u2j u2k gx3 u33 u34 u35 gx6 u51 u52 u53 u1o u1p u1q (_ : Hp nz wz S1 w1 ((some gx2, .row 219 (vT218 x2v (Gp u2h) u2i u2j) 2 0) :: (u2h, .row 9 u2k (u2j * kStr.size) 0) :: (some gx3, .row 219 (vT218 x3v u33 u34 u35) 2 0) :: (some gx6, .row 219 (vT218 x6v u51 u52 u53) 2 0) :: Lr)) (_ : Els kStr S1 w1 u2k x2v.l) (_ : x2v.l.length = u2i) (_ : Rd kStr S1 w1 u33 u35 x3v.l) (_ : x3v.l.length = u34) (_ : Rd kStr S1 w1 u51 u53 x6v.l) (_ : x6v.l.length = u52) (_ : Rd kT26 S1 w1 u1o u1q x23) (_ : x23.length = u1p) (junk : Nat → Value),
 Goes Tryz.prog (base 115) J8y ⟨lfr 61 [(2, (pt gx2 0)), (3, (pt gx3 0)), (6, (pt gx6 0)), (23, .slice u1o u1p u1q), (24, .i x24), (25, .i x25), (38, .bool x38)] junk, []⟩ w1 (Done Tryz.prog 115 (Rets (Post.z1e nz wz S0 w0 Lr r)))

def LL.z1i : T218 × T218 × T218 × (List T26) × Int × Int × Bool → T218 → Prop := fun a r => ∀ {nz wz S0 w0 Lr}, L.z1i nz wz S0 w0 Lr a r

theorem W.z1j : (∀ a r, M.a3 a = some r → LF.z1e a r) ∧ (∀ a r, M.a12 a = some r → LL.z1h a r) ∧ (∀ a r, M.a13 a = some r → LL.z1i a r) ∧ (∀ a r, M.a1t a = some r → LF.z1f a r) ∧ (∀ a r, M.a11 a = some r → LL.z1g a r) := by
 refine M.a3.mutual_partial_correctness LF.z1e LL.z1h LL.z1i LF.z1f LL.z1g ?_ ?_ ?_ ?_ ?_
 ·
  intro u54 rec_gram_row u55 ih_gram_row x0 r h nz wz S0 w0 Lr u5 u6 u7 p0 um un uo
  try dsimp only at h
  subst uo
  refine Zf Tryz.f115 B115 60 ?_
  refine Gj 61 [(0, (ag (vT26 x0 u5 x0.L.length u7)))] fun junk => ?_
  refine Gn 2 [] (Yt 10 B115 [0, 1] (Ys 11 B115 [])) ?_
  refine Ob 27 (.tmp 0) 1 0 (ag (vT26 x0 u5 x0.L.length u7)) (vT26 x0 u5 x0.L.length u7) p0 Goes.v fun b1 w2 z2 p2 => ?_
  refine Oa 219 2 0 (.agg #[.slice none 0 0, .bool false]) [.slice none 0 0, .bool false] p2 Goes.v fun b3 w3 z3 p3 => ?_
  refine Gn 5 [(7, (pt b1 0))] (Yt 1100 B115 [1] (Ys 1101 B115 J8p)) ?_
  refine Goes.ld 3 (.tmp 7) 8 3 ⟨b1, 0, none⟩ (.i x0.Kind) (p3.c 1 0) ?_
  refine Gm 7 [([10, 9], .bool (decide (x0.Kind = 1)))] (Ys 110101 B115 J8q) ?_
  refine Gi h (fun h5 h => ?_) fun h5 h => ?_
  ·
   rw [dt h5]
   refine Gn 4 [(11, (pt b1 1))] (Yt 11010100 B115 [1, 2, 3] J94) ?_
   refine Goes.ldN 24 (.tmp 11) 12 24 ⟨b1, 1, none⟩ (U4 x0.Set []) (p3.pa 1 1) ?_
   refine Gb h fun y6 e7 h => ?_
   refine Gc (kc 181 [12] #[24]) 13 219 181 _ (W.zp x0.Set y6 e7 _ p3 (els_mk4 (S := S0) (w := w3) (k := .u64) um) rfl) ?_
   rintro _ w4 ⟨S4, u56, u57, u58, rfl, z4, p4, u59, rfl⟩
   have p4 := p4.dp 1
   refine So 219 (.tmp 2) (.tmp 13) 0 0 b3 0 (ag (vT218 y6 u56 y6.l.length u58)) (vT218 y6 u56 y6.l.length u58) p4 rfl Goes.s fun w5 z5 p5 => ?_
   refine Gn 1 [] J94 ?_
   obtain rfl := sj h
   exact R1 Tryz.f115 (.cell 2 219) (ag (vT218 y6 u56 y6.l.length u58)) (Rn b3 (p5.pa 0 0)) ⟨_, _, _, _, rfl, (((z2.t z3).t z4).t z5), p5.drop, (u59.ext z5), rfl⟩
  ·
   rw [df h5]
   refine Gm 6 [([15, 14], .bool (decide (x0.Kind = 2)))] (Ys 11010111 B115 J8q) ?_
   refine Gi h (fun h8 h => ?_) fun h8 h => ?_
   ·
    rw [dt h8]
    refine Gn 4 [(16, (pt b1 5))] (Yt 1101011100 B115 [1, 2, 3] J97) ?_
    refine Goes.ld 25 (.tmp 16) 17 25 ⟨b1, 5, none⟩ (.slice u5 x0.L.length u7) (p3.c 1 5) ?_
    refine Gb h fun y9 e10 h => ?_
    refine Gc (kc 182 [17] #[25]) 18 219 182 _ (ih_gram_row x0.L y9 e10 _ _ _ p3 (un.ext (z2.t z3)) rfl) ?_
    rintro _ w6 ⟨S6, u5a, u5b, u5c, rfl, z6, p6, u5d, rfl⟩
    have p6 := p6.dp 1
    refine So 219 (.tmp 2) (.tmp 18) 0 0 b3 0 (ag (vT218 y9 u5a y9.l.length u5c)) (vT218 y9 u5a y9.l.length u5c) p6 rfl Goes.s fun w7 z7 p7 => ?_
    refine Gn 1 [] J97 ?_
    obtain rfl := sj h
    exact R1 Tryz.f115 (.cell 2 219) (ag (vT218 y9 u5a y9.l.length u5c)) (Rn b3 (p7.pa 0 0)) ⟨_, _, _, _, rfl, (((z2.t z3).t z6).t z7), p7.drop, (u5d.ext z7), rfl⟩
   ·
    rw [df h8]
    refine Gm 6 [([20, 19], .bool (decide (x0.Kind = 3)))] (Ys 1101011111 B115 J8q) ?_
    refine Gi h (fun h11 h => ?_) fun h11 h => ?_
    ·
     rw [dt h11]
     refine Gn 3 [] (Yt 110101111100 B115 [0, 1, 2] (Ys 110101111101 B115 J8q)) ?_
     refine Gb h fun y12 e13 h => ?_
     refine Gc (.call { callee := .value (.func 183), args := #[(.const (.slice none 0 0))], argTypes := #[43] }) 21 219 183 _ (W.zz y12 e13  p3 ) ?_
     rintro _ w8 ⟨S8, u5e, u5f, u5g, rfl, z8, p8, u5h, rfl⟩
     refine Oa 219 3 0 (.agg #[.slice none 0 0, .bool false]) [.slice none 0 0, .bool false] p8 Goes.v fun b14 w9 z9 p9 => ?_
     refine So 219 (.tmp 3) (.tmp 21) 0 0 b14 0 (ag (vT218 y12 u5e y12.l.length u5g)) (vT218 y12 u5e y12.l.length u5g) p9 rfl Goes.s fun w10 z10 p10 => ?_
     refine Gn 5 [(22, (pt b1 5))] (Yt 11010111110100 B115 [1, 2, 3] (Ys 11010111110101 B115 J8r)) ?_
     refine Goes.ld 25 (.tmp 22) 23 25 ⟨b1, 5, none⟩ (.slice u5 x0.L.length u7) (p10.c 2 5) ?_
     refine Gn 5 [(24, .i (x0.L.length : Int)), (25, .i 0)] J8u ?_
     have p10 : Hp nz wz S8 w10 ((none, .row 9 [] (0 * kStr.size) 0) :: (some b14, .row 219 (vT218 y12 u5e y12.l.length u5g) 2 0) :: (some b3, .row 219 [.slice none 0 0, .bool false] 2 0) :: (some b1, .row 27 (vT26 x0 u5 x0.L.length u7) 8 0) :: Lr) := p10.nilRow' 9
     have p10 := p10.dp 3
     have p10 := ((p10.fr 1).fr 1).fr 2
     exact Gj 61 [(2, (pt b3 0)), (3, (pt b14 0)), (23, .slice u5 x0.L.length u7), (24, .i (x0.L.length : Int)), (25, .i 0)] (u55 _ _ h _ _ ((((z2.t z3).t z8).t z9).t z10) _ none 0 0 [] _ _ _ _ _ _ _ p10 (Els.nil (K := kStr)) rfl (u5h.ext (z9.t z10)) rfl (un.ext ((((z2.t z3).t z8).t z9).t z10)) rfl)
    ·
     rw [df h11]
     refine Gn 7 [(49, (pt b1 6))] (Zr Q7g [1, 2, 3, 4] J9f) ?_
     refine Goes.ld 3 (.tmp 49) 50 3 ⟨b1, 6, none⟩ (.i x0.Min) (p3.c 1 6) ?_
     refine Gn 1 [(51, (pt b1 7))] (Zr Q7g [3, 4] J9f) ?_
     refine Goes.ld 3 (.tmp 51) 52 3 ⟨b1, 7, none⟩ (.i x0.Max) (p3.c 1 7) ?_
     refine Gn 2 [(53, .bool (!(decide (x0.Min = x0.Max))))] J9f ?_
     refine Gi h (fun h20 h => ?_) fun h20 h => ?_
     ·
      rw [dt h20]
      refine Gn 5 [(55, (pt b1 5))] (Zr Q7i [1, 2, 3, 4, 5, 6] J9i) ?_
      refine Goes.ld 25 (.tmp 55) 56 25 ⟨b1, 5, none⟩ (.slice u5 x0.L.length u7) (p3.c 1 5) ?_
      refine Gn 1 [(57, (pt b1 6))] (Zr Q7i [3, 4, 5, 6] J9i) ?_
      refine Goes.ld 3 (.tmp 57) 58 3 ⟨b1, 6, none⟩ (.i x0.Min) (p3.c 1 6) ?_
      refine Gb h fun y21 e22 h => ?_
      refine Gc (kc 186 [56, 58] #[25, 3]) 59 25 186 _ (W.z19 x0.L x0.Min y21 e22 _ _ _ p3 (un.ext (z2.t z3)) rfl) ?_
      rintro _ w11 ⟨S11, u5i, u5j, u5k, u5l, rfl, z11, p11, u5m, rfl⟩
      have p11 := p11.dp 2
      obtain ⟨S12, z12, p12, f24⟩ := p11.freezeRd 0 rfl u5m (by decide)
      refine Gb h fun y25 e26 h => ?_
      refine Gc (kc 182 [59] #[25]) 60 219 182 _ (ih_gram_row y21 y25 e26 _ _ _ p12 f24 rfl) ?_
      rintro _ w13 ⟨S13, u5n, u5o, u5p, rfl, z13, p13, u5q, rfl⟩
      have p13 := p13.dp 0
      refine So 219 (.tmp 2) (.tmp 60) 0 0 b3 0 (ag (vT218 y25 u5n y25.l.length u5p)) (vT218 y25 u5n y25.l.length u5p) p13 rfl Goes.s fun w14 z14 p14 => ?_
      refine Gn 1 [] J9i ?_
      obtain rfl := sj h
      exact R1 Tryz.f115 (.cell 2 219) (ag (vT218 y25 u5n y25.l.length u5p)) (Rn b3 (p14.pa 0 0)) ⟨_, _, _, _, rfl, (((((z2.t z3).t z11).t z12).t z13).t z14), p14.drop, (u5q.ext z14), rfl⟩
     ·
      rw [df h20]
      refine Gn 3 [] (Yt 1110100 B115 [0, 1] J9l) ?_
      refine Gb h fun y27 e28 h => ?_
      refine Gc (kc 184 [] #[]) 54 219 184 _ (W.zo y27 e28  p3 ) ?_
      rintro _ w15 ⟨S15, u5r, u5s, u5t, rfl, z15, p15, u5u, rfl⟩
      have p15 := p15.dp 1
      refine So 219 (.tmp 2) (.tmp 54) 0 0 b3 0 (ag (vT218 y27 u5r y27.l.length u5t)) (vT218 y27 u5r y27.l.length u5t) p15 rfl Goes.s fun w16 z16 p16 => ?_
      refine Gn 1 [] J9l ?_
      obtain rfl := sj h
      exact R1 Tryz.f115 (.cell 2 219) (ag (vT218 y27 u5r y27.l.length u5t)) (Rn b3 (p16.pa 0 0)) ⟨_, _, _, _, rfl, (((z2.t z3).t z15).t z16), p16.drop, (u5u.ext z16), rfl⟩
 ·
  intro rec_gram_tell u5v ih_gram_tell u5w ⟨x2v, x3v, x23, x24, x25⟩ r h nz wz S0 w0 Lr S1 w1 hx gx2 u2h u2i u2j u2k gx3 u33 u34 u35 u1o u1p u1q p1 u2o u2p u3j u25 u1v u1w junk
  try dsimp only at h
  subst u2p
  subst u25
  subst u1w
  refine Gn 5 [(26, .bool (decide (x25 < x24)))] (Ys 110101111101010010 B115 (Ys 110101111101010011 B115 J8t)) ?_
  refine Gi h (fun h29 h => ?_) fun h29 h => ?_
  ·
   rw [dt h29]
   refine Gn 6 [] (Yt 110101111101010011000 B115 [0, 1, 2, 3] (Ys 110101111101010011001 B115 J8w)) ?_
   refine Gg h fun g30 h => ?_
   refine Gg h fun g31 h => ?_
   refine Oi 25 (.tmp 23) (.tmp 25) 27 0 27 .i64 x25 (gi x23 x25) rfl rfl u1v Goes.v g30 g31 fun a32 _ f33 q34 => ?_
   have q35 := q34
   obtain ⟨_, _, rfl, rfl, ⟨_, _, rfl, ⟨l36, f37⟩, ⟨_, _, rfl, ⟨A38, c39, rfl, f40⟩, ⟨_, _, rfl, rfl, rfl⟩⟩⟩⟩ := kT26_open q35
   obtain rfl := els_lit4' f37 l36
   refine Goes.ldN 27 (.tmp 27) 28 27 a32 ([.i ((gi x23 x25).Kind)] ++ ((U4 ((gi x23 x25).Set) []) ++ ([.slice A38 (((gi x23 x25).L).length) c39] ++ ([.i ((gi x23 x25).Min)] ++ [.i ((gi x23 x25).Max)])))) (f33.cell) ?_
   refine Oa 27 5 0 (.agg #[.i 0, .u 0, .u 0, .u 0, .u 0, .slice none 0 0, .i 0, .i 0]) [.i 0, .u 0, .u 0, .u 0, .u 0, .slice none 0 0, .i 0, .i 0] p1 Goes.v fun b41 w17 z17 p17 => ?_
   refine So 27 (.tmp 5) (.tmp 28) 0 0 b41 0 (ag (.i ((gi x23 x25).Kind) :: U4 ((gi x23 x25).Set) [.slice A38 (((gi x23 x25).L).length) c39, .i ((gi x23 x25).Min), .i ((gi x23 x25).Max)])) (.i ((gi x23 x25).Kind) :: U4 ((gi x23 x25).Set) [.slice A38 (((gi x23 x25).L).length) c39, .i ((gi x23 x25).Min), .i ((gi x23 x25).Max)]) p17 rfl Goes.s fun w18 z18 p18 => ?_
   refine Gn 3 [] (Yt 1101011111010100110010 B115 [0, 1, 2, 3] (Ys 1101011111010100110011 B115 J8w)) ?_
   refine Goes.ldN 27 (.tmp 5) 29 27 ⟨b41, 0, none⟩ (.i ((gi x23 x25).Kind) :: U4 ((gi x23 x25).Set) [.slice A38 (((gi x23 x25).L).length) c39, .i ((gi x23 x25).Min), .i ((gi x23 x25).Max)]) (p18.pa 0 0) ?_
   refine Gb h fun y43 e44 h => ?_
   refine Gc (kc 115 [29] #[27]) 30 219 115 _ (ih_gram_tell (⟨(gi x23 x25).Kind, ((gi x23 x25).Set), (gi x23 x25).L, (gi x23 x25).Min, (gi x23 x25).Max⟩ : T26) y43 e44 _ _ _ p18 l36 (f40.ext (z17.t z18)) rfl) ?_
   rintro _ w19 ⟨S19, u5x, u5y, u5z, rfl, z19, p19, u60, rfl⟩
   have p19 := p19.dp 0
   refine Oa 219 6 0 (.agg #[.slice none 0 0, .bool false]) [.slice none 0 0, .bool false] p19 Goes.v fun b45 w20 z20 p20 => ?_
   refine So 219 (.tmp 6) (.tmp 30) 0 0 b45 0 (ag (vT218 y43 u5x y43.l.length u5z)) (vT218 y43 u5x y43.l.length u5z) p20 rfl Goes.s fun w21 z21 p21 => ?_
   refine Gn 5 [(31, (pt b45 1))] (Zr Q7r [1, 2, 3, 4, 5, 6, 7] J8y) ?_
   refine Goes.ld 4 (.tmp 31) 32 4 ⟨b45, 1, none⟩ (.bool y43.known) (p21.c 0 1) ?_
   refine Gm 2 [([33, 34], .bool (!y43.known))] (Zr Q7r [4, 5, 6, 7] J8y) ?_
   refine Gi h (fun h47 h => ?_) fun h47 h => ?_
   ·
    rw [h47]
    have p21 : Hp nz wz S19 w21 ((some b45, .row 219 [.slice u5x y43.l.length u5z, .bool true] 2 0) :: (some gx2, .row 219 (vT218 x2v (Gp u2h) x2v.l.length u2j) 2 0) :: (u2h, .row 9 u2k (u2j * kStr.size) 0) :: (some gx3, .row 219 (vT218 x3v u33 x3v.l.length u35) 2 0) :: Lr) := by simp only [vT26, wT29, vT218, vT134, vT370, h47] at p21; exact p21
    refine Gn 1 [(35, (pt gx3 1))] (Zr Q7r [5, 6, 7] J8y) ?_
    refine Goes.ld 4 (.tmp 35) 36 4 ⟨gx3, 1, none⟩ (.bool x3v.known) (p21.c 3 1) ?_
    refine Gm 3 [([37, 38], .bool (!x3v.known))] J8y ?_
    have p21 := (((p21.fr 0).fr 3).fr 3).fr 3
    exact Gj 61 [(2, (pt gx2 0)), (3, (pt gx3 0)), (6, (pt b45 0)), (23, .slice u1o x23.length u1q), (24, .i x24), (25, .i x25), (38, .bool (!x3v.known))] (u5w _ _ h _ _ (((((hx.t z17).t z18).t z19).t z20).t z21) _ _ _ _ _ _ _ _ _ _ _ _ _ _ _ _ p21 (u2o.ext ((((z17.t z18).t z19).t z20).t z21)) rfl (u3j.ext ((((z17.t z18).t z19).t z20).t z21)) rfl (u60.ext (z20.t z21)) rfl (u1v.ext ((((z17.t z18).t z19).t z20).t z21)) rfl)
   ·
    have u61 := bf h47
    rw [u61]
    have p21 : Hp nz wz S19 w21 ((some b45, .row 219 [.slice u5x y43.l.length u5z, .bool false] 2 0) :: (some gx2, .row 219 (vT218 x2v (Gp u2h) x2v.l.length u2j) 2 0) :: (u2h, .row 9 u2k (u2j * kStr.size) 0) :: (some gx3, .row 219 (vT218 x3v u33 x3v.l.length u35) 2 0) :: Lr) := by simp only [vT26, wT29, vT218, vT134, vT370, u61] at p21; exact p21
    refine Gm 5 [([35, 36, 37], undef), ([38], .bool true)] J8y ?_
    have p21 := (((p21.fr 0).fr 3).fr 3).fr 3
    exact Gj 61 [(2, (pt gx2 0)), (3, (pt gx3 0)), (6, (pt b45 0)), (23, .slice u1o x23.length u1q), (24, .i x24), (25, .i x25), (38, .bool true)] (u5w _ _ h _ _ (((((hx.t z17).t z18).t z19).t z20).t z21) _ _ _ _ _ _ _ _ _ _ _ _ _ _ _ _ p21 (u2o.ext ((((z17.t z18).t z19).t z20).t z21)) rfl (u3j.ext ((((z17.t z18).t z19).t z20).t z21)) rfl (u60.ext (z20.t z21)) rfl (u1v.ext ((((z17.t z18).t z19).t z20).t z21)) rfl)
  ·
   rw [df h29]
   refine Gn 4 [] (Yt 11010111110110 B115 [0, 1] J9w) ?_
   refine Goes.ldN 219 (.tmp 3) 48 219 ⟨gx3, 0, none⟩ (vT218 x3v u33 x3v.l.length u35) (p1.pa 2 0) ?_
   refine So 219 (.tmp 2) (.tmp 48) 0 0 gx2 0 (ag (vT218 x3v u33 x3v.l.length u35)) (vT218 x3v u33 x3v.l.length u35) p1 rfl Goes.s fun w22 z22 p22 => ?_
   refine Gn 1 [] J9w ?_
   obtain rfl := sj h
   have p22 := (p22.dp 1).dp 1
   exact R1 Tryz.f115 (.cell 2 219) (ag (vT218 x3v u33 x3v.l.length u35)) (Rn gx2 (p22.pa 0 0)) ⟨_, _, _, _, rfl, (hx.t z22), p22.drop, (u3j.ext z22), rfl⟩
 ·
  intro u54 u55 ⟨x2v, x3v, x6v, x23, x24, x25, x38⟩ r h nz wz S0 w0 Lr S1 w1 hx gx2 u2h u2i u2j u2k gx3 u33 u34 u35 gx6 u51 u52 u53 u1o u1p u1q p1 u2o u2p u3j u25 u62 u63 u1v u1w junk
  try dsimp only at h
  subst u2p
  subst u25
  subst u63
  subst u1w
  refine Gi h (fun h52 h => ?_) fun h52 h => ?_
  ·
   rw [h52]
   refine Gn 3 [] (Yt 11010111110101001100110100 B115 [0, 1] J9y) ?_
   refine Gb h fun y53 e54 h => ?_
   refine Gc (kc 184 [] #[]) 39 219 184 _ (W.zo y53 e54  p1 ) ?_
   rintro _ w23 ⟨S23, u64, u65, u66, rfl, z23, p23, u67, rfl⟩
   have p23 := (p23.dp 2).dp 2
   refine So 219 (.tmp 2) (.tmp 39) 0 0 gx2 0 (ag (vT218 y53 u64 y53.l.length u66)) (vT218 y53 u64 y53.l.length u66) p23 rfl Goes.s fun w24 z24 p24 => ?_
   refine Gn 1 [] J9y ?_
   obtain rfl := sj h
   have p24 := p24.dp 1
   exact R1 Tryz.f115 (.cell 2 219) (ag (vT218 y53 u64 y53.l.length u66)) (Rn gx2 (p24.pa 0 0)) ⟨_, _, _, _, rfl, ((hx.t z23).t z24), p24.drop, (u67.ext z24), rfl⟩
  ·
   rw [bf h52]
   refine Gn 4 [(40, (pt gx3 0))] (Zr Q6x [1, 2, 3, 4, 5, 6, 7] J8w) ?_
   refine Goes.ld 43 (.tmp 40) 41 43 ⟨gx3, 0, none⟩ (.slice u33 x3v.l.length u35) (p1.c 2 0) ?_
   refine Gn 1 [(42, (pt gx6 0))] (Zr Q6x [3, 4, 5, 6, 7] J8w) ?_
   refine Goes.ld 43 (.tmp 42) 43 43 ⟨gx6, 0, none⟩ (.slice u51 x6v.l.length u53) (p1.c 3 0) ?_
   have f56 : Els (kSl kStr) S1 w1 ([.slice u33 x3v.l.length u35, .slice u51 x6v.l.length u53] : List Value) [x3v.l, x6v.l] := by exact (Els.cons (K := (kSl kStr)) (vs := [.slice u33 x3v.l.length u35]) (x := x3v.l) ⟨_, _, rfl, u3j⟩ (Els.cons (K := (kSl kStr)) (vs := [.slice u51 x6v.l.length u53]) (x := x6v.l) ⟨_, _, rfl, u62⟩ Els.nil))
   refine Om (.buildSlice 335 2 #[(0, (.tmp 41)), (1, (.tmp 43))]) 44 335 (fun b => .slice (Gp (some b)) 2 2) 43 ([.slice u33 x3v.l.length u35, .slice u51 x6v.l.length u53] : List Value) (2 * (kSl kStr).size) p1 Goes.v fun b55 w25 z25 p25 => ?_
   obtain ⟨S26, z26, p26, f58⟩ := p25.freezeRd 0 rfl (f56.ext z25) (by decide)
   refine Gb h fun y59 e60 h => ?_
   refine Gc (kc 185 [44] #[335]) 45 43 185 _ (W.z12 [x3v.l, x6v.l] y59 e60 _ _ _ p26 f58 rfl) ?_
   rintro _ w27 ⟨S27, u69, u6a, u6b, u6c, rfl, z27, p27, u6d, rfl⟩
   have p27 := (p27.dp 1).dp 4
   refine Gb h fun y62 e63 h => ?_
   refine Gc (kc 183 [45] #[43]) 46 219 183 _ (W.zt y59 y62 e63 _ _ _ _ p27 u6d rfl) ?_
   rintro _ w28 ⟨S28, u6e, u6f, u6g, rfl, z28, p28, u6h, rfl⟩
   refine So 219 (.tmp 3) (.tmp 46) 0 2 gx3 0 (ag (vT218 y62 u6e y62.l.length u6g)) (vT218 y62 u6e y62.l.length u6g) p28 rfl Goes.s fun w29 z29 p29 => ?_
   refine Gm 7 [([47, 25], .i (wr .i64 (x25 + 1)))] J8u ?_
   exact Gj 61 [(2, (pt gx2 0)), (3, (pt gx3 0)), (23, .slice u1o x23.length u1q), (24, .i x24), (25, .i (wr .i64 (x25 + 1)))] (u55 _ _ h _ _ (((((hx.t z25).t z26).t z27).t z28).t z29) _ _ _ _ _ _ _ _ _ _ _ _ p29 (u2o.ext ((((z25.t z26).t z27).t z28).t z29)) rfl (u6h.ext z29) rfl (u1v.ext ((((z25.t z26).t z27).t z28).t z29)) rfl)
 ·
  intro u6i u6j x0 r h nz wz S0 w0 Lr Ax0 nx0 cx0 p0 fx0 lx0
  try dsimp only at h
  subst lx0
  refine Zf Tryz.f182 B182 22 ?_
  refine Gj 23 [(0, .slice Ax0 x0.length cx0)] fun junk => ?_
  refine Gn 2 [] (Yt 10 B182 [0] (Ys 11 B182 [])) ?_
  refine Oa 219 2 0 (.agg #[.slice none 0 0, .bool false]) [.slice none 0 0, .bool false] p0 Goes.v fun b1 w2 z2 p2 => ?_
  refine Gn 3 [] (Yt 110 B182 [0, 1, 2, 3] (Ys 111 B182 [])) ?_
  have f4 : Els kStr S0 w2 ([.string (⟨#[]⟩ : ByteArray)] : List Value) [(⟨#[]⟩ : ByteArray)] := by exact (Els.cons (K := kStr) (vs := [.string (⟨#[]⟩ : ByteArray)]) (x := (⟨#[]⟩ : ByteArray)) rfl Els.nil)
  refine Om (.buildSlice 43 1 #[(0, (.const (.string ⟨#[]⟩)))]) 6 43 (fun b => .slice (Gp (some b)) 1 1) 9 ([.string (⟨#[]⟩ : ByteArray)] : List Value) (1 * kStr.size) p2 Goes.v fun b3 w3 z3 p3 => ?_
  refine Gb h fun y6 e7 h => ?_
  refine Gc (kc 183 [6] #[43]) 7 219 183 _ (W.zt [(⟨#[]⟩ : ByteArray)] y6 e7 (some b3) _ _ _ p3 (f4.ext z3) rfl) ?_
  rintro _ w4 ⟨S4, u56, u57, u58, rfl, z4, p4, u59, rfl⟩
  refine Oa 219 3 0 (.agg #[.slice none 0 0, .bool false]) [.slice none 0 0, .bool false] p4 Goes.v fun b8 w5 z5 p5 => ?_
  refine So 219 (.tmp 3) (.tmp 7) 0 0 b8 0 (ag (vT218 y6 u56 y6.l.length u58)) (vT218 y6 u56 y6.l.length u58) p5 rfl Goes.s fun w6 z6 p6 => ?_
  refine Gn 10 [(8, .slice Ax0 x0.length cx0), (9, .i (x0.length : Int)), (10, .i 0)] J8o ?_
  have p6 : Hp nz wz S4 w6 ((none, .row 9 [] (0 * kStr.size) 0) :: (some b8, .row 219 (vT218 y6 u56 y6.l.length u58) 2 0) :: (some b1, .row 219 [.slice none 0 0, .bool false] 2 0) :: Lr) := p6.nilRow' 9
  have p6 := ((p6.fr 1).fr 1).fr 2
  exact Gj 23 [(2, (pt b1 0)), (3, (pt b8 0)), (8, .slice Ax0 x0.length cx0), (9, .i (x0.length : Int)), (10, .i 0)] (u6j _ _ h _ _ ((((z2.t z3).t z4).t z5).t z6) _ none 0 0 [] _ _ _ _ _ _ _ p6 (Els.nil (K := kStr)) rfl (u59.ext (z5.t z6)) rfl (fx0.ext ((((z2.t z3).t z4).t z5).t z6)) rfl)
 ·
  intro rec_gram_tell u6i ih_gram_tell u6j ⟨x2v, x3v, x8, x9, x10⟩ r h nz wz S0 w0 Lr S1 w1 hx gx2 u2h u2i u2j u2k gx3 u33 u34 u35 Ax8 nx8 cx8 p1 u2o u2p u3j u25 fx8 lx8 junk
  try dsimp only at h
  subst u2p
  subst u25
  subst lx8
  refine Gn 5 [(11, .bool (decide (x10 < x9)))] (Ys 111010010 B182 (Ys 111010011 B182 J8n)) ?_
  refine Gi h (fun h14 h => ?_) fun h14 h => ?_
  ·
   rw [dt h14]
   refine Gn 6 [] (Yt 111010011000 B182 [0, 1, 2, 3] (Ys 111010011001 B182 Ja9)) ?_
   refine Gg h fun g15 h => ?_
   refine Gg h fun g16 h => ?_
   refine Oi 25 (.tmp 8) (.tmp 10) 12 0 27 .i64 x10 (gi x8 x10) rfl rfl fx8 Goes.v g15 g16 fun a17 _ f18 q19 => ?_
   have q20 := q19
   obtain ⟨_, _, rfl, rfl, ⟨_, _, rfl, ⟨l21, f22⟩, ⟨_, _, rfl, ⟨A23, c24, rfl, f25⟩, ⟨_, _, rfl, rfl, rfl⟩⟩⟩⟩ := kT26_open q20
   obtain rfl := els_lit4' f22 l21
   refine Goes.ldN 27 (.tmp 12) 13 27 a17 ([.i ((gi x8 x10).Kind)] ++ ((U4 ((gi x8 x10).Set) []) ++ ([.slice A23 (((gi x8 x10).L).length) c24] ++ ([.i ((gi x8 x10).Min)] ++ [.i ((gi x8 x10).Max)])))) (f18.cell) ?_
   refine Oa 27 5 0 (.agg #[.i 0, .u 0, .u 0, .u 0, .u 0, .slice none 0 0, .i 0, .i 0]) [.i 0, .u 0, .u 0, .u 0, .u 0, .slice none 0 0, .i 0, .i 0] p1 Goes.v fun b26 w7 z7 p7 => ?_
   refine So 27 (.tmp 5) (.tmp 13) 0 0 b26 0 (ag (.i ((gi x8 x10).Kind) :: U4 ((gi x8 x10).Set) [.slice A23 (((gi x8 x10).L).length) c24, .i ((gi x8 x10).Min), .i ((gi x8 x10).Max)])) (.i ((gi x8 x10).Kind) :: U4 ((gi x8 x10).Set) [.slice A23 (((gi x8 x10).L).length) c24, .i ((gi x8 x10).Min), .i ((gi x8 x10).Max)]) p7 rfl Goes.s fun w8 z8 p8 => ?_
   refine Gn 2 [] (Ys 1110100110010 B182 (Ys 1110100110011 B182 Ja9)) ?_
   have z9 : Ext S1 w8 S1 (w8).drew := Ext.draw
   have p9 := p8.draw
   refine Gd [3, 4] (Fc S1 (w8).drew [(⟨gx3, 0, none⟩, .slice u33 x3v.l.length u35), (⟨gx3, 1, none⟩, .bool x3v.known), (⟨b26, 0, none⟩, .i ((gi x8 x10).Kind)), (⟨b26, 1, none⟩, .u (gi ((gi x8 x10).Set) 0)), (⟨b26, 2, none⟩, .u (gi ((gi x8 x10).Set) 1)), (⟨b26, 3, none⟩, .u (gi ((gi x8 x10).Set) 2)), (⟨b26, 4, none⟩, .u (gi ((gi x8 x10).Set) 3)), (⟨b26, 5, none⟩, .slice A23 (((gi x8 x10).L).length) c24), (⟨b26, 6, none⟩, .i ((gi x8 x10).Min)), (⟨b26, 7, none⟩, .i ((gi x8 x10).Max))]) 5 5 ?_
   generalize (w8).drew = w9 at z9 p9 ⊢
   refine AnyG.ldN (i := 0) 219 (.tmp 3) 14 219 ⟨gx3, 0, none⟩ (vT218 x3v u33 x3v.l.length u35) (by kernel_rfl) (by kernel_rfl) (Fc.here (p9.cs [(3, 0, 2), (0, 0, 8)])) (by kernel_rfl) (by kernel_rfl) (by kernel_rfl) (fun _ h j v hj => by match j, hj with | 0, rfl => exact h.2.at_ 0 rfl | 1, rfl => exact h.2.at_ 1 rfl | (j + 2), hj => simp at hj) ?_
   refine AnyG.ldN (i := 1) 27 (.tmp 5) 15 27 ⟨b26, 0, none⟩ (.i ((gi x8 x10).Kind) :: U4 ((gi x8 x10).Set) [.slice A23 (((gi x8 x10).L).length) c24, .i ((gi x8 x10).Min), .i ((gi x8 x10).Max)]) (by kernel_rfl) (by kernel_rfl) (Fc.here (p9.cs [(3, 0, 2), (0, 0, 8)])) (by kernel_rfl) (by kernel_rfl) (by kernel_rfl) (fun _ h j v hj => by match j, hj with | 0, rfl => exact h.2.at_ 2 rfl | 1, rfl => exact h.2.at_ 3 rfl | 2, rfl => exact h.2.at_ 4 rfl | 3, rfl => exact h.2.at_ 5 rfl | 4, rfl => exact h.2.at_ 6 rfl | 5, rfl => exact h.2.at_ 7 rfl | 6, rfl => exact h.2.at_ 8 rfl | 7, rfl => exact h.2.at_ 9 rfl | (j + 8), hj => simp at hj) ?_
   refine Gb h fun y28 e29 h => ?_
   refine Oc (kc 115 [15] #[27]) 16 219 115 #[(ag (.i ((gi x8 x10).Kind) :: U4 ((gi x8 x10).Set) [.slice A23 (((gi x8 x10).L).length) c24, .i ((gi x8 x10).Min), .i ((gi x8 x10).Max)]))] (Ac 2) (ih_gram_tell (⟨(gi x8 x10).Kind, ((gi x8 x10).Set), (gi x8 x10).L, (gi x8 x10).Min, (gi x8 x10).Max⟩ : T26) y28 e29 _ _ _ p9 l21 (f25.ext ((z7.t z8).t z9)) rfl) ?_
   rintro _ w10 ⟨S10, u6k, u6l, u6m, rfl, z10, p10, u6n, rfl⟩
   refine AnyG.next z10 ⟨(p10.c 3 0), (p10.c 3 1), (p10.c 0 0), (p10.c 0 1), (p10.c 0 2), (p10.c 0 3), (p10.c 0 4), (p10.c 0 5), (p10.c 0 6), (p10.c 0 7), trivial⟩ ?_
   refine Gb h fun y30 e31 h => ?_
   refine Oc (kc 231 [14, 16] #[219, 219]) 17 219 231 #[(ag (vT218 x3v u33 x3v.l.length u35)), (ag (vT218 y28 u6k y28.l.length u6m))] (Ac 3) (W.zu x3v y28 y30 e31 _ _ _ _ _ _ p10 (u3j.ext (((z7.t z8).t z9).t z10)) rfl u6n rfl) ?_
   rintro _ w11 ⟨S11, u6o, u6p, u6q, rfl, z11, p11, u6r, rfl⟩
   refine AnyG.last [4] (Fc S11 w11 []) (by decide) ?_
   refine So 219 (.tmp 3) (.tmp 17) 0 3 gx3 0 (ag (vT218 y30 u6o y30.l.length u6q)) (vT218 y30 u6o y30.l.length u6q) p11 rfl (As 4) fun w12 z12 p12 => ?_
   refine AnyG.last [] (Fc S11 w12 []) (by decide) ?_
   refine Ad ?_
   have p12 := p12.dp 0
   refine Gn 3 [(18, (pt gx3 1))] (Yt 11101001100110 B182 [1, 2] Jae) ?_
   refine Goes.ld 4 (.tmp 18) 19 4 ⟨gx3, 1, none⟩ (.bool y30.known) (p12.c 2 1) ?_
   refine Gn 2 [(20, .bool (!y30.known))] Jae ?_
   refine Gi h (fun h32 h => ?_) fun h32 h => ?_
   ·
    rw [h32]
    have p12 : Hp nz wz S11 w12 ((some gx2, .row 219 (vT218 x2v (Gp u2h) x2v.l.length u2j) 2 0) :: (u2h, .row 9 u2k (u2j * kStr.size) 0) :: (some gx3, .row 219 [.slice u6o y30.l.length u6q, .bool true] 2 0) :: Lr) := by simp only [vT26, wT29, vT218, vT134, vT370, h32] at p12; exact p12
    refine Gm 8 [([21, 10], .i (wr .i64 (x10 + 1)))] J8o ?_
    exact Gj 23 [(2, (pt gx2 0)), (3, (pt gx3 0)), (8, .slice Ax8 x8.length cx8), (9, .i x9), (10, .i (wr .i64 (x10 + 1)))] (u6j _ _ h _ _ ((((((hx.t z7).t z8).t z9).t z10).t z11).t z12) _ _ _ _ _ _ _ _ _ _ _ _ p12 (u2o.ext (((((z7.t z8).t z9).t z10).t z11).t z12)) rfl (u6r.ext z12) rfl (fx8.ext (((((z7.t z8).t z9).t z10).t z11).t z12)) rfl)
   ·
    have u6s := bf h32
    rw [u6s]
    have p12 : Hp nz wz S11 w12 ((some gx2, .row 219 (vT218 x2v (Gp u2h) x2v.l.length u2j) 2 0) :: (u2h, .row 9 u2k (u2j * kStr.size) 0) :: (some gx3, .row 219 [.slice u6o y30.l.length u6q, .bool false] 2 0) :: Lr) := by simp only [vT26, wT29, vT218, vT134, vT370, u6s] at p12; exact p12
    refine Gn 4 [] Jah ?_
    refine Goes.ldN 219 (.tmp 3) 22 219 ⟨gx3, 0, none⟩ [.slice u6o y30.l.length u6q, .bool false] (p12.pa 2 0) ?_
    refine So 219 (.tmp 2) (.tmp 22) 0 0 gx2 0 (.agg #[.slice u6o y30.l.length u6q, .bool false]) [.slice u6o y30.l.length u6q, .bool false] p12 rfl Goes.s fun w13 z13 p13 => ?_
    refine Gn 1 [] Jag ?_
    obtain rfl := sj h
    have p13 := (p13.dp 1).dp 1
    exact R1 Tryz.f182 (.cell 2 219) (.agg #[.slice u6o y30.l.length u6q, .bool false]) (Rn gx2 (p13.pa 0 0)) ⟨_, _, _, _, rfl, (((((((hx.t z7).t z8).t z9).t z10).t z11).t z12).t z13), p13.drop, (u6r.ext (z12.t z13)), rfl⟩
  ·
   rw [df h14]
   refine Gn 4 [] Jah ?_
   refine Goes.ldN 219 (.tmp 3) 22 219 ⟨gx3, 0, none⟩ (vT218 x3v u33 x3v.l.length u35) (p1.pa 2 0) ?_
   refine So 219 (.tmp 2) (.tmp 22) 0 0 gx2 0 (ag (vT218 x3v u33 x3v.l.length u35)) (vT218 x3v u33 x3v.l.length u35) p1 rfl Goes.s fun w14 z14 p14 => ?_
   refine Gn 1 [] Jag ?_
   obtain rfl := sj h
   have p14 := (p14.dp 1).dp 1
   exact R1 Tryz.f182 (.cell 2 219) (ag (vT218 x3v u33 x3v.l.length u35)) (Rn gx2 (p14.pa 0 0)) ⟨_, _, _, _, rfl, (hx.t z14), p14.drop, (u3j.ext z14), rfl⟩

theorem W.z1e : ∀ a r, M.a3 a = some r → LF.z1e a r := (W.z1j).1

theorem W.z1h : ∀ a r, M.a12 a = some r → LL.z1h a r := (W.z1j).2.1

theorem W.z1i : ∀ a r, M.a13 a = some r → LL.z1i a r := (W.z1j).2.2.1

theorem W.z1f : ∀ a r, M.a1t a = some r → LF.z1f a r := (W.z1j).2.2.2.1

theorem W.z1g : ∀ a r, M.a11 a = some r → LL.z1g a r := (W.z1j).2.2.2.2


def Post.z1k (r : ByteArray) (v : Value) (w' : World) : Prop :=
 ∃ S' u6t, v = .func (.func 127) #[] #[(pt u6t 0)] ∧ Ext S0 w0 S' w' ∧ Hp nz wz S' w' ((some u6t, .row 9 [.string r] 1 0) :: Lr)

theorem W.z1k (x0 : ByteArray) (r : ByteArray) (h : M.a5k x0 = some r) {nz wz S0 w0 Lr} (p0 : Hp nz wz S0 w0 (Lr)) :
  Calls Tryz.prog 59 #[.string x0] w0 (Rets (Post.z1k nz wz S0 w0 Lr r)) := by
 refine Zf Tryz.f59 B59 3 ?_
 refine Gj 4 [(0, .string x0)] fun junk => ?_
 delta M.a5k at h
 refine Gn 2 [] (Yt 10 B59 [0, 1] (Ys 11 B59 [])) ?_
 refine Ob 9 (.tmp 0) 1 0 (.string x0) [.string x0] p0 Goes.v fun b1 w2 z2 p2 => ?_
 refine Gm 7 [([2, 3], .func (.func 127) #[] #[(pt b1 0)])] (Ys 111 B59 []) ?_
 obtain rfl := sj h
 exact Goes.rt Tryz.f59 (.func (.func 127) #[] #[(pt b1 0)]) ⟨_, _, rfl, z2, p2⟩

def Jal := Zb 1 []
def Q8e := Yq 1101010 B192
def Q8f := Yq 11010 B192
def Q8g := Yq 110101 B192

def Post.z1l (lk : Nat) (rk : Nat) (jkk : Nat → Value) (u6u : Nat) (u6v : Nat) (u6w : ByteArray) (r : List ByteArray) (v : Value) (w' : World) : Prop :=
 ∃ S' u6x u6y u6z u70, v = .bool true ∧ Ext S0 w0 S' w' ∧ Hp nz wz S' w' ((some lk, .obj (lpst 192 (lfr 13 [(2, (pt u6u 0)), (6, .func (.func 127) #[] #[(pt u6v 0)])] jkk) #[7] (rfAssign (Q8f)) (rfBody (Q8f)) rk .ready none)) :: (some u6u, .row 43 [.slice (Gp u6x) u6y u6z] 1 0) :: (u6x, .row 9 u70 (u6z * kStr.size) 0) :: (some u6v, .row 9 [.string u6w] 1 0) :: Lr) ∧ Els kStr S' w' u70 r ∧ r.length = u6y

theorem W.z1l (u71 : List ByteArray) (u6w : ByteArray) (a0 : ByteArray) (r : List ByteArray) (h : M.a5j u71 u6w a0 = some r) {nz wz S0 w0 Lr} (lk rk jkk u6u u72 u73 u74 u75 u6v) (p0 : Hp nz wz S0 w0 ((some lk, .obj (lpst 192 (lfr 13 [(2, (pt u6u 0)), (6, .func (.func 127) #[] #[(pt u6v 0)])] jkk) #[7] (rfAssign (Q8f)) (rfBody (Q8f)) rk .ready none)) :: (some u6u, .row 43 [.slice (Gp u72) u73 u74] 1 0) :: (u72, .row 9 u75 (u74 * kStr.size) 0) :: (some u6v, .row 9 [.string u6w] 1 0) :: Lr)) (u76 : Els kStr S0 w0 u75 u71) (u77 : u71.length = u73) :
  Goes Tryz.prog (rbase 192 lk) [.code (rfAssign (Q8f)), .beginRound, .code (rfBody (Q8f))] ⟨setp (lfr 13 [(2, (pt u6u 0)), (6, .func (.func 127) #[] #[(pt u6v 0)])] jkk) #[7] #[.string a0], []⟩ w0 (DoneR (Post.z1l nz wz S0 w0 Lr lk rk jkk u6u u6v u6w r)) := by
 subst u77
 refine Gj 13 [(2, (pt u6u 0)), (6, .func (.func 127) #[] #[(pt u6v 0)]), (7, .string a0)] fun junk => ?_
 delta M.a5j at h
 refine Gn 3 [(5, .string a0)] [.beginRound, .code (Q8g)] ?_
 refine Goes.beginR 0 rfl p0 rfl fun w2 z2 p2 => ?_
 refine Gn 2 [] (Zr Q8e [0, 1, 2, 3, 4] Jal) ?_
 refine Goes.ld 43 (.tmp 2) 8 43 ⟨u6u, 0, none⟩ (.slice (Gp u72) u71.length u74) (p2.c 1 0) ?_
 refine Gn 1 [(9, .string a0)] (Zr Q8e [2, 3, 4] Jal) ?_
 have f6 : Els kStr S0 w2 ([.string a0] : List Value) [a0] := by exact (Els.cons (K := kStr) (vs := [.string a0]) (x := a0) rfl Els.nil)
 refine Om (.buildSlice 43 1 #[(0, (.tmp 9))]) 10 43 (fun b => .slice (Gp (some b)) 1 1) 9 ([.string a0] : List Value) (1 * kStr.size) p2 Goes.v fun b5 w3 z3 p3 => ?_
 refine Gg h fun g11 h => ?_
 refine On (K := kStr) 43 (.tmp 8) (.tmp 10) 11 43 9 3 (.string ⟨#[]⟩) 16 u71.length u74 1 u71 [a0] (u71 ++ [a0]) (Gp (some b5)) 1 rfl rfl rfl p3 rfl (u76.ext (z2.t z3)) Goes.v (f6.ext z3) (src_own p3 (q := 0) rfl) g11 fun w4 G12 c13 u78 z4 p4 f15 => ?_
 refine So 43 (.tmp 2) (.tmp 11) 0 2 u6u 0 (.slice (Gp G12) ((u71 ++ [a0]).length) c13) [.slice (Gp G12) ((u71 ++ [a0]).length) c13] p4 rfl Goes.s fun w5 z5 p5 => ?_
 refine Gn 2 [] [] ?_
 have p5 := p5.dp 0
 obtain rfl := sj h
 refine Goes.endR 0 p5 rfl fun w6 z6 p6 => ?_
 exact ⟨S0, G12, (u71 ++ [a0]).length, c13, u78, rfl, ((((z2.t z3).t z4).t z5).t z6), p6, (f15.ext (z5.t z6)), rfl⟩

def Jao := Zb 0 []
def Q8h := Yq 1100 B127
def Jap := Zl Q8h Jao
def Jaq := Zc Q8h Jap
def Jav := Ys 1100110011 B127 (Zb 1 (Ys 1100111 B127 Jap))
def Q8m := Yq 1100110010 B127

def Post.z1m (lx0 : Nat) (rx0 : Nat) (u79 : Nat → Value) (u7a : Nat) (u7b : Nat) (u7c : ByteArray) (r : List ByteArray) (v : Value) (w' : World) : Prop :=
 ∃ S' u6x u6y u6z u70, v = .tuple #[] ∧ Ext S0 w0 S' w' ∧ Hp nz wz S' w' ((some lx0, .obj (lpst 192 (lfr 13 [(2, (pt u7a 0)), (6, .func (.func 127) #[] #[(pt u7b 0)])] u79) #[7] (rfAssign (Q8f)) (rfBody (Q8f)) rx0 .ready none)) :: (some u7a, .row 43 [.slice (Gp u6x) u6y u6z] 1 0) :: (u6x, .row 9 u70 (u6z * kStr.size) 0) :: (some u7b, .row 9 [.string u7c] 1 0) :: Lr) ∧ Els kStr S' w' u70 r ∧ r.length = u6y

def L.z1n (lx0 : Nat) (rx0 : Nat) (u79 : Nat → Value) (u7a : Nat) (u7b : Nat) : Int × Int × (List ByteArray) × ByteArray → (List ByteArray) → Prop := fun ⟨x7, x8, u7d, u7c⟩ r => ∀ S1 w1, Ext S0 w0 S1 w1 → ∀ u6x u6y u6z u70 (_ : Hp nz wz S1 w1 ((some lx0, .obj (lpst 192 (lfr 13 [(2, (pt u7a 0)), (6, .func (.func 127) #[] #[(pt u7b 0)])] u79) #[7] (rfAssign (Q8f)) (rfBody (Q8f)) rx0 .ready none)) :: (some u7a, .row 43 [.slice (Gp u6x) u6y u6z] 1 0) :: (u6x, .row 9 u70 (u6z * kStr.size) 0) :: (some u7b, .row 9 [.string u7c] 1 0) :: Lr)) (_ : Els kStr S1 w1 u70 u7d) (_ : u7d.length = u6y) (junk : Nat → Value),
 Goes Tryz.prog (base 127) Jaq ⟨lfr 20 [(0, yieldV lx0), (1, (pt u7b 0)), (7, .i x7), (8, .i x8)] junk, []⟩ w1 (Done Tryz.prog 127 (Rets (Post.z1m nz wz S0 w0 Lr lx0 rx0 u79 u7a u7b u7c r)))

theorem W.z1n {nz wz S0 w0 Lr} (lx0 : Nat) (rx0 : Nat) (u79 : Nat → Value) (u7a : Nat) (u7b : Nat) : ∀ a r, M.a14 a = some r → (L.z1n nz wz S0 w0 Lr lx0 rx0 u79 u7a u7b) a r := by
 refine M.a14.partial_correctness (motive := (L.z1n nz wz S0 w0 Lr lx0 rx0 u79 u7a u7b)) ?_
 intro u7e u7f ⟨x7, x8, u7d, u7c⟩ r h S1 w1 hx u6x u6y u6z u70 p1 u7g u7h junk
 try dsimp only at h
 subst u7h
 refine Gn 5 [(9, .bool (decide (x8 < x7)))] (Ys 110010 B127 (Ys 110011 B127 Jap)) ?_
 refine Gi h (fun h6 h => ?_) fun h6 h => ?_
 ·
  rw [dt h6]
  refine Gm 12 [([10, 3], .i x8), ([11], yieldV lx0)] (Zr Q8m [1, 2, 3, 4, 5, 6, 7] Jav) ?_
  refine Goes.ld 9 (.tmp 1) 12 9 ⟨u7b, 0, none⟩ (.string u7c) (p1.c 3 0) ?_
  refine Gm 3 [([13, 14], .i x8), ([15], .i (wr .i64 (x8 + 3)))] (Zr Q8m [5, 6, 7] Jav) ?_
  refine Gg h fun g7 h => ?_
  refine Gg h fun g8 h => ?_
  refine Gg h fun g9 h => ?_
  refine Op_.slS_n 9 (.tmp 12) (some (.tmp 13)) (some (.tmp 15)) 16 9 u7c x8 (wr .i64 (x8 + 3)) (ss u7c x8 (wr .i64 (x8 + 3))) rfl Goes.v (by kernel_rfl) (by kernel_rfl) (Bnd.at_ .i64 (by kernel_rfl)) (Bnd.at_ .i64 (by kernel_rfl)) g7 g8 g9 ?_
  refine Gb h fun y10 e11 h => ?_
  refine Goes.yieldAt (.call { callee := .value (.tmp 11), args := #[(.tmp 16)], argTypes := #[9] }) 17 4 0 lx0 #[.string (ss u7c x8 (wr .i64 (x8 + 3)))] p1 rfl (by kernel_rfl) rfl (fun _ => by kernel_rfl) rfl (W.z1l u7d u7c (ss u7c x8 (wr .i64 (x8 + 3))) y10 e11 _ _ _ _ _ _ _ _ _ p1 u7g rfl) ?_
  rintro _ w2 ⟨S2, u7i, u7j, u7k, u7l, rfl, z2, p2, u7m, rfl⟩
  refine Gm 10 [([18], .bool (!true)), ([19, 8], .i (wr .i64 (x8 + 1)))] Jaq ?_
  exact Gj 20 [(0, yieldV lx0), (1, (pt u7b 0)), (7, .i x7), (8, .i (wr .i64 (x8 + 1)))] (u7f _ _ h _ _ (hx.t z2) _ _ _ _ p2 u7m rfl)
 ·
  rw [df h6]
  refine Gn 2 [] [] ?_
  obtain rfl := sj h
  exact Goes.end_ (fn := Tryz.f127) (by kernel_rfl) (v := .tuple #[]) (by kernel_rfl) ⟨S1, u6x, u7d.length, u6z, u70, rfl, hx, p1, u7g, rfl⟩


theorem W.z1m (u7n : List ByteArray) (u7c : ByteArray) (r : List ByteArray) (h : M.a39 u7n u7c = some r) {nz wz S0 w0 Lr} (lx0 rx0 u79 u7a u7o u7p u7q u7r u7b) (p0 : Hp nz wz S0 w0 ((some lx0, .obj (lpst 192 (lfr 13 [(2, (pt u7a 0)), (6, .func (.func 127) #[] #[(pt u7b 0)])] u79) #[7] (rfAssign (Q8f)) (rfBody (Q8f)) rx0 .ready none)) :: (some u7a, .row 43 [.slice (Gp u7o) u7p u7q] 1 0) :: (u7o, .row 9 u7r (u7q * kStr.size) 0) :: (some u7b, .row 9 [.string u7c] 1 0) :: Lr)) (u7s : Els kStr S0 w0 u7r u7n) (u7t : u7n.length = u7p) :
  Calls Tryz.prog 127 #[yieldV lx0, (pt u7b 0)] w0 (Rets (Post.z1m nz wz S0 w0 Lr lx0 rx0 u79 u7a u7b u7c r)) := by
 subst u7t
 refine Zf Tryz.f127 B127 18 ?_
 refine Gj 20 [(0, yieldV lx0), (1, (pt u7b 0))] fun junk => ?_
 delta M.a39 at h
 refine Gn 2 [] (Yt 10 B127 [0, 1, 2, 3, 4] (Ys 11 B127 [])) ?_
 refine Goes.ld 9 (.tmp 1) 4 9 ⟨u7b, 0, none⟩ (.string u7c) (p0.c 3 0) ?_
 refine Gn 7 [(5, .i (u7c.size : Int)), (6, .i (wr .i64 ((u7c.size : Int) - 3))), (7, .i (wr .i64 ((wr .i64 ((u7c.size : Int) - 3)) + 1))), (8, .i 0)] Jaq ?_
 exact Gj 20 [(0, yieldV lx0), (1, (pt u7b 0)), (7, .i (wr .i64 ((wr .i64 ((u7c.size : Int) - 3)) + 1))), (8, .i 0)] (W.z1n lx0 rx0 u79 u7a u7b _ _ h _ _ (Ext.refl S0 w0) _ _ _ _ p0 u7s rfl)

def Jb3 := Zb 0 (Ys 111 B192 [])
def Jb5 := Ys 1111 B192 []

def Post.z1o (u7u : Nat) (u7v : ByteArray) (r : List ByteArray) (v : Value) (w' : World) : Prop :=
 ∃ S' Gq nq cq csq, v = .slice (Gp Gq) nq cq ∧ Ext S0 w0 S' w' ∧ Hp nz wz S' w' ((Gq, .row 9 csq (cq * kStr.size) 0) :: (some u7u, .row 9 [.string u7v] 1 0) :: Lr) ∧ Els kStr S' w' csq r ∧ r.length = nq

theorem W.z1o (u7v : ByteArray) (r : List ByteArray) (h : M.a4h u7v = some r) {nz wz S0 w0 Lr} (u7u) (p0 : Hp nz wz S0 w0 ((some u7u, .row 9 [.string u7v] 1 0) :: Lr)) :
  Calls Tryz.prog 192 #[.slice none 0 0, .func (.func 127) #[] #[(pt u7u 0)]] w0 (Rets (Post.z1o nz wz S0 w0 Lr u7u u7v r)) := by
 refine Zf Tryz.f192 B192 11 ?_
 refine Gj 13 [(0, .slice none 0 0), (1, .func (.func 127) #[] #[(pt u7u 0)])] fun junk => ?_
 delta M.a4h at h
 refine Gn 2 [] (Yt 10 B192 [0, 1] (Ys 11 B192 [])) ?_
 refine Ob 43 (.tmp 0) 2 0 (.slice none 0 0) [.slice none 0 0] p0 Goes.v fun b2 w2 z2 p2 => ?_
 refine Gn 8 [(4, .slice none 0 0), (6, .func (.func 127) #[] #[(pt u7u 0)])] (Zc Q8f Jb3) ?_
 refine Gj 13 [(2, (pt b2 0)), (6, .func (.func 127) #[] #[(pt u7u 0)])] (fun u7w => ?_)
 refine Goes.rangeF (f := 192) (.tmp 6) #[7] 127 #[] #[(pt u7u 0)] (by kernel_rfl) (by kernel_rfl) (fun _ => by kernel_rfl) p2 fun r5 l6 w3 z3 p3 => ?_
 have p3 : Hp nz wz S0 w3 ((none, .row 9 [] (0 * kStr.size) 0) :: (some l6, .obj (lpst 192 (lfr 13 [(2, (pt b2 0)), (6, .func (.func 127) #[] #[(pt u7u 0)])] u7w) #[7] (rfAssign (Q8f)) (rfBody (Q8f)) r5 .ready none)) :: (some r5, .obj (.deferred (some []))) :: (some b2, .row 43 [.slice none 0 0] 1 0) :: (some u7u, .row 9 [.string u7v] 1 0) :: Lr) := p3.nilRow' 9
 have p3 := (((p3.fr 4).fr 1).fr 4).fr 3
 refine Gb h fun y10 e11 h => ?_
 refine ⟨_, W.z1m ([] : List ByteArray) u7v y10 e11 _ _ _ _ none 0 0 [] _ p3 (Els.nil (K := kStr)) rfl, ?_⟩
 rintro _ w4 ⟨S4, u7x, u7y, u7z, u80, rfl, z4, p4, u81, rfl⟩
 refine Goes.endF 0 p4 rfl rfl fun w5 z5 p5 => ?_
 replace p5 : Hp nz wz S4 w5 ((some b2, .row 43 [.slice (Gp u7x) y10.length u7z] 1 0) :: (u7x, .row 9 u80 (u7z * kStr.size) 0) :: (some u7u, .row 9 [.string u7v] 1 0) :: (some r5, .obj (.deferred (some []))) :: Lr) := (p5.front 0 _ rfl).drop
 show Goes _ _ Jb3 _ _ _
 refine Gn 3 [] (Yt 1110 B192 [0, 1] Jb5) ?_
 refine Goes.ld 43 (.tmp 2) 12 43 ⟨b2, 0, none⟩ (.slice (Gp u7x) y10.length u7z) (p5.c 0 0) ?_
 refine Gn 2 [(4, .slice (Gp u7x) y10.length u7z)] Jb5 ?_
 obtain rfl := sj h
 have p5 := p5.dp 0
 have p5 := ((p5.fr 1).fr 1).fr 2
 refine Goes.retL ?_
 refine lvs_mark 0 rfl rfl p5 rfl fun w6 z6 p6 => ?_
 replace p6 : Hp nz wz S4 w6 ((u7x, .row 9 u80 (u7z * kStr.size) 0) :: (some u7u, .row 9 [.string u7v] 1 0) :: Lr) := p6.drop
 exact lvs_done (fn := Tryz.f192) rfl rfl rfl rfl (by kernel_rfl) (v := .slice (Gp u7x) y10.length u7z) (by kernel_rfl) ⟨S4, u7x, y10.length, u7z, u80, rfl, ((((z2.t z3).t z4).t z5).t z6), p6, (u81.ext (z5.t z6)), rfl⟩

def Jb7 := Ys 111 B125 []

def Post.z1p (u82 : Nat) (u83 : ByteArray) (r : List ByteArray) (v : Value) (w' : World) : Prop :=
 ∃ S' Gq nq cq csq, v = .slice (Gp Gq) nq cq ∧ Ext S0 w0 S' w' ∧ Hp nz wz S' w' ((Gq, .row 9 csq (cq * kStr.size) 0) :: (some u82, .row 9 [.string u83] 1 0) :: Lr) ∧ Els kStr S' w' csq r ∧ r.length = nq

theorem W.z1p (u83 : ByteArray) (r : List ByteArray) (h : M.a4i u83 = some r) {nz wz S0 w0 Lr} (u82) (p0 : Hp nz wz S0 w0 ((some u82, .row 9 [.string u83] 1 0) :: Lr)) :
  Calls Tryz.prog 125 #[.func (.func 127) #[] #[(pt u82 0)]] w0 (Rets (Post.z1p nz wz S0 w0 Lr u82 u83 r)) := by
 refine Zf Tryz.f125 B125 4 ?_
 refine Gj 5 [(0, .func (.func 127) #[] #[(pt u82 0)])] fun junk => ?_
 delta M.a4i at h
 refine Gn 7 [(2, .slice none 0 0), (3, .func (.func 127) #[] #[(pt u82 0)])] (Yt 110 B125 [1, 2] Jb7) ?_
 refine Gb h fun y2 e3 h => ?_
 refine Gc (.call { callee := .value (.func 192), args := #[(.const (.slice none 0 0)), (.tmp 3)], argTypes := #[43, 125] }) 4 43 192 _ (W.z1o u83 y2 e3 _ p0 ) ?_
 rintro _ w2 ⟨S2, u4m, u4n, u4o, u4p, rfl, z2, p2, u4q, rfl⟩
 refine Gn 2 [(2, .slice (Gp u4m) y2.length u4o)] Jb7 ?_
 obtain rfl := sj h
 exact Goes.rt Tryz.f125 (.slice (Gp u4m) y2.length u4o) ⟨_, _, _, _, _, rfl, z2, p2, u4q, rfl⟩


def Post.z1q (u82 : Nat) (u83 : ByteArray) (r : List ByteArray) (v : Value) (w' : World) : Prop :=
 ∃ S' Gq nq cq csq, v = .slice (Gp Gq) nq cq ∧ Ext S0 w0 S' w' ∧ Hp nz wz S' w' ((Gq, .row 9 csq (cq * kStr.size) 0) :: (some u82, .row 9 [.string u83] 1 0) :: Lr) ∧ Els kStr S' w' csq r ∧ r.length = nq

theorem W.z1q (u83 : ByteArray) (r : List ByteArray) (h : M.a4j u83 = some r) {nz wz S0 w0 Lr} (u82) (p0 : Hp nz wz S0 w0 ((some u82, .row 9 [.string u83] 1 0) :: Lr)) :
  Calls Tryz.prog 58 #[.func (.func 127) #[] #[(pt u82 0)]] w0 (Rets (Post.z1q nz wz S0 w0 Lr u82 u83 r)) := by
 refine Zf Tryz.f58 B58 8 ?_
 refine Gj 9 [(0, .func (.func 127) #[] #[(pt u82 0)])] fun junk => ?_
 delta M.a4j at h
 refine Gn 7 [(2, .slice none 0 0), (4, .func (.func 127) #[] #[(pt u82 0)])] (Yt 110 B58 [1, 2] (Ys 111 B58 [])) ?_
 refine Gb h fun y2 e3 h => ?_
 refine Gc (kc 125 [4] #[125]) 5 43 125 _ (W.z1p u83 y2 e3 _ p0 ) ?_
 rintro _ w2 ⟨S2, u4m, u4n, u4o, u4p, rfl, z2, p2, u4q, rfl⟩
 refine Gm 5 [([3, 6], .slice (Gp u4m) y2.length u4o)] (Yt 1110 B58 [1] (Ys 1111 B58 [])) ?_
 refine Gg h fun g5 h => ?_
 refine Gc (kc 126 [6] #[43]) 7 0 126 _ (sortS_calls Tryz.sortS p2 u4q rfl g5) ?_
 rintro _ w3 ⟨rfl, z3, cs6, p3, f7⟩
 refine Gm 6 [([8, 2], .slice (Gp u4m) y2.length u4o)] (Ys 11111 B58 []) ?_
 obtain rfl := sj h
 exact Goes.rt Tryz.f58 (.slice (Gp u4m) y2.length u4o) ⟨_, _, _, _, _, rfl, (z2.t z3), p3, f7, (srtS_len rfl)⟩

def Jbe := Ys 111 B16 []

def Post.z1r (r : List ByteArray) (v : Value) (w' : World) : Prop :=
 ∃ S' Gq nq cq csq, v = .slice (Gp Gq) nq cq ∧ Ext S0 w0 S' w' ∧ Hp nz wz S' w' ((Gq, .row 9 csq (cq * kStr.size) 0) :: Lr) ∧ Els kStr S' w' csq r ∧ r.length = nq

theorem W.z1r (x0 : ByteArray) (r : List ByteArray) (h : M.a2f x0 = some r) {nz wz S0 w0 Lr} (p0 : Hp nz wz S0 w0 (Lr)) :
  Calls Tryz.prog 16 #[.string x0] w0 (Rets (Post.z1r nz wz S0 w0 Lr r)) := by
 refine Zf Tryz.f16 B16 6 ?_
 refine Gj 7 [(0, .string x0)] fun junk => ?_
 delta M.a2f at h
 refine Gn 7 [(2, .slice none 0 0), (3, .string x0)] (Yt 110 B16 [1, 2, 3, 4] Jbe) ?_
 refine Gb h fun y1 e2 h => ?_
 refine Gc (kc 59 [3] #[9]) 4 125 59 _ (W.z1k x0 y1 e2  p0 ) ?_
 rintro _ w2 ⟨S2, u84, rfl, z2, p2⟩
 refine Gb h fun y4 e5 h => ?_
 refine Gc (kc 58 [4] #[125]) 5 43 58 _ (W.z1q y1 y4 e5 _ p2 ) ?_
 rintro _ w3 ⟨S3, u85, u86, u87, u88, rfl, z3, p3, u89, rfl⟩
 have p3 := p3.dp 1
 refine Gg h fun g7 h => ?_
 refine Gc (kc 57 [5] #[43]) 6 43 57 _ (compactS_calls (zs := (cmpL y4)) Tryz.compS p3 u89 rfl rfl g7) ?_
 rintro _ w4 ⟨rfl, z4, cs8, p4, f9⟩
 refine Gn 2 [(2, .slice (Gp u85) ((cmpL y4).length) u87)] Jbe ?_
 obtain rfl := sj h
 exact Goes.rt Tryz.f16 (.slice (Gp u85) ((cmpL y4).length) u87) ⟨_, _, _, _, _, rfl, ((z2.t z3).t z4), p4, f9, rfl⟩

def Jbg := Ys 111 B188 []

def Post.z1s (r : Int × Int) (v : Value) (w' : World) : Prop :=
 ∃ S', v = .tuple #[.i r.1, .i r.2] ∧ Ext S0 w0 S' w' ∧ Hp nz wz S' w' (Lr)

theorem W.z1s (x0 : Int) (r : Int × Int) (h : M.a4m x0 = some r) {nz wz S0 w0 Lr} (p0 : Hp nz wz S0 w0 (Lr)) :
  Calls Tryz.prog 188 #[.i x0] w0 (Rets (Post.z1s nz wz S0 w0 Lr r)) := by
 refine Zf Tryz.f188 B188 5 ?_
 refine Gj 6 [(0, .i x0)] fun junk => ?_
 delta M.a4m at h
 refine Gm 11 [([2, 3], .i 0), ([4], .i x0), ([5], .bool (decide (x0 = 4)))] (Ys 1101 B188 Jbg) ?_
 refine Gi h (fun h1 h => ?_) fun h1 h => ?_
 ·
  rw [dt h1]
  refine Gn 6 [(2, .i 1), (3, .i 0)] (Ys 110101 B188 Jbg) ?_
  obtain rfl := sj h
  exact Goes.rt Tryz.f188 (.tuple #[.i 1, .i 0]) ⟨_, rfl, (Ext.refl S0 w0), p0⟩
 ·
  rw [df h1]
  refine Gn 7 [(2, .i 0), (3, .i 1)] (Ys 1111 B188 []) ?_
  obtain rfl := sj h
  exact Goes.rt Tryz.f188 (.tuple #[.i 0, .i 1]) ⟨_, rfl, (Ext.refl S0 w0), p0⟩

def Q98 := Yq 1110100 B235
def Jbm := Zl Q98 (Zb 0 (Ys 1111 B235 []))
def Jbn := Zc Q98 Jbm
def Jbq := Ys 111 B190 []
def Q9c := Yq 110 B190
def Jc0 := Ys 111 B235 []
def Jc6 := Zb 1 (Ys 1110100111 B235 Jbm)
def Jc7 := Ys 111010011001 B235 Jc6
def Q9k := Yq 111010011000 B235
def Jcc := Ys 11101001100111 B235 Jc6

def Post.z1t (r : Bool) (v : Value) (w' : World) : Prop :=
 ∃ S', v = .bool r ∧ Ext S0 w0 S' w' ∧ Hp nz wz S' w' (Lr)

def Post.z1u (r : Bool) (v : Value) (w' : World) : Prop :=
 ∃ S', v = .bool r ∧ Ext S0 w0 S' w' ∧ Hp nz wz S' w' (Lr)

def LF.z1t : T29 × T29 → Bool → Prop := fun ⟨x0, x1⟩ r => ∀ {nz wz S0 w0 Lr} u5 u6 u7 u8a u8b u8c (_ : Hp nz wz S0 w0 (Lr)) (_ : Rd kT29 S0 w0 u5 u7 x0.L) (_ : x0.L.length = u6) (_ : Rd kT29 S0 w0 u8a u8c x1.L) (_ : x1.L.length = u8b),
 Calls Tryz.prog 190 #[(ag (wT29 x0.Op x0.Text u5 u6 u7)), (ag (wT29 x1.Op x1.Text u8a u8b u8c))] w0 (Rets (Post.z1t nz wz S0 w0 Lr r))

def LF.z1u : (List T29) × (List T29) → Bool → Prop := fun ⟨x0, x1⟩ r => ∀ {nz wz S0 w0 Lr} Ax0 nx0 cx0 Ax1 nx1 cx1 (_ : Hp nz wz S0 w0 (Lr)) (_ : Rd kT29 S0 w0 Ax0 cx0 x0) (_ : x0.length = nx0) (_ : Rd kT29 S0 w0 Ax1 cx1 x1) (_ : x1.length = nx1),
 Calls Tryz.prog 235 #[.slice Ax0 nx0 cx0, .slice Ax1 nx1 cx1, .func (.func 190) #[] #[]] w0 (Rets (Post.z1u nz wz S0 w0 Lr r))

def L.z1v : (List T29) × (List T29) × Int × Int → Bool → Prop := fun ⟨x1, x15, x16, x17⟩ r => ∀ S1 w1, Ext S0 w0 S1 w1 → ∀ Ax1 nx1 cx1 u8d u8e u8f (_ : Hp nz wz S1 w1 (Lr)) (_ : Rd kT29 S1 w1 Ax1 cx1 x1) (_ : x1.length = nx1) (_ : Rd kT29 S1 w1 u8d u8f x15) (_ : x15.length = u8e) (junk : Nat → Value),
 Goes Tryz.prog (base 235) Jbn ⟨lfr 32 [(1, .slice Ax1 nx1 cx1), (2, .func (.func 190) #[] #[]), (15, .slice u8d u8e u8f), (16, .i x16), (17, .i x17)] junk, []⟩ w1 (Done Tryz.prog 235 (Rets (Post.z1u nz wz S0 w0 Lr r)))

def LL.z1v : (List T29) × (List T29) × Int × Int → Bool → Prop := fun a r => ∀ {nz wz S0 w0 Lr}, L.z1v nz wz S0 w0 Lr a r

theorem W.z1w : (∀ a r, M.a15 a = some r → LF.z1t a r) ∧ (∀ a r, M.a3a a = some r → LF.z1u a r) ∧ (∀ a r, M.a16 a = some r → LL.z1v a r) := by
 refine M.a15.mutual_partial_correctness LF.z1t LF.z1u LL.z1v ?_ ?_ ?_
 ·
  intro u8g u8h ⟨x0, x1⟩ r h nz wz S0 w0 Lr u5 u6 u7 u8a u8b u8c p0 un uo u8i u8j
  try dsimp only at h
  subst uo
  subst u8j
  refine Zf Tryz.f190 B190 22 ?_
  refine Gj 24 [(0, (ag (wT29 x0.Op x0.Text u5 x0.L.length u7))), (1, (ag (wT29 x1.Op x1.Text u8a x1.L.length u8c)))] fun junk => ?_
  refine Gn 2 [] (Yt 10 B190 [0, 1, 2] (Ys 11 B190 [])) ?_
  refine Ob 30 (.tmp 0) 2 0 ((ag (wT29 x0.Op x0.Text u5 x0.L.length u7))) (wT29 x0.Op x0.Text u5 x0.L.length u7) p0 Goes.v fun b1 w2 z2 p2 => ?_
  refine Ob 30 (.tmp 1) 3 0 ((ag (wT29 x1.Op x1.Text u8a x1.L.length u8c))) (wT29 x1.Op x1.Text u8a x1.L.length u8c) p2 Goes.v fun b3 w3 z3 p3 => ?_
  refine Gn 5 [(4, .bool false), (5, (pt b1 0))] (Zr Q9c [1, 2, 3, 4, 5, 6, 7, 8, 9, 10, 11, 12, 13, 14, 15, 16, 17, 18, 19] Jbq) ?_
  refine Goes.ld 3 (.tmp 5) 6 3 ⟨b1, 0, none⟩ (.i x0.Op) (p3.c 1 0) ?_
  refine Gn 1 [(7, (pt b3 0))] (Zr Q9c [3, 4, 5, 6, 7, 8, 9, 10, 11, 12, 13, 14, 15, 16, 17, 18, 19] Jbq) ?_
  refine Goes.ld 3 (.tmp 7) 8 3 ⟨b3, 0, none⟩ (.i x1.Op) (p3.c 0 0) ?_
  refine Gm 2 [([9, 10], .bool (decide (x0.Op = x1.Op)))] (Zr Q9c [6, 7, 8, 9, 10, 11, 12, 13, 14, 15, 16, 17, 18, 19] Jbq) ?_
  refine Gi h (fun h5 h => ?_) fun h5 h => ?_
  ·
   rw [dt h5]
   refine Gn 1 [(11, (pt b1 1))] (Zr Q9c [7, 8, 9, 10, 11, 12, 13, 14, 15, 16, 17, 18, 19] Jbq) ?_
   refine Goes.ld 9 (.tmp 11) 12 9 ⟨b1, 1, none⟩ (.string x0.Text) (p3.c 1 1) ?_
   refine Gn 1 [(13, (pt b3 1))] (Zr Q9c [9, 10, 11, 12, 13, 14, 15, 16, 17, 18, 19] Jbq) ?_
   refine Goes.ld 9 (.tmp 13) 14 9 ⟨b3, 1, none⟩ (.string x1.Text) (p3.c 0 1) ?_
   refine Gm 3 [([15, 16, 17], .bool (x0.Text.toList == x1.Text.toList))] (Zr Q9c [13, 14, 15, 16, 17, 18, 19] Jbq) ?_
   refine Gi h (fun h6 h => ?_) fun h6 h => ?_
   ·
    rw [h6]
    refine Gn 1 [(18, (pt b1 2))] (Zr Q9c [14, 15, 16, 17, 18, 19] Jbq) ?_
    refine Goes.ld 28 (.tmp 18) 19 28 ⟨b1, 2, none⟩ (.slice u5 x0.L.length u7) (p3.c 1 2) ?_
    refine Gn 1 [(20, (pt b3 2))] (Zr Q9c [16, 17, 18, 19] Jbq) ?_
    refine Goes.ld 28 (.tmp 20) 21 28 ⟨b3, 2, none⟩ (.slice u8a x1.L.length u8c) (p3.c 0 2) ?_
    refine Gb h fun y7 e8 h => ?_
    refine Gc (.call { callee := .value (.func 235), args := #[(.tmp 19), (.tmp 21), (.func 190)], argTypes := #[28, 28, 301] }) 22 4 235 _ (u8h (x0.L, x1.L) y7 e8 _ _ _ _ _ _ p3 (un.ext (z2.t z3)) rfl (u8i.ext (z2.t z3)) rfl) ?_
    rintro _ w4 ⟨S4, rfl, z4, p4⟩
    have p4 := (p4.dp 0).dp 0
    refine Gm 3 [([23, 4], .bool y7)] Jbq ?_
    obtain rfl := sj h
    exact Goes.rt Tryz.f190 (.bool y7) ⟨_, rfl, ((z2.t z3).t z4), p4⟩
   ·
    rw [bf h6]
    refine Gm 8 [([18, 19, 20, 21, 22], undef), ([23, 4], .bool false)] Jbq ?_
    obtain rfl := sj h
    have p3 := (p3.dp 0).dp 0
    exact Goes.rt Tryz.f190 (.bool false) ⟨_, rfl, (z2.t z3), p3⟩
  ·
   rw [df h5]
   refine Gm 14 [([11, 12, 13, 14, 15, 18, 19, 20, 21, 22], undef), ([16, 17, 23, 4], .bool false)] (Zr Q9c [] Jbq) ?_
   refine Gn 1 [] Jbq ?_
   obtain rfl := sj h
   have p3 := (p3.dp 0).dp 0
   exact Goes.rt Tryz.f190 (.bool false) ⟨_, rfl, (z2.t z3), p3⟩
 ·
  intro u8k u8l ⟨x0, x1⟩ r h nz wz S0 w0 Lr Ax0 nx0 cx0 Ax1 nx1 cx1 p0 fx0 lx0 fx1 lx1
  try dsimp only at h
  subst lx0
  subst lx1
  refine Zf Tryz.f235 B235 29 ?_
  refine Gj 32 [(0, .slice Ax0 x0.length cx0), (1, .slice Ax1 x1.length cx1), (2, .func (.func 190) #[] #[])] fun junk => ?_
  refine Gn 13 [(6, .bool false), (10, .slice Ax0 x0.length cx0), (11, .i (x0.length : Int)), (12, .slice Ax1 x1.length cx1), (13, .i (x1.length : Int)), (14, .bool (!(decide ((x0.length : Int) = (x1.length : Int)))))] (Ys 1101 B235 Jc0) ?_
  refine Gi h (fun h1 h => ?_) fun h1 h => ?_
  ·
   rw [dt h1]
   refine Gn 11 [(15, .slice Ax0 x0.length cx0), (16, .i (x0.length : Int)), (17, .i 0)] Jbn ?_
   exact Gj 32 [(1, .slice Ax1 x1.length cx1), (2, .func (.func 190) #[] #[]), (15, .slice Ax0 x0.length cx0), (16, .i (x0.length : Int)), (17, .i 0)] (u8l _ _ h _ _ (Ext.refl S0 w0) _ _ _ _ _ _ p0 fx1 rfl fx0 rfl)
  ·
   rw [df h1]
   refine Gn 5 [(6, .bool false)] (Ys 110101 B235 Jc0) ?_
   obtain rfl := sj h
   exact Goes.rt Tryz.f235 (.bool false) ⟨_, rfl, (Ext.refl S0 w0), p0⟩
 ·
  intro rec_gram_same u8k ih_gram_same u8l ⟨x1, x15, x16, x17⟩ r h nz wz S0 w0 Lr S1 w1 hx Ax1 nx1 cx1 u8d u8e u8f p1 fx1 lx1 u8m u8n junk
  try dsimp only at h
  subst lx1
  subst u8n
  refine Gn 5 [(18, .bool (decide (x17 < x16)))] (Ys 111010010 B235 (Ys 111010011 B235 Jbm)) ?_
  refine Gi h (fun h2 h => ?_) fun h2 h => ?_
  ·
   rw [dt h2]
   refine Gn 7 [(19, .i x17)] (Zr Q9k [1, 2, 3, 4, 5] Jc7) ?_
   refine Gg h fun g3 h => ?_
   refine Gg h fun g4 h => ?_
   refine Oi 28 (.tmp 15) (.tmp 17) 20 0 30 .i64 x17 (gi x15 x17) rfl rfl u8m Goes.v g3 g4 fun a5 _ f6 q7 => ?_
   have q8 := q7
   obtain ⟨_, _, rfl, rfl, ⟨_, _, rfl, rfl, ⟨A9, c10, rfl, f11⟩⟩⟩ := kT29_open q8
   refine Goes.ldN 30 (.tmp 20) 21 30 a5 ([.i ((gi x15 x17).Op)] ++ ([.string ((gi x15 x17).Text)] ++ [.slice A9 (((gi x15 x17).L).length) c10])) (f6.cell) ?_
   refine Oa 30 8 0 (.agg #[.i 0, .string (⟨#[]⟩ : ByteArray), .slice none 0 0]) [.i 0, .string (⟨#[]⟩ : ByteArray), .slice none 0 0] p1 Goes.v fun b12 w2 z2 p2 => ?_
   refine Gn 1 [(7, .i x17)] (Zr Q9k [5] Jc7) ?_
   refine So 30 (.tmp 8) (.tmp 21) 0 0 b12 0 ((ag (wT29 (gi x15 x17).Op (gi x15 x17).Text A9 (((gi x15 x17).L).length) c10))) (wT29 (gi x15 x17).Op (gi x15 x17).Text A9 (((gi x15 x17).L).length) c10) p2 rfl Goes.s fun w3 z3 p3 => ?_
   refine Gn 5 [(22, .slice Ax1 x1.length cx1), (23, .i x17)] (Yt 1110100110010 B235 [2, 3, 4, 5] (Ys 1110100110011 B235 Jc6)) ?_
   refine Gg h fun g14 h => ?_
   refine Oi 28 (.tmp 22) (.tmp 23) 24 0 30 .i64 x17 (gi x1 x17) rfl rfl (fx1.ext (z2.t z3)) Goes.v g3 g14 fun a15 _ f16 q17 => ?_
   have q18 := q17
   obtain ⟨_, _, rfl, rfl, ⟨_, _, rfl, rfl, ⟨A19, c20, rfl, f21⟩⟩⟩ := kT29_open q18
   refine Goes.ldN 30 (.tmp 24) 25 30 a15 ([.i ((gi x1 x17).Op)] ++ ([.string ((gi x1 x17).Text)] ++ [.slice A19 (((gi x1 x17).L).length) c20])) (f16.cell) ?_
   refine Oa 30 9 0 (.agg #[.i 0, .string (⟨#[]⟩ : ByteArray), .slice none 0 0]) [.i 0, .string (⟨#[]⟩ : ByteArray), .slice none 0 0] p3 Goes.v fun b22 w4 z4 p4 => ?_
   refine So 30 (.tmp 9) (.tmp 25) 0 0 b22 0 ((ag (wT29 (gi x1 x17).Op (gi x1 x17).Text A19 (((gi x1 x17).L).length) c20))) (wT29 (gi x1 x17).Op (gi x1 x17).Text A19 (((gi x1 x17).L).length) c20) p4 rfl Goes.s fun w5 z5 p5 => ?_
   refine Gn 4 [(26, .func (.func 190) #[] #[])] (Yt 11101001100110 B235 [1, 2, 3, 4] Jcc) ?_
   refine Goes.ldN 30 (.tmp 8) 27 30 ⟨b12, 0, none⟩ (wT29 (gi x15 x17).Op (gi x15 x17).Text A9 (((gi x15 x17).L).length) c10) (p5.pa 1 0) ?_
   refine Goes.ldN 30 (.tmp 9) 28 30 ⟨b22, 0, none⟩ (wT29 (gi x1 x17).Op (gi x1 x17).Text A19 (((gi x1 x17).L).length) c20) (p5.pa 0 0) ?_
   refine Gb h fun y24 e25 h => ?_
   refine Gc (.call { callee := .value (.tmp 26), args := #[(.tmp 27), (.tmp 28)], argTypes := #[30, 30] }) 29 4 190 _ (ih_gram_same (gi x15 x17, gi x1 x17) y24 e25 _ _ _ _ _ _ p5 (f11.ext (((z2.t z3).t z4).t z5)) rfl (f21.ext (z4.t z5)) rfl) ?_
   rintro _ w6 ⟨S6, rfl, z6, p6⟩
   have p6 := (p6.dp 0).dp 0
   refine Gn 2 [(30, .bool (!y24))] Jcc ?_
   refine Gi h (fun h26 h => ?_) fun h26 h => ?_
   ·
    rw [h26]
    refine Gm 8 [([31, 17], .i (wr .i64 (x17 + 1)))] Jbn ?_
    exact Gj 32 [(1, .slice Ax1 x1.length cx1), (2, .func (.func 190) #[] #[]), (15, .slice u8d x15.length u8f), (16, .i x16), (17, .i (wr .i64 (x17 + 1)))] (u8l _ _ h _ _ (((((hx.t z2).t z3).t z4).t z5).t z6) _ _ _ _ _ _ p6 (fx1.ext ((((z2.t z3).t z4).t z5).t z6)) rfl (u8m.ext ((((z2.t z3).t z4).t z5).t z6)) rfl)
   ·
    rw [bf h26]
    refine Gn 5 [(6, .bool false)] (Ys 1110100110011101 B235 Jc6) ?_
    obtain rfl := sj h
    exact Goes.rt Tryz.f235 (.bool false) ⟨_, rfl, (((((hx.t z2).t z3).t z4).t z5).t z6), p6⟩
  ·
   rw [df h2]
   refine Gn 6 [(6, .bool true)] (Ys 11111 B235 []) ?_
   obtain rfl := sj h
   exact Goes.rt Tryz.f235 (.bool true) ⟨_, rfl, hx, p1⟩

theorem W.z1t : ∀ a r, M.a15 a = some r → LF.z1t a r := (W.z1w).1

theorem W.z1u : ∀ a r, M.a3a a = some r → LF.z1u a r := (W.z1w).2.1

theorem W.z1v : ∀ a r, M.a16 a = some r → LL.z1v a r := (W.z1w).2.2

def Jci := Ys 111 B234 []

def Post.z1x (gx1 : Nat) (gx2 : Nat) (u8p : Option Addr) (u8q : Nat) (u8r : Nat) (x2v : T29) (r : Bool) (v : Value) (w' : World) : Prop :=
 ∃ S', v = .bool r ∧ Ext S0 w0 S' w' ∧ Hp nz wz S' w' ((some gx1, .row 301 [.func (.func 190) #[] #[]] 1 0) :: (some gx2, .row 30 (wT29 x2v.Op x2v.Text u8p u8q u8r) 3 0) :: Lr)

theorem W.z1x (x0 : T29) (x2v : T29) (r : Bool) (h : M.a4k x0 x2v = some r) {nz wz S0 w0 Lr} (u5 u6 u7 gx1 gx2 u8p u8q u8r) (p0 : Hp nz wz S0 w0 ((some gx1, .row 301 [.func (.func 190) #[] #[]] 1 0) :: (some gx2, .row 30 (wT29 x2v.Op x2v.Text u8p u8q u8r) 3 0) :: Lr)) (un : Rd kT29 S0 w0 u5 u7 x0.L) (uo : x0.L.length = u6) (u8s : Rd kT29 S0 w0 u8p u8r x2v.L) (u8t : x2v.L.length = u8q) :
  Calls Tryz.prog 234 #[(ag (wT29 x0.Op x0.Text u5 u6 u7)), (pt gx1 0), (pt gx2 0)] w0 (Rets (Post.z1x nz wz S0 w0 Lr gx1 gx2 u8p u8q u8r x2v r)) := by
 subst uo
 subst u8t
 refine Zf Tryz.f234 B234 6 ?_
 refine Gj 9 [(0, (ag (wT29 x0.Op x0.Text u5 x0.L.length u7))), (1, (pt gx1 0)), (2, (pt gx2 0))] fun junk => ?_
 delta M.a4k at h
 refine Gn 2 [] (Yt 10 B234 [0, 1] (Ys 11 B234 [])) ?_
 refine Ob 30 (.tmp 0) 3 0 ((ag (wT29 x0.Op x0.Text u5 x0.L.length u7))) (wT29 x0.Op x0.Text u5 x0.L.length u7) p0 Goes.v fun b3 w2 z2 p2 => ?_
 refine Gn 4 [(4, .bool false)] (Yt 110 B234 [0, 1, 2, 3, 4] Jci) ?_
 refine Goes.ld 301 (.tmp 1) 5 301 ⟨gx1, 0, none⟩ (.func (.func 190) #[] #[]) (p2.c 1 0) ?_
 refine Goes.ldN 30 (.tmp 2) 6 30 ⟨gx2, 0, none⟩ (wT29 x2v.Op x2v.Text u8p x2v.L.length u8r) (p2.pa 2 0) ?_
 refine Goes.ldN 30 (.tmp 3) 7 30 ⟨b3, 0, none⟩ (wT29 x0.Op x0.Text u5 x0.L.length u7) (p2.pa 0 0) ?_
 refine Gb h fun y5 e6 h => ?_
 refine Gc (.call { callee := .value (.tmp 5), args := #[(.tmp 6), (.tmp 7)], argTypes := #[30, 30] }) 8 4 190 _ (W.z1t (x2v, x0) y5 e6 _ _ _ _ _ _ p2 (u8s.ext z2) rfl (un.ext z2) rfl) ?_
 rintro _ w3 ⟨S3, rfl, z3, p3⟩
 have p3 := p3.dp 0
 refine Gn 2 [(4, .bool y5)] Jci ?_
 obtain rfl := sj h
 exact Goes.rt Tryz.f234 (.bool y5) ⟨_, rfl, (z2.t z3), p3⟩

def Q9w := Yq 110100 B195
def Jcm := Zl Q9w (Zb 0 (Ys 111 B195 []))
def Jcn := Zc Q9w Jcm
def Jcp := Ys 11010010 B195 (Ys 11010011 B195 Jcm)
def Jcr := Zb 1 (Ys 110100111 B195 Jcm)
def Jcs := Ys 110100110011 B195 Jcr
def Jct := Yt 110100110010 B195 [3, 4, 5] Jcs
def Jcu := Ys 11010011001101 B195 Jcr
def Jcv := Ys 1111 B195 []

def Post.z1y (u7u : Nat) (u8u : Nat) (u8v : Option Addr) (u8w : Nat) (u8x : Nat) (u8y : T29) (r : Int) (v : Value) (w' : World) : Prop :=
 ∃ S', v = .i r ∧ Ext S0 w0 S' w' ∧ Hp nz wz S' w' ((some u7u, .row 301 [.func (.func 190) #[] #[]] 1 0) :: (some u8u, .row 30 (wT29 u8y.Op u8y.Text u8v u8w u8x) 3 0) :: Lr)

def L.z1z (u7u : Nat) (u8u : Nat) (u8v : Option Addr) (u8w : Nat) (u8x : Nat) : (List T29) × Int × Int × T29 → Int → Prop := fun ⟨x0, x7, x8, u8y⟩ r => ∀ S1 w1, Ext S0 w0 S1 w1 → ∀ Ax0 nx0 cx0 (_ : Hp nz wz S1 w1 ((some u7u, .row 301 [.func (.func 190) #[] #[]] 1 0) :: (some u8u, .row 30 (wT29 u8y.Op u8y.Text u8v u8w u8x) 3 0) :: Lr)) (_ : Rd kT29 S1 w1 Ax0 cx0 x0) (_ : x0.length = nx0) (_ : Rd kT29 S1 w1 u8v u8x u8y.L) (_ : u8y.L.length = u8w) (junk : Nat → Value),
 Goes Tryz.prog (base 195) Jcn ⟨lfr 19 [(0, .slice Ax0 nx0 cx0), (1, .func (.func 234) #[] #[(pt u7u 0), (pt u8u 0)]), (7, .i x7), (8, .i x8)] junk, []⟩ w1 (Done Tryz.prog 195 (Rets (Post.z1y nz wz S0 w0 Lr u7u u8u u8v u8w u8x u8y r)))

theorem W.z1z {nz wz S0 w0 Lr} (u7u : Nat) (u8u : Nat) (u8v : Option Addr) (u8w : Nat) (u8x : Nat) : ∀ a r, M.a17 a = some r → (L.z1z nz wz S0 w0 Lr u7u u8u u8v u8w u8x) a r := by
 refine M.a17.partial_correctness (motive := (L.z1z nz wz S0 w0 Lr u7u u8u u8v u8w u8x)) ?_
 intro u8z u90 ⟨x0, x7, x8, u8y⟩ r h S1 w1 hx Ax0 nx0 cx0 p1 fx0 lx0 u91 u92 junk
 try dsimp only at h
 subst lx0
 subst u92
 refine Gn 5 [(9, .bool (decide (x8 < x7)))] Jcp ?_
 refine Gi h (fun h3 h => ?_) fun h3 h => ?_
 ·
  rw [dt h3]
  refine Gm 14 [([10, 5, 13], .i x8), ([11], .func (.func 234) #[] #[(pt u7u 0), (pt u8u 0)]), ([12], .slice Ax0 x0.length cx0)] Jct ?_
  refine Gg h fun g4 h => ?_
  refine Gg h fun g5 h => ?_
  refine Oi 28 (.tmp 12) (.tmp 13) 14 0 30 .i64 x8 (gi x0 x8) rfl rfl fx0 Goes.v g4 g5 fun a6 _ f7 q8 => ?_
  have q9 := q8
  obtain ⟨_, _, rfl, rfl, ⟨_, _, rfl, rfl, ⟨A10, c11, rfl, f12⟩⟩⟩ := kT29_open q9
  refine Goes.ldN 30 (.tmp 14) 15 30 a6 ([.i ((gi x0 x8).Op)] ++ ([.string ((gi x0 x8).Text)] ++ [.slice A10 (((gi x0 x8).L).length) c11])) (f7.cell) ?_
  refine Gb h fun y13 e14 h => ?_
  refine Gc (.call { callee := .value (.tmp 11), args := #[(.tmp 15)], argTypes := #[30] }) 16 4 234 _ (W.z1x (gi x0 x8) u8y y13 e14 _ _ _ _ _ _ _ _ p1 f12 rfl u91 rfl) ?_
  rintro _ w2 ⟨S2, rfl, z2, p2⟩
  refine Gn 1 [] Jcs ?_
  refine Gi h (fun h15 h => ?_) fun h15 h => ?_
  ·
   rw [h15]
   refine Gm 6 [([17, 4], .i x8)] Jcu ?_
   obtain rfl := sj h
   exact Goes.rt Tryz.f195 (.i x8) ⟨_, rfl, (hx.t z2), p2⟩
  ·
   rw [bf h15]
   refine Gm 8 [([18, 8], .i (wr .i64 (x8 + 1)))] Jcn ?_
   exact Gj 19 [(0, .slice Ax0 x0.length cx0), (1, .func (.func 234) #[] #[(pt u7u 0), (pt u8u 0)]), (7, .i x7), (8, .i (wr .i64 (x8 + 1)))] (u90 _ _ h _ _ (hx.t z2) _ _ _ p2 (fx0.ext z2) rfl (u91.ext z2) rfl)
 ·
  rw [df h3]
  refine Gn 6 [(4, .i (-1))] Jcv ?_
  obtain rfl := sj h
  exact Goes.rt Tryz.f195 (.i (-1)) ⟨_, rfl, hx, p1⟩

theorem W.z1y (x0 : List T29) (u8y : T29) (r : Int) (h : M.a4l x0 u8y = some r) {nz wz S0 w0 Lr} (Ax0 nx0 cx0 u7u u8u u8v u8w u8x) (p0 : Hp nz wz S0 w0 ((some u7u, .row 301 [.func (.func 190) #[] #[]] 1 0) :: (some u8u, .row 30 (wT29 u8y.Op u8y.Text u8v u8w u8x) 3 0) :: Lr)) (fx0 : Rd kT29 S0 w0 Ax0 cx0 x0) (lx0 : x0.length = nx0) (u94 : Rd kT29 S0 w0 u8v u8x u8y.L) (u95 : u8y.L.length = u8w) :
  Calls Tryz.prog 195 #[.slice Ax0 nx0 cx0, .func (.func 234) #[] #[(pt u7u 0), (pt u8u 0)]] w0 (Rets (Post.z1y nz wz S0 w0 Lr u7u u8u u8v u8w u8x u8y r)) := by
 subst lx0
 subst u95
 refine Zf Tryz.f195 B195 17 ?_
 refine Gj 19 [(0, .slice Ax0 x0.length cx0), (1, .func (.func 234) #[] #[(pt u7u 0), (pt u8u 0)])] fun junk => ?_
 delta M.a4l at h
 refine Gm 13 [([4, 8], .i 0), ([6], .slice Ax0 x0.length cx0), ([7], .i (x0.length : Int))] Jcn ?_
 exact Gj 19 [(0, .slice Ax0 x0.length cx0), (1, .func (.func 234) #[] #[(pt u7u 0), (pt u8u 0)]), (7, .i (x0.length : Int)), (8, .i 0)] (W.z1z u7u u8u u8v u8y.L.length u8x _ _ h _ _ (Ext.refl S0 w0) _ _ _ p0 fx0 rfl u94 rfl)

def Jcw := Ys 111 B128 []
def Jcx := Yt 110 B128 [2, 3, 4] Jcw

def Post.z20 (u7u : Nat) (u8u : Nat) (u8v : Option Addr) (u8w : Nat) (u8x : Nat) (u8y : T29) (r : Bool) (v : Value) (w' : World) : Prop :=
 ∃ S', v = .bool r ∧ Ext S0 w0 S' w' ∧ Hp nz wz S' w' ((some u7u, .row 301 [.func (.func 190) #[] #[]] 1 0) :: (some u8u, .row 30 (wT29 u8y.Op u8y.Text u8v u8w u8x) 3 0) :: Lr)

theorem W.z20 (x0 : List T29) (u8y : T29) (r : Bool) (h : M.a3b x0 u8y = some r) {nz wz S0 w0 Lr} (Ax0 nx0 cx0 u7u u8u u8v u8w u8x) (p0 : Hp nz wz S0 w0 ((some u7u, .row 301 [.func (.func 190) #[] #[]] 1 0) :: (some u8u, .row 30 (wT29 u8y.Op u8y.Text u8v u8w u8x) 3 0) :: Lr)) (fx0 : Rd kT29 S0 w0 Ax0 cx0 x0) (lx0 : x0.length = nx0) (u94 : Rd kT29 S0 w0 u8v u8x u8y.L) (u95 : u8y.L.length = u8w) :
  Calls Tryz.prog 128 #[.slice Ax0 nx0 cx0, .func (.func 234) #[] #[(pt u7u 0), (pt u8u 0)]] w0 (Rets (Post.z20 nz wz S0 w0 Lr u7u u8u u8v u8w u8x u8y r)) := by
 subst lx0
 subst u95
 refine Zf Tryz.f128 B128 7 ?_
 refine Gj 9 [(0, .slice Ax0 x0.length cx0), (1, .func (.func 234) #[] #[(pt u7u 0), (pt u8u 0)])] fun junk => ?_
 delta M.a3b at h
 refine Gn 8 [(4, .bool false), (5, .slice Ax0 x0.length cx0), (6, .func (.func 234) #[] #[(pt u7u 0), (pt u8u 0)])] Jcx ?_
 refine Gb h fun y3 e4 h => ?_
 refine Gc (kc 195 [5, 6] #[28, 232]) 7 3 195 _ (W.z1y x0 u8y y3 e4 _ _ _ _ _ _ _ _ p0 fx0 rfl u94 rfl) ?_
 rintro _ w2 ⟨S2, rfl, z2, p2⟩
 refine Gm 3 [([8, 4], .bool (decide (y3 ≥ 0)))] Jcw ?_
 obtain rfl := sj h
 exact Goes.rt Tryz.f128 (.bool (decide (y3 ≥ 0))) ⟨_, rfl, z2, p2⟩

end

end Go.Gx
