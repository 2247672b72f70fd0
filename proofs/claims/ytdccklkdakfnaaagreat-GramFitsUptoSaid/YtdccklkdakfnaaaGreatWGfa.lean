import Derived.Test.YtdccklkdakfnaaaGreatMGf
import Derived.Test.YtdccklkdakfnaaaGreatGJ
import Derived.Test.YtdccklkdakfnaaaGreatGG
import Derived.Test.YtdccklkdakfnaaaGreatGO
import Derived.Test.YtdccklkdakfnaaaGreatGK
import Derived.Test.YtdccklkdakfnaaaGreatGL
import Derived.Test.YtdccklkdakfnaaaGreatGV
import Derived.Test.YtdccklkdakfnaaaGreatHI
import Derived.Test.YtdccklkdakfnaaaGreatProg
set_option linter.unusedVariables false
set_option linter.unusedSimpArgs false
set_option maxRecDepth 100000
set_option maxHeartbeats 4000000
namespace Go.Gx
open Go.RowKit Go.Proofs
variable (nz : Nat) (wz : World) (S0 : Fz) (w0 : World) (Lr : List Ent)
noncomputable section
noncomputable def B5 := Tryz.f5.body.getD .skip
noncomputable def B12 := Tryz.f12.body.getD .skip
noncomputable def B13 := Tryz.f13.body.getD .skip
noncomputable def B16 := Tryz.f16.body.getD .skip
noncomputable def B17 := Tryz.f17.body.getD .skip
noncomputable def B19 := Tryz.f19.body.getD .skip
noncomputable def B20 := Tryz.f20.body.getD .skip
noncomputable def B21 := Tryz.f21.body.getD .skip
noncomputable def B22 := Tryz.f22.body.getD .skip
noncomputable def B24 := Tryz.f24.body.getD .skip
noncomputable def B25 := Tryz.f25.body.getD .skip
noncomputable def B27 := Tryz.f27.body.getD .skip
noncomputable def B28 := Tryz.f28.body.getD .skip
noncomputable def B29 := Tryz.f29.body.getD .skip
noncomputable def B30 := Tryz.f30.body.getD .skip
noncomputable def B31 := Tryz.f31.body.getD .skip
noncomputable def B32 := Tryz.f32.body.getD .skip
noncomputable def B33 := Tryz.f33.body.getD .skip
noncomputable def B53 := Tryz.f53.body.getD .skip
noncomputable def B54 := Tryz.f54.body.getD .skip
noncomputable def B58 := Tryz.f58.body.getD .skip
noncomputable def B59 := Tryz.f59.body.getD .skip
noncomputable def B60 := Tryz.f60.body.getD .skip
noncomputable def B61 := Tryz.f61.body.getD .skip
noncomputable def B62 := Tryz.f62.body.getD .skip
noncomputable def B63 := Tryz.f63.body.getD .skip
noncomputable def B64 := Tryz.f64.body.getD .skip
noncomputable def B67 := Tryz.f67.body.getD .skip
noncomputable def B68 := Tryz.f68.body.getD .skip
noncomputable def B69 := Tryz.f69.body.getD .skip
noncomputable def B74 := Tryz.f74.body.getD .skip
noncomputable def B75 := Tryz.f75.body.getD .skip
noncomputable def B76 := Tryz.f76.body.getD .skip
noncomputable def B77 := Tryz.f77.body.getD .skip
noncomputable def B78 := Tryz.f78.body.getD .skip
noncomputable def B79 := Tryz.f79.body.getD .skip
noncomputable def B80 := Tryz.f80.body.getD .skip
noncomputable def B81 := Tryz.f81.body.getD .skip
noncomputable def B82 := Tryz.f82.body.getD .skip
noncomputable def B83 := Tryz.f83.body.getD .skip
noncomputable def B84 := Tryz.f84.body.getD .skip
noncomputable def B85 := Tryz.f85.body.getD .skip
noncomputable def B86 := Tryz.f86.body.getD .skip
noncomputable def B114 := Tryz.f114.body.getD .skip
noncomputable def B115 := Tryz.f115.body.getD .skip
noncomputable def B116 := Tryz.f116.body.getD .skip
noncomputable def B117 := Tryz.f117.body.getD .skip
noncomputable def B118 := Tryz.f118.body.getD .skip
noncomputable def B125 := Tryz.f125.body.getD .skip
noncomputable def B127 := Tryz.f127.body.getD .skip
noncomputable def B128 := Tryz.f128.body.getD .skip
noncomputable def B129 := Tryz.f129.body.getD .skip
noncomputable def B131 := Tryz.f131.body.getD .skip
noncomputable def B132 := Tryz.f132.body.getD .skip
noncomputable def B133 := Tryz.f133.body.getD .skip
noncomputable def B134 := Tryz.f134.body.getD .skip
noncomputable def B136 := Tryz.f136.body.getD .skip
noncomputable def B137 := Tryz.f137.body.getD .skip
noncomputable def B138 := Tryz.f138.body.getD .skip
noncomputable def B139 := Tryz.f139.body.getD .skip
noncomputable def B140 := Tryz.f140.body.getD .skip
noncomputable def B141 := Tryz.f141.body.getD .skip
noncomputable def B142 := Tryz.f142.body.getD .skip
noncomputable def B143 := Tryz.f143.body.getD .skip
noncomputable def B144 := Tryz.f144.body.getD .skip
noncomputable def B145 := Tryz.f145.body.getD .skip
noncomputable def B179 := Tryz.f179.body.getD .skip
noncomputable def B180 := Tryz.f180.body.getD .skip
noncomputable def B181 := Tryz.f181.body.getD .skip
noncomputable def B182 := Tryz.f182.body.getD .skip
noncomputable def B183 := Tryz.f183.body.getD .skip
noncomputable def B184 := Tryz.f184.body.getD .skip
noncomputable def B185 := Tryz.f185.body.getD .skip
noncomputable def B186 := Tryz.f186.body.getD .skip
noncomputable def B187 := Tryz.f187.body.getD .skip
noncomputable def B188 := Tryz.f188.body.getD .skip
noncomputable def B189 := Tryz.f189.body.getD .skip
noncomputable def B190 := Tryz.f190.body.getD .skip
noncomputable def B192 := Tryz.f192.body.getD .skip
noncomputable def B195 := Tryz.f195.body.getD .skip
noncomputable def B197 := Tryz.f197.body.getD .skip
noncomputable def B198 := Tryz.f198.body.getD .skip
noncomputable def B199 := Tryz.f199.body.getD .skip
noncomputable def B201 := Tryz.f201.body.getD .skip
noncomputable def B202 := Tryz.f202.body.getD .skip
noncomputable def B203 := Tryz.f203.body.getD .skip
noncomputable def B204 := Tryz.f204.body.getD .skip
noncomputable def B205 := Tryz.f205.body.getD .skip
noncomputable def B214 := Tryz.f214.body.getD .skip
noncomputable def B230 := Tryz.f230.body.getD .skip
noncomputable def B231 := Tryz.f231.body.getD .skip
noncomputable def B232 := Tryz.f232.body.getD .skip
noncomputable def B233 := Tryz.f233.body.getD .skip
noncomputable def B234 := Tryz.f234.body.getD .skip
noncomputable def B235 := Tryz.f235.body.getD .skip
noncomputable def B247 := Tryz.f247.body.getD .skip
noncomputable def B248 := Tryz.f248.body.getD .skip
noncomputable def B250 := Tryz.f250.body.getD .skip
noncomputable def B251 := Tryz.f251.body.getD .skip
noncomputable def B267 := Tryz.f267.body.getD .skip
noncomputable def B273 := Tryz.f273.body.getD .skip
noncomputable def B274 := Tryz.f274.body.getD .skip
noncomputable def B275 := Tryz.f275.body.getD .skip
noncomputable def B276 := Tryz.f276.body.getD .skip
noncomputable def B277 := Tryz.f277.body.getD .skip
noncomputable def B278 := Tryz.f278.body.getD .skip
noncomputable def B279 := Tryz.f279.body.getD .skip
noncomputable def B280 := Tryz.f280.body.getD .skip
noncomputable def B296 := Tryz.f296.body.getD .skip
noncomputable def B297 := Tryz.f297.body.getD .skip
noncomputable def B298 := Tryz.f298.body.getD .skip
noncomputable def B299 := Tryz.f299.body.getD .skip
noncomputable def B300 := Tryz.f300.body.getD .skip
noncomputable def B301 := Tryz.f301.body.getD .skip
noncomputable def B302 := Tryz.f302.body.getD .skip
noncomputable def B313 := Tryz.f313.body.getD .skip
noncomputable def B314 := Tryz.f314.body.getD .skip
noncomputable def B315 := Tryz.f315.body.getD .skip
noncomputable def B316 := Tryz.f316.body.getD .skip
noncomputable def B322 := Tryz.f322.body.getD .skip
noncomputable def B323 := Tryz.f323.body.getD .skip
noncomputable abbrev Tg : Program := Tryz.prog
theorem Xa : type_of% @Goes.v := @Goes.v
theorem Xb : type_of% @AnyG.pu := @AnyG.pu
theorem Xc : type_of% @Goes.ld := @Goes.ld
theorem Xd : type_of% @Goes.rt := @Goes.rt
theorem Xe : type_of% @Goes.s := @Goes.s
theorem Xf : type_of% @AnyG.s1 := @AnyG.s1
theorem Xg : type_of% @Goes.ldN := @Goes.ldN
theorem Xh : type_of% @Cells.app := @Cells.app
theorem Xi : type_of% @AnyG.last := @AnyG.last
theorem Xj : type_of% @Ext.refl := @Ext.refl
theorem Xk : type_of% @Ext.draw := @Ext.draw
theorem Xl : type_of% @Cells.rowO := @Cells.rowO
theorem Xm : type_of% @Els.len1 := @Els.len1
theorem Xn : type_of% @AnyG.ixR_n := @AnyG.ixR_n
theorem Xo : type_of% @AnyG.next := @AnyG.next
theorem Xp : type_of% @Op_.stA := @Op_.stA
theorem Xq : type_of% @Els.one := @Els.one
theorem Xr : type_of% @Rd.none_ := @Rd.none_
theorem Xs : type_of% @Op_.ldN := @Op_.ldN
theorem Xt : type_of% @Bnd.at_ := @Bnd.at_
theorem Xu : type_of% @Fc.here := @Fc.here
theorem Xv : type_of% @Bnd.no := @Bnd.no
theorem Xw : type_of% @AnyG.ldN := @AnyG.ldN
theorem Xx : type_of% @Goes.ret := @Goes.ret
theorem Xy : type_of% @Goes.end_ := @Goes.end_
theorem Xz : type_of% @AnyG.refz := @AnyG.refz
theorem X0 : type_of% @Op_.ixO_n := @Op_.ixO_n
abbrev wT29 (k0 : Int) (k1 : ByteArray) (a : Option Addr) (b : Nat) (c : Nat) : List Value := [.i k0, .string k1, .slice a b c]
abbrev vT69 (x : T69) : List Value := [.string x.Key, .u x.N]
abbrev vT165 (x : T165) (a : Option Addr) (b : Nat) (c : Nat) : List Value := [.string x.Key, .slice a b c]
abbrev vT26 (x : T26) (a : Option Addr) (b : Nat) (c : Nat) : List Value := .i x.Kind :: U4 x.Set [.slice a b c, .i x.Min, .i x.Max]
abbrev vT134 (x : T134) (a : Value) : List Value := [.string x.s, .i x.at_, .i x.deep, a]
abbrev vT370 (x : T370) : List Value := U4 x.set_ [.int .u8 x.b, .bool x.single]
abbrev vT218 (x : T218) (a : Option Addr) (b : Nat) (c : Nat) : List Value := [.slice a b c, .bool x.known]
def kT29_f (K : Kd T29) : Kd T29 := kMap (fun s => (s.Op, s.Text, s.L)) (kProd (kInt .i64) (kProd kStr (kSl K)))
theorem kT29_c : Kc kT29_f := Kc.map _ (Kc.prod (Kc.const _) (Kc.prod (Kc.const _) (Kc.sl Kc.id)))
def kT29 : Kd T29 := kFix kT29_f 3 kT29_c (fun _ => rfl)
theorem kT29_open {S w vs x} (h : kT29.rep S w vs x) : (kT29_f kT29).rep S w vs x := kFix_open kT29_c _ h
theorem kT29_close {S w vs x} (h : (kT29_f kT29).rep S w vs x) : kT29.rep S w vs x := kFix_close kT29_c _ h
def kT69 : Kd T69 := kMap (fun s => (s.Key, s.N)) (kProd kStr kU)
def kT38_f (K : Kd T38) : Kd T38 := kMap (fun s => (s.Op, s.Text, s.L)) (kProd (kInt .i64) (kProd kStr (kSl K)))
theorem kT38_c : Kc kT38_f := Kc.map _ (Kc.prod (Kc.const _) (Kc.prod (Kc.const _) (Kc.sl Kc.id)))
def kT38 : Kd T38 := kFix kT38_f 3 kT38_c (fun _ => rfl)
theorem kT38_open {S w vs x} (h : kT38.rep S w vs x) : (kT38_f kT38).rep S w vs x := kFix_open kT38_c _ h
theorem kT38_close {S w vs x} (h : (kT38_f kT38).rep S w vs x) : kT38.rep S w vs x := kFix_close kT38_c _ h
def kT155 : Kd T155 := kMap (fun s => s.at_) (kMp 154)
def kT157 : Kd T157 := kMap (fun s => s.l) kT155
def kT165 : Kd T165 := kMap (fun s => (s.Key, s.L)) (kProd kStr (kSl kU))
def kT66 : Kd T66 := kMap (fun s => s.L) (kSl kT165)
def kT26_f (K : Kd T26) : Kd T26 := kMap (fun s => (s.Kind, s.Set, s.L, s.Min, s.Max)) (kProd (kInt .i64) (kProd (kArr 4 kU) (kProd (kSl K) (kProd (kInt .i64) (kInt .i64)))))
theorem kT26_c : Kc kT26_f := Kc.map _ (Kc.prod (Kc.const _) (Kc.prod (Kc.const _) (Kc.prod (Kc.sl Kc.id) (Kc.prod (Kc.const _) (Kc.const _)))))
def kT26 : Kd T26 := kFix kT26_f 8 kT26_c (fun _ => rfl)
theorem kT26_open {S w vs x} (h : kT26.rep S w vs x) : (kT26_f kT26).rep S w vs x := kFix_open kT26_c _ h
theorem kT26_close {S w vs x} (h : (kT26_f kT26).rep S w vs x) : kT26.rep S w vs x := kFix_close kT26_c _ h
def kT138 : Kd T138 := kMap (fun s => s.at_) (kInt .i64)
def kT134 : Kd T134 := kMap (fun s => (s.s, s.at_, s.deep, s.bad)) (kProd kStr (kProd (kInt .i64) (kProd (kInt .i64) (kPtr kT138))))
def kT370 : Kd T370 := kMap (fun s => (s.set_, s.b, s.single)) (kProd (kArr 4 kU) (kProd (kInt .u8) kBool))
def kT218 : Kd T218 := kMap (fun s => (s.l, s.known)) (kProd (kSl kStr) kBool)
def Q1 := Yq 11110100 B12
def J2 := Zl Q1 (Zb 0 (Ys 11111 B12 []))
def J3 := Zc Q1 J2
def J5 := Ys 1111010001 B12 (Ys 111101001 B12 J2)
def J8 := Ys 111 B12 []
def Q7 := Yq 110 B12
def Qa := Yq 1111010000 B12
def Jk := Ys 111111 B12 []
def Post.z0 (gx2 : Nat) (r : T29 × Int) (v : Value) (w' : World) : Prop :=
 ∃ S' u0 u1 u2 u3, v = (ag (wT29 r.1.Op r.1.Text (Gp u0) u1 u2)) ∧ Ext S0 w0 S' w' ∧ Hp nz wz S' w' ((u0, .row 30 u3 (u2 * kT29.size) 0) :: (some gx2, .row 3 [.i r.2] 1 0) :: Lr) ∧ Els kT29 S' w' u3 r.1.L ∧ r.1.L.length = u1
def LF.z0 : T29 × Int × Int → (T29 × Int) → Prop := fun ⟨x0, x1, u4⟩ r => ∀ {nz wz S0 w0 Lr} u5 u6 u7 gx2 (_ : Hp nz wz S0 w0 ((some gx2, .row 3 [.i u4] 1 0) :: Lr)) (_ : Rd kT29 S0 w0 u5 u7 x0.L) (_ : x0.L.length = u6),
 Calls Tg 12 #[(ag (wT29 x0.Op x0.Text u5 u6 u7)), .i x1, (pt gx2 0)] w0 (Rets (Post.z0 nz wz S0 w0 Lr gx2 r))
def L.z1 (gx2 : Nat) : Int × T29 × T29 × T29 × Int × Int → (T29 × Int) → Prop := fun ⟨x1, x3v, x6v, x7v, x8, u8⟩ r => ∀ S1 w1, Ext S0 w0 S1 w1 → ∀ gx3 u9 ua ub gx6 uc ud ue uf gx7 ug uh ui uj (_ : Hp nz wz S1 w1 ((some gx3, .row 30 (wT29 x3v.Op x3v.Text u9 ua ub) 3 0) :: (some gx6, .row 30 (wT29 x6v.Op x6v.Text (Gp uc) ud ue) 3 0) :: (uc, .row 30 uf (ue * kT29.size) 0) :: (some gx7, .row 30 (wT29 x7v.Op x7v.Text (Gp ug) uh ui) 3 0) :: (ug, .row 30 uj (ui * kT29.size) 0) :: (some gx2, .row 3 [.i u8] 1 0) :: Lr)) (_ : Rd kT29 S1 w1 u9 ub x3v.L) (_ : x3v.L.length = ua) (_ : Els kT29 S1 w1 uf x6v.L) (_ : x6v.L.length = ud) (_ : Els kT29 S1 w1 uj x7v.L) (_ : x7v.L.length = uh) (junk : Nat → Value),
 Goes Tg (base 12) J3 ⟨lfr 56 [(1, .i x1), (2, (pt gx2 0)), (3, (pt gx3 0)), (6, (pt gx6 0)), (7, (pt gx7 0)), (8, .i x8)] junk, []⟩ w1 (Done Tg 12 (Rets (Post.z0 nz wz S0 w0 Lr gx2 r)))
def LL.z1 : Int × T29 × T29 × T29 × Int × Int → (T29 × Int) → Prop := fun a r => ∀ {nz wz S0 w0 Lr} (gx2 : Nat), L.z1 nz wz S0 w0 Lr gx2 a r
def L.z2 (gx2 : Nat) : Int × T29 × T29 × T29 × Int × Bool × Int → (T29 × Int) → Prop := fun ⟨x1, x3v, x6v, x7v, x8, x38, u8⟩ r => ∀ S1 w1, Ext S0 w0 S1 w1 → ∀ gx3 u9 ua ub gx6 uc ud ue uf gx7 ug uh ui uj (_ : Hp nz wz S1 w1 ((some gx3, .row 30 (wT29 x3v.Op x3v.Text u9 ua ub) 3 0) :: (some gx6, .row 30 (wT29 x6v.Op x6v.Text (Gp uc) ud ue) 3 0) :: (uc, .row 30 uf (ue * kT29.size) 0) :: (some gx7, .row 30 (wT29 x7v.Op x7v.Text (Gp ug) uh ui) 3 0) :: (ug, .row 30 uj (ui * kT29.size) 0) :: (some gx2, .row 3 [.i u8] 1 0) :: Lr)) (_ : Rd kT29 S1 w1 u9 ub x3v.L) (_ : x3v.L.length = ua) (_ : Els kT29 S1 w1 uf x6v.L) (_ : x6v.L.length = ud) (_ : Els kT29 S1 w1 uj x7v.L) (_ : x7v.L.length = uh) (junk : Nat → Value),
 Goes Tg (base 12) J5 ⟨lfr 56 [(1, .i x1), (2, (pt gx2 0)), (3, (pt gx3 0)), (6, (pt gx6 0)), (7, (pt gx7 0)), (8, .i x8), (38, .bool x38)] junk, []⟩ w1 (Done Tg 12 (Rets (Post.z0 nz wz S0 w0 Lr gx2 r)))
def LL.z2 : Int × T29 × T29 × T29 × Int × Bool × Int → (T29 × Int) → Prop := fun a r => ∀ {nz wz S0 w0 Lr} (gx2 : Nat), L.z2 nz wz S0 w0 Lr gx2 a r
theorem W.z3 : (∀ a r, M.a12 a = some r → LF.z0 a r) ∧ (∀ a r, M.a13 a = some r → LL.z1 a r) ∧ (∀ a r, M.ak a = some r → LL.z2 a r) := by
 refine M.a12.mutual_partial_correctness LF.z0 LL.z1 LL.z2 ?_ ?_ ?_
 ·
  intro uk ul ⟨x0, x1, u4⟩ r h nz wz S0 w0 Lr u5 u6 u7 gx2 p0 um un
  try dsimp only at h
  subst un
  refine Zf Tryz.f12 B12 53 ?_
  refine Gj 56 [(0, (ag (wT29 x0.Op x0.Text u5 x0.L.length u7))), (1, .i x1), (2, (pt gx2 0))] fun junk => ?_
  refine Gn 2 [] (Yt 10 B12 [0, 1] (Ys 11 B12 [])) ?_
  refine Ob 30 0 3 0 ((ag (wT29 x0.Op x0.Text u5 x0.L.length u7))) (wT29 x0.Op x0.Text u5 x0.L.length u7) p0 Xa fun b2 w2 z2 p2 => ?_
  refine Oa 30 6 0 (.agg #[.i 0, .string bE, Sn]) [.i 0, .string bE, Sn] p2 Xa fun b4 w3 z3 p3 => ?_
  refine Gm 5 [([9, 10], (pt gx2 0))] (Zr Q7 [2, 3, 4, 5] J8) ?_
  refine Xc 3 10 11 3 ⟨gx2, 0, none⟩ (.i u4) (p3.c 2 0) ?_
  refine Gn 2 [(12, .i (wr .i64 (u4 - 1))), (13, (pt gx2 0))] (Zr Q7 [5] J8) ?_
  refine So 3 13 12 0 2 gx2 0 (.i (wr .i64 (u4 - 1))) [.i (wr .i64 (u4 - 1))] p3 rfl Xe fun w4 z4 p4 => ?_
  refine Gn 2 [] (Ys 1110 B12 (Ys 1111 B12 [])) ?_
  have z5 : Ext S0 w4 S0 (w4).drew := Xk
  have p5 := p4.draw
  refine Gd [11] (Fc S0 (w4).drew [(⟨b2, 0, none⟩, .i x0.Op), (⟨b2, 1, none⟩, .string x0.Text)]) 2 12 ?_
  generalize (w4).drew = w5 at z5 p5 ⊢
  refine Xb 0 (.fieldAddr 30 3 0) 14 0 (pt b2 0) (p5.k [(1, 0, 2)]) ?_
  refine Al 1 3 14 15 3 ⟨b2, 0, none⟩ (.i x0.Op) (p5.k [(1, 0, 2)]) (fun _ h => h.2.at_ 0 rfl) ?_
  refine Xb 2 (.fieldAddr 30 3 1) 16 0 (pt b2 1) (p5.k [(1, 0, 2)]) ?_
  refine Al 3 9 16 17 9 ⟨b2, 1, none⟩ (.string x0.Text) (p5.k [(1, 0, 2)]) (fun _ h => h.2.at_ 1 rfl) ?_
  refine Xb 4 (.fieldAddr 30 3 1) 18 0 (pt b2 1) (p5.k [(1, 0, 2)]) ?_
  refine Al 5 9 18 19 9 ⟨b2, 1, none⟩ (.string x0.Text) (p5.k [(1, 0, 2)]) (fun _ h => h.2.at_ 1 rfl) ?_
  refine Xb 6 (.call { callee := .builtin .len, args := #[19], argTypes := #[9] }) 20 3 (.i (x0.Text.size : Int)) (p5.k [(1, 0, 2)]) ?_
  refine Xb 7 (.call { callee := .builtin .min, args := #[20, (.const (.int .i64 5))], argTypes := #[3, 3] }) 21 3 (.i (imn (x0.Text.size : Int) 5)) (p5.k [(1, 0, 2)]) ?_
  refine Gg h fun g6 h => ?_
  refine Gg h fun g7 h => ?_
  refine AnyG.slS (i := 8) 9 17 none (some 21) 22 9 x0.Text 0 (imn (x0.Text.size : Int) 5) (by kernel_rfl) (by kernel_rfl) (p5.k [(1, 0, 2)]) (by kernel_rfl) (by kernel_rfl) Xv (Xt .i64 (by kernel_rfl)) (by decide : (0 : Int) ≤ 0) g6 g7 ?_
  refine Xb 9 (.build 30 #[(0, 15), (1, 22)]) 23 30 (.agg #[.i x0.Op, .string (ss x0.Text 0 (imn (x0.Text.size : Int) 5)), Sn]) (p5.k [(1, 0, 2)]) ?_
  refine Oa 30 7 0 (.agg #[.i 0, .string bE, Sn]) [.i 0, .string bE, Sn] p5 (Av 10) fun b8 w6 z6 p6 => ?_
  refine Xo z6 ⟨(p6.c 2 0), (p6.c 2 1), trivial⟩ ?_
  refine So 30 7 23 0 0 b8 0 (.agg #[.i x0.Op, .string (ss x0.Text 0 (imn (x0.Text.size : Int) 5)), Sn]) [.i x0.Op, .string (ss x0.Text 0 (imn (x0.Text.size : Int) 5)), Sn] p6 rfl (As 11) fun w7 z7 p7 => ?_
  refine Xi [] (Fc S0 w7 []) (by decide) ?_
  refine Ad ?_
  refine Gn 7 [(8, .i 0)] J3 ?_
  have p7 : Hp nz wz S0 w7 ((none, .row 30 [] (0 * kT29.size) 0) :: (some b8, .row 30 [.i x0.Op, .string (ss x0.Text 0 (imn (x0.Text.size : Int) 5)), Sn] 3 0) :: (some b4, .row 30 [.i 0, .string bE, Sn] 3 0) :: (some b2, .row 30 (wT29 x0.Op x0.Text u5 x0.L.length u7) 3 0) :: (some gx2, .row 3 [.i (wr .i64 (u4 - 1))] 1 0) :: Lr) := p7.nilRow' 30
  have p7 : Hp nz wz S0 w7 ((none, .row 30 [] (0 * kT29.size) 0) :: (none, .row 30 [] (0 * kT29.size) 0) :: (some b8, .row 30 [.i x0.Op, .string (ss x0.Text 0 (imn (x0.Text.size : Int) 5)), Sn] 3 0) :: (some b4, .row 30 [.i 0, .string bE, .slice (Gp none) 0 0] 3 0) :: (some b2, .row 30 (wT29 x0.Op x0.Text u5 x0.L.length u7) 3 0) :: (some gx2, .row 3 [.i (wr .i64 (u4 - 1))] 1 0) :: Lr) := p7.nilRow' 30
  have p7 := (((((p7.fr 5).fr 1).fr 3).fr 3).fr 4).fr 5
  exact Gj 56 [(1, .i x1), (2, (pt gx2 0)), (3, (pt b2 0)), (6, (pt b4 0)), (7, (pt b8 0)), (8, .i 0)] (ul _ _ h gx2 _ _ (((((z2.t z3).t z4).t z5).t z6).t z7) _ _ _ _ _ none 0 0 [] _ none 0 0 [] p7 (um.ext (((((z2.t z3).t z4).t z5).t z6).t z7)) rfl (Els.nil (K := kT29)) rfl (Els.nil (K := kT29)) rfl)
 ·
  intro uo up ⟨x1, x3v, x6v, x7v, x8, u8⟩ r h nz wz S0 w0 Lr gx2 S1 w1 hx gx3 u9 ua ub gx6 uc ud ue uf gx7 ug uh ui uj p1 uq ur ut uu uv uw junk
  try dsimp only at h
  subst ur
  subst uu
  subst uw
  refine Gn 5 [(24, .i x8), (25, (pt gx3 2))] (Zr Qa [2, 3, 4, 5, 6, 7, 8, 9, 10, 11, 12, 13, 14] J5) ?_
  refine Xc 28 25 26 28 ⟨gx3, 2, none⟩ (Sl u9 x3v.L ub) (p1.c 0 2) ?_
  refine Gm 3 [([27], .i (x3v.L.length : Int)), ([28, 29], .bool (decide (x8 < (x3v.L.length : Int))))] (Zr Qa [6, 7, 8, 9, 10, 11, 12, 13, 14] J5) ?_
  refine Gi h (fun h17 h => ?_) fun h17 h => ?_
  ·
   rw [dt h17]
   refine Gm 4 [([30], .i x1), ([31, 32, 33], .bool (decide (x1 > 0)))] (Zr Qa [10, 11, 12, 13, 14] J5) ?_
   refine Gi h (fun h18 h => ?_) fun h18 h => ?_
   ·
    rw [dt h18]
    refine Gm 2 [([34, 35], (pt gx2 0))] (Zr Qa [12, 13, 14] J5) ?_
    refine Xc 3 35 36 3 ⟨gx2, 0, none⟩ (.i u8) (p1.c 5 0) ?_
    refine Gm 3 [([37, 38], .bool (decide (u8 > 0)))] J5 ?_
    exact Gj 56 [(1, .i x1), (2, (pt gx2 0)), (3, (pt gx3 0)), (6, (pt gx6 0)), (7, (pt gx7 0)), (8, .i x8), (38, .bool (decide (u8 > 0)))] (up _ _ h gx2 _ _ hx _ _ _ _ _ _ _ _ _ _ _ _ _ _ p1 uq rfl ut rfl uv rfl)
   ·
    rw [df h18]
    refine Gm 6 [([34, 35, 36, 37], undef), ([38], .bool false)] J5 ?_
    exact Gj 56 [(1, .i x1), (2, (pt gx2 0)), (3, (pt gx3 0)), (6, (pt gx6 0)), (7, (pt gx7 0)), (8, .i x8), (38, .bool false)] (up _ _ h gx2 _ _ hx _ _ _ _ _ _ _ _ _ _ _ _ _ _ p1 uq rfl ut rfl uv rfl)
  ·
   rw [df h17]
   refine Gm 10 [([30, 31, 34, 35, 36, 37], undef), ([32, 33, 38], .bool false)] J5 ?_
   exact Gj 56 [(1, .i x1), (2, (pt gx2 0)), (3, (pt gx3 0)), (6, (pt gx6 0)), (7, (pt gx7 0)), (8, .i x8), (38, .bool false)] (up _ _ h gx2 _ _ hx _ _ _ _ _ _ _ _ _ _ _ _ _ _ p1 uq rfl ut rfl uv rfl)
 ·
  intro ux uk uy ul ⟨x1, x3v, x6v, x7v, x8, x38, u8⟩ r h nz wz S0 w0 Lr gx2 S1 w1 hx gx3 u9 ua ub gx6 uc ud ue uf gx7 ug uh ui uj p1 uq ur ut uu uv uw junk
  try dsimp only at h
  subst ur
  subst uu
  subst uw
  refine Gi h (fun h24 h => ?_) fun h24 h => ?_
  ·
   rw [h24]
   refine Gn 4 [] (Ys 11110100100 B12 (Zb 1 (Ys 1111010011 B12 J2))) ?_
   have z8 : Ext S1 w1 S1 (w1).drew := Xk
   have p8 := p1.draw
   refine Gd [12, 14] (Fc S1 (w1).drew [(⟨gx7, 2, none⟩, Sl (Gp ug) x7v.L ui), (⟨gx3, 2, none⟩, Sl u9 x3v.L ub)]) 6 15 ?_
   generalize (w1).drew = w8 at z8 p8 ⊢
   refine Xb 0 (.fieldAddr 30 7 2) 41 0 (pt gx7 2) (p8.k [(3, 2, 1), (0, 2, 1)]) ?_
   refine Al 1 28 41 42 28 ⟨gx7, 2, none⟩ (Sl (Gp ug) x7v.L ui) (p8.k [(3, 2, 1), (0, 2, 1)]) (fun _ h => h.2.at_ 0 rfl) ?_
   refine Xb 2 (.fieldAddr 30 3 2) 43 0 (pt gx3 2) (p8.k [(3, 2, 1), (0, 2, 1)]) ?_
   refine Al 3 28 43 44 28 ⟨gx3, 2, none⟩ (Sl u9 x3v.L ub) (p8.k [(3, 2, 1), (0, 2, 1)]) (fun _ h => h.2.at_ 1 rfl) ?_
   refine Xb 4 (.move 8) 45 3 (.i x8) (p8.k [(3, 2, 1), (0, 2, 1)]) ?_
   refine Gg h fun g25 h => ?_
   refine Gg h fun g26 h => ?_
   refine Xn (i := 5) 28 44 45 46 0 30 .i64 x8 (gi x3v.L x8) rfl rfl (uq.ext z8) (by kernel_rfl) (by kernel_rfl) (p8.k [(3, 2, 1), (0, 2, 1)]) (by kernel_rfl) (by kernel_rfl) (by kernel_rfl) (by kernel_rfl) g25 g26 fun a27 _ f28 q29 => ?_
   have q30 := q29
   obtain ⟨_, _, rfl, rfl, ⟨_, _, rfl, rfl, ⟨A31, c32, rfl, f33⟩⟩⟩ := kT29_open q30
   refine Xw (i := 6) 30 46 47 30 a27 ([.i ((gi x3v.L x8).Op)] ++ ([.string ((gi x3v.L x8).Text)] ++ [.slice A31 (((gi x3v.L x8).L).length) c32])) (by kernel_rfl) (by kernel_rfl) (p8.k [(3, 2, 1), (0, 2, 1)]) (by kernel_rfl) (by kernel_rfl) (by kernel_rfl) (fun _ h => f28.fc h) ?_
   refine Xb 7 (.move 1) 48 3 (.i x1) (p8.k [(3, 2, 1), (0, 2, 1)]) ?_
   refine Xb 8 (.binOp .sub 3 48 (.const (.int .i64 1)) 3) 49 3 (.i (wr .i64 (x1 - 1))) (p8.k [(3, 2, 1), (0, 2, 1)]) ?_
   refine Xb 9 (.move 2) 50 33 (pt gx2 0) (p8.k [(3, 2, 1), (0, 2, 1)]) ?_
   have p8 := p8.fr 5
   refine Gb h fun y34 e35 h => ?_
   refine Oc (kc 12 [47, 49, 50] #[30, 3, 33]) 51 30 12 #[(ag (wT29 (gi x3v.L x8).Op (gi x3v.L x8).Text A31 (((gi x3v.L x8).L).length) c32)), .i (wr .i64 (x1 - 1)), (pt gx2 0)] (Ac 10) (uy (gi x3v.L x8, wr .i64 (x1 - 1), u8) y34 e35 _ _ _ _ p8 f33 rfl) ?_
   rintro _ w9 ⟨S9, uz, u10, u11, u12, rfl, z9, p9, u13, rfl⟩
   refine Xo z9 ⟨(p9.c 5 2), (p9.c 2 2), trivial⟩ ?_
   obtain ⟨S10, z10, p10, f37⟩ := p9.freezeRd 0 rfl u13 (by decide)
   refine Xz z10 ?_
   have f39 : Els kT29 S10 w9 ((wT29 y34.1.Op y34.1.Text (Gp uz) y34.1.L.length u11) : List Value) [y34.1] := by exact (Els.cons (K := kT29) (vs := (wT29 y34.1.Op y34.1.Text (Gp uz) y34.1.L.length u11)) (x := y34.1) (kT29_close ⟨[.i y34.1.Op], [.string y34.1.Text, Sl (Gp uz) y34.1.L u11], rfl, rfl, ⟨[.string y34.1.Text], [Sl (Gp uz) y34.1.L u11], rfl, rfl, ⟨_, _, rfl, f37⟩⟩⟩) Els.nil)
   refine Om (.buildSlice 28 1 #[(0, 51)]) 52 28 (fun b => .slice (Gp (some b)) 1 1) 30 ((wT29 y34.1.Op y34.1.Text (Gp uz) y34.1.L.length u11) : List Value) (1 * kT29.size) p10 (Av 11) fun b38 w11 z11 p11 => ?_
   refine Xo z11 ⟨(p11.c 6 2), (p11.c 3 2), trivial⟩ ?_
   refine Gg h fun g44 h => ?_
   refine On (K := kT29) 28 42 52 53 28 30 7 (.agg #[.i 0, .string ⟨#[]⟩, Sn]) 48 x7v.L.length ui 1 x7v.L [y34.1] (x7v.L ++ [y34.1]) (Gp (some b38)) 1 rfl rfl rfl p11 rfl (uv.ext (((z8.t z9).t z10).t z11)) (Av 12) (f39.ext z11) (src_own p11 (q := 0) rfl) g44 fun w12 G45 c46 u14 z12 p12 f48 => ?_
   refine Xi [14] (Fc S10 w12 []) (by decide) ?_
   refine Xb 13 (.fieldAddr 30 7 2) 54 0 (pt gx7 2) Fc0 ?_
   refine So 28 54 53 0 6 gx7 2 (.slice (Gp G45) ((x7v.L ++ [y34.1]).length) c46) [.slice (Gp G45) ((x7v.L ++ [y34.1]).length) c46] p12 rfl (As 14) fun w13 z13 p13 => ?_
   refine Xi [] (Fc S10 w13 []) (by decide) ?_
   refine Ad ?_
   have p13 := (p13.dp 0).dp 0
   refine Gm 7 [([39], .i x8), ([40, 8], .i (wr .i64 (x8 + 1)))] J3 ?_
   have p13 := (((((p13.fr 0).fr 5).fr 5).fr 5).fr 5).fr 5
   exact Gj 56 [(1, .i x1), (2, (pt gx2 0)), (3, (pt gx3 0)), (6, (pt gx6 0)), (7, (pt gx7 0)), (8, .i (wr .i64 (x8 + 1)))] (ul _ _ h gx2 _ _ ((((((hx.t z8).t z9).t z10).t z11).t z12).t z13) _ _ _ _ _ _ _ _ _ _ _ _ _ _ p13 (uq.ext (((((z8.t z9).t z10).t z11).t z12).t z13)) rfl (ut.ext (((((z8.t z9).t z10).t z11).t z12).t z13)) rfl (f48.ext z13) rfl)
  ·
   rw [bf h24]
   refine Gn 4 [] (Yt 111110 B12 [0, 1] Jk) ?_
   refine Xg 30 7 55 30 ⟨gx7, 0, none⟩ (wT29 x7v.Op x7v.Text (Gp ug) x7v.L.length ui) (p1.pa 3 0) ?_
   refine So 30 6 55 0 1 gx6 0 ((ag (wT29 x7v.Op x7v.Text (Gp ug) x7v.L.length ui))) (wT29 x7v.Op x7v.Text (Gp ug) x7v.L.length ui) p1 rfl Xe fun w14 z14 p14 => ?_
   refine Gn 1 [] Jk ?_
   obtain rfl := sj h
   have p14 := ((p14.dp 0).dp 1).dp 1
   exact R1 Tryz.f12 (.cell 6 30) ((ag (wT29 x7v.Op x7v.Text (Gp ug) x7v.L.length ui))) (Rn gx6 (p14.pa 0 0)) ⟨_, _, _, _, _, rfl, (hx.t z14), p14.drop, (uv.ext z14), rfl⟩
theorem W.z0 : ∀ a r, M.a12 a = some r → LF.z0 a r := (W.z3).1
theorem W.z1 : ∀ a r, M.a13 a = some r → LL.z1 a r := (W.z3).2.1
theorem W.z2 : ∀ a r, M.ak a = some r → LL.z2 a r := (W.z3).2.2
def Jm := Ys 1111 B61 []
def Jn := Ys 11101 B61 Jm
def Jo := Ys 11111 B61 []
def Qi := Yq 11110100 B61
def Jq := Zl Qi (Zb 0 Jo)
def Jr := Zc Qi Jq
def Ju := Ys 111 B61 []
def Qm := Yq 110 B61
def Qn := Yq 11100 B61
def J15 := Zb 1 (Ys 11110100111 B61 Jq)
def J18 := Ys 11110100110011 B61 J15
def Qx := Yq 11110100110010 B61
def Post.z4 (gx2 : Nat) (r : Bool × Int) (v : Value) (w' : World) : Prop :=
 ∃ S', v = .bool r.1 ∧ Ext S0 w0 S' w' ∧ Hp nz wz S' w' ((some gx2, .row 3 [.i r.2] 1 0) :: Lr)
def LF.z4 : T29 × Int × Int → (Bool × Int) → Prop := fun ⟨x0, x1, u4⟩ r => ∀ {nz wz S0 w0 Lr} u5 u6 u7 gx2 (_ : Hp nz wz S0 w0 ((some gx2, .row 3 [.i u4] 1 0) :: Lr)) (_ : Rd kT29 S0 w0 u5 u7 x0.L) (_ : x0.L.length = u6),
 Calls Tg 61 #[(ag (wT29 x0.Op x0.Text u5 u6 u7)), .i x1, (pt gx2 0)] w0 (Rets (Post.z4 nz wz S0 w0 Lr gx2 r))
def L.z5 (gx2 : Nat) : Int × T29 × Bool × Int → (Bool × Int) → Prop := fun ⟨x1, x3v, x21, u8⟩ r => ∀ S1 w1, Ext S0 w0 S1 w1 → ∀ gx3 u9 ua ub (_ : Hp nz wz S1 w1 ((some gx3, .row 30 (wT29 x3v.Op x3v.Text u9 ua ub) 3 0) :: (some gx2, .row 3 [.i u8] 1 0) :: Lr)) (_ : Rd kT29 S1 w1 u9 ub x3v.L) (_ : x3v.L.length = ua) (junk : Nat → Value),
 Goes Tg (base 61) Jn ⟨lfr 36 [(1, .i x1), (2, (pt gx2 0)), (3, (pt gx3 0)), (21, .bool x21)] junk, []⟩ w1 (Done Tg 61 (Rets (Post.z4 nz wz S0 w0 Lr gx2 r)))
def LL.z5 : Int × T29 × Bool × Int → (Bool × Int) → Prop := fun a r => ∀ {nz wz S0 w0 Lr} (gx2 : Nat), L.z5 nz wz S0 w0 Lr gx2 a r
def L.z6 (gx2 : Nat) : Int × (List T29) × Int × Int × Int → (Bool × Int) → Prop := fun ⟨x1, x23, x24, x25, u8⟩ r => ∀ S1 w1, Ext S0 w0 S1 w1 → ∀ u16 u17 u18 (_ : Hp nz wz S1 w1 ((some gx2, .row 3 [.i u8] 1 0) :: Lr)) (_ : Rd kT29 S1 w1 u16 u18 x23) (_ : x23.length = u17) (junk : Nat → Value),
 Goes Tg (base 61) Jr ⟨lfr 36 [(1, .i x1), (2, (pt gx2 0)), (23, .slice u16 u17 u18), (24, .i x24), (25, .i x25)] junk, []⟩ w1 (Done Tg 61 (Rets (Post.z4 nz wz S0 w0 Lr gx2 r)))
def LL.z6 : Int × (List T29) × Int × Int × Int → (Bool × Int) → Prop := fun a r => ∀ {nz wz S0 w0 Lr} (gx2 : Nat), L.z6 nz wz S0 w0 Lr gx2 a r
theorem W.z7 : (∀ a r, M.a4 a = some r → LF.z4 a r) ∧ (∀ a r, M.at a = some r → LL.z5 a r) ∧ (∀ a r, M.ae a = some r → LL.z6 a r) := by
 refine M.a4.mutual_partial_correctness LF.z4 LL.z5 LL.z6 ?_ ?_ ?_
 ·
  intro u19 u1a ⟨x0, x1, u4⟩ r h nz wz S0 w0 Lr u5 u6 u7 gx2 p0 um un
  try dsimp only at h
  subst un
  refine Zf Tryz.f61 B61 33 ?_
  refine Gj 36 [(0, (ag (wT29 x0.Op x0.Text u5 x0.L.length u7))), (1, .i x1), (2, (pt gx2 0))] fun junk => ?_
  refine Gn 2 [] (Yt 10 B61 [0, 1] (Ys 11 B61 [])) ?_
  refine Ob 30 0 3 0 ((ag (wT29 x0.Op x0.Text u5 x0.L.length u7))) (wT29 x0.Op x0.Text u5 x0.L.length u7) p0 Xa fun b2 w2 z2 p2 => ?_
  refine Gm 6 [([6], .bool false), ([9, 10], (pt gx2 0))] (Zr Qm [2, 3, 4, 5] Ju) ?_
  refine Xc 3 10 11 3 ⟨gx2, 0, none⟩ (.i u4) (p2.c 1 0) ?_
  refine Gn 2 [(12, .i (wr .i64 (u4 + 1))), (13, (pt gx2 0))] (Zr Qm [5] Ju) ?_
  refine So 3 13 12 0 1 gx2 0 (.i (wr .i64 (u4 + 1))) [.i (wr .i64 (u4 + 1))] p2 rfl Xe fun w3 z3 p3 => ?_
  refine Gm 7 [([14], .i x1), ([15, 16], .bool (decide (x1 = 0)))] (Zr Qn [3, 4, 5, 6, 7] Jn) ?_
  refine Gi h (fun h4 h => ?_) fun h4 h => ?_
  ·
   rw [dt h4]
   refine Gm 6 [([17, 18, 19, 20], undef), ([21], .bool true)] Jn ?_
   exact Gj 36 [(1, .i x1), (2, (pt gx2 0)), (3, (pt b2 0)), (21, .bool true)] (u1a _ _ h gx2 _ _ (z2.t z3) _ _ _ _ p3 (um.ext (z2.t z3)) rfl)
  ·
   rw [df h4]
   refine Gm 2 [([17, 18], (pt gx2 0))] (Zr Qn [5, 6, 7] Jn) ?_
   refine Xc 3 18 19 3 ⟨gx2, 0, none⟩ (.i (wr .i64 (u4 + 1))) (p3.c 1 0) ?_
   refine Gm 3 [([20, 21], .bool (decide (wr .i64 (u4 + 1) > 4096)))] Jn ?_
   exact Gj 36 [(1, .i x1), (2, (pt gx2 0)), (3, (pt b2 0)), (21, .bool (decide (wr .i64 (u4 + 1) > 4096)))] (u1a _ _ h gx2 _ _ (z2.t z3) _ _ _ _ p3 (um.ext (z2.t z3)) rfl)
 ·
  intro u1b u1c ⟨x1, x3v, x21, u8⟩ r h nz wz S0 w0 Lr gx2 S1 w1 hx gx3 u9 ua ub p1 uq ur junk
  try dsimp only at h
  subst ur
  refine Gi h (fun h6 h => ?_) fun h6 h => ?_
  ·
   rw [h6]
   refine Gn 5 [(6, .bool false)] (Ys 1110101 B61 Jm) ?_
   obtain rfl := sj h
   have p1 := p1.dp 0
   exact Xd Tryz.f61 (.bool false) ⟨_, rfl, hx, p1⟩
  ·
   rw [bf h6]
   refine Gn 6 [(22, (pt gx3 2))] (Yt 111100 B61 [1, 2, 3] (Ys 111101 B61 Jo)) ?_
   refine Xc 28 22 23 28 ⟨gx3, 2, none⟩ (Sl u9 x3v.L ub) (p1.c 0 2) ?_
   refine Gn 5 [(24, .i (x3v.L.length : Int)), (25, .i 0)] Jr ?_
   have p1 := p1.dp 0
   exact Gj 36 [(1, .i x1), (2, (pt gx2 0)), (23, Sl u9 x3v.L ub), (24, .i (x3v.L.length : Int)), (25, .i 0)] (u1c _ _ h gx2 _ _ hx _ _ _ p1 uq rfl)
 ·
  intro rec_gram_Query_count u1b ih_gram_Query_count u1c ⟨x1, x23, x24, x25, u8⟩ r h nz wz S0 w0 Lr gx2 S1 w1 hx u16 u17 u18 p1 u1d u1e junk
  try dsimp only at h
  subst u1e
  refine Gn 5 [(26, .bool (decide (x25 < x24)))] (Ys 1111010010 B61 (Ys 1111010011 B61 Jq)) ?_
  refine Gi h (fun h7 h => ?_) fun h7 h => ?_
  ·
   rw [dt h7]
   refine Gn 6 [] (Yt 1111010011000 B61 [0, 1, 2, 3] (Ys 1111010011001 B61 J15)) ?_
   refine Gg h fun g8 h => ?_
   refine Gg h fun g9 h => ?_
   refine Oi 28 23 25 27 0 30 .i64 x25 (gi x23 x25) rfl rfl u1d Xa g8 g9 fun a10 _ f11 q12 => ?_
   have q13 := q12
   obtain ⟨_, _, rfl, rfl, ⟨_, _, rfl, rfl, ⟨A14, c15, rfl, f16⟩⟩⟩ := kT29_open q13
   refine Xg 30 27 28 30 a10 ([.i ((gi x23 x25).Op)] ++ ([.string ((gi x23 x25).Text)] ++ [.slice A14 (((gi x23 x25).L).length) c15])) (f11.cell) ?_
   refine Oa 30 8 0 (.agg #[.i 0, .string bE, Sn]) [.i 0, .string bE, Sn] p1 Xa fun b17 w4 z4 p4 => ?_
   refine So 30 8 28 0 0 b17 0 ((ag (wT29 (gi x23 x25).Op (gi x23 x25).Text A14 (((gi x23 x25).L).length) c15))) (wT29 (gi x23 x25).Op (gi x23 x25).Text A14 (((gi x23 x25).L).length) c15) p4 rfl Xe fun w5 z5 p5 => ?_
   refine Gn 3 [] (Zr Qx [0, 1, 2, 3, 4, 5] J18) ?_
   refine Xg 30 8 29 30 ⟨b17, 0, none⟩ (wT29 (gi x23 x25).Op (gi x23 x25).Text A14 (((gi x23 x25).L).length) c15) (p5.pa 0 0) ?_
   refine Gn 3 [(30, .i x1), (31, .i (wr .i64 (x1 - 1))), (32, (pt gx2 0))] (Zr Qx [4, 5] J18) ?_
   have p5 := p5.fr 1
   refine Gb h fun y19 e20 h => ?_
   refine Gc (kc 61 [29, 31, 32] #[30, 3, 33]) 33 4 61 _ (ih_gram_Query_count (gi x23 x25, wr .i64 (x1 - 1), u8) y19 e20 _ _ _ _ p5 (f16.ext (z4.t z5)) rfl) ?_
   rintro _ w6 ⟨S6, rfl, z6, p6⟩
   have p6 := p6.dp 1
   refine Gn 2 [(34, .bool (!y19.1))] J18 ?_
   refine Gi h (fun h21 h => ?_) fun h21 h => ?_
   ·
    rw [h21]
    refine Gm 8 [([35, 25], .i (wr .i64 (x25 + 1)))] Jr ?_
    exact Gj 36 [(1, .i x1), (2, (pt gx2 0)), (23, Sl u16 x23 u18), (24, .i x24), (25, .i (wr .i64 (x25 + 1)))] (u1c _ _ h gx2 _ _ (((hx.t z4).t z5).t z6) _ _ _ p6 (u1d.ext ((z4.t z5).t z6)) rfl)
   ·
    rw [bf h21]
    refine Gn 5 [(6, .bool false)] (Ys 1111010011001101 B61 J15) ?_
    obtain rfl := sj h
    exact Xd Tryz.f61 (.bool false) ⟨_, rfl, (((hx.t z4).t z5).t z6), p6⟩
  ·
   rw [df h7]
   refine Gn 6 [(6, .bool true)] (Ys 111111 B61 []) ?_
   obtain rfl := sj h
   exact Xd Tryz.f61 (.bool true) ⟨_, rfl, hx, p1⟩
theorem W.z4 : ∀ a r, M.a4 a = some r → LF.z4 a r := (W.z7).1
theorem W.z5 : ∀ a r, M.at a = some r → LL.z5 a r := (W.z7).2.1
theorem W.z6 : ∀ a r, M.ae a = some r → LL.z6 a r := (W.z7).2.2
def J1d := Ys 111 B62 []
def J1e := Zb 0 J1d
def J1f := Ys 110101 B62 J1e
def J1g := Ys 1101011111 B62 J1e
def Q14 := Yq 110100 B195
def J1j := Zl Q14 (Zb 0 (Ys 111 B195 []))
def J1k := Zc Q14 J1j
def J1q := Ys 11010101 B62 J1e
def Q1b := Yq 11010100 B62
def J1v := Ys 1101011101 B62 J1e
def Q1e := Yq 1101011100 B62
def J20 := Ys 110101111101 B62 J1e
def Q1h := Yq 110101111100 B62
def J25 := Ys 111 B128 []
def J26 := Yt 110 B128 [2, 3, 4] J25
def J28 := Ys 11010010 B195 (Ys 11010011 B195 J1j)
def J2a := Zb 1 (Ys 110100111 B195 J1j)
def J2b := Ys 110100110011 B195 J2a
def J2c := Yt 110100110010 B195 [3, 4, 5] J2b
def J2d := Ys 11010011001101 B195 J2a
def J2e := Ys 1111 B195 []
def J2h := Ys 111 B129 []
def Post.z8 (r : Bool) (v : Value) (w' : World) : Prop :=
 ∃ S', v = .bool r ∧ Ext S0 w0 S' w' ∧ Hp nz wz S' w' (Lr)
def Post.z9 (r : Bool) (v : Value) (w' : World) : Prop :=
 ∃ S', v = .bool r ∧ Ext S0 w0 S' w' ∧ Hp nz wz S' w' (Lr)
def Post.za (r : Int) (v : Value) (w' : World) : Prop :=
 ∃ S', v = .i r ∧ Ext S0 w0 S' w' ∧ Hp nz wz S' w' (Lr)
def Post.zb (r : Bool) (v : Value) (w' : World) : Prop :=
 ∃ S', v = .bool r ∧ Ext S0 w0 S' w' ∧ Hp nz wz S' w' (Lr)
def LF.z8 : T29 → Bool → Prop := fun x0 r => ∀ {nz wz S0 w0 Lr} u5 u6 u7 (_ : Hp nz wz S0 w0 (Lr)) (_ : Rd kT29 S0 w0 u5 u7 x0.L) (_ : x0.L.length = u6),
 Calls Tg 62 #[(ag (wT29 x0.Op x0.Text u5 u6 u7))] w0 (Rets (Post.z8 nz wz S0 w0 Lr r))
def L.zc : T29 × Int × Bool → Bool → Prop := fun ⟨x1v, x4, x5⟩ r => ∀ S1 w1, Ext S0 w0 S1 w1 → ∀ gx1 u1g u1h u1i (_ : Hp nz wz S1 w1 ((some gx1, .row 30 (wT29 x1v.Op x1v.Text u1g u1h u1i) 3 0) :: Lr)) (_ : Rd kT29 S1 w1 u1g u1i x1v.L) (_ : x1v.L.length = u1h) (junk : Nat → Value),
 Goes Tg (base 62) J1f ⟨lfr 41 [(1, (pt gx1 0)), (4, .i x4), (5, .bool x5)] junk, []⟩ w1 (Done Tg 62 (Rets (Post.z8 nz wz S0 w0 Lr r)))
def LL.zc : T29 × Int × Bool → Bool → Prop := fun a r => ∀ {nz wz S0 w0 Lr}, L.zc nz wz S0 w0 Lr a r
def L.zd : T29 × Bool → Bool → Prop := fun ⟨x1v, x29⟩ r => ∀ S1 w1, Ext S0 w0 S1 w1 → ∀ gx1 u1g u1h u1i (_ : Hp nz wz S1 w1 ((some gx1, .row 30 (wT29 x1v.Op x1v.Text u1g u1h u1i) 3 0) :: Lr)) (_ : Rd kT29 S1 w1 u1g u1i x1v.L) (_ : x1v.L.length = u1h) (junk : Nat → Value),
 Goes Tg (base 62) J1g ⟨lfr 41 [(1, (pt gx1 0)), (29, .bool x29)] junk, []⟩ w1 (Done Tg 62 (Rets (Post.z8 nz wz S0 w0 Lr r)))
def LL.zd : T29 × Bool → Bool → Prop := fun a r => ∀ {nz wz S0 w0 Lr}, L.zd nz wz S0 w0 Lr a r
def LF.z9 : (List T29) → Bool → Prop := fun x0 r => ∀ {nz wz S0 w0 Lr} Ax0 nx0 cx0 (_ : Hp nz wz S0 w0 (Lr)) (_ : Rd kT29 S0 w0 Ax0 cx0 x0) (_ : x0.length = nx0),
 Calls Tg 128 #[.slice Ax0 nx0 cx0, .func (.func 129) #[] #[]] w0 (Rets (Post.z9 nz wz S0 w0 Lr r))
def LF.za : (List T29) → Int → Prop := fun x0 r => ∀ {nz wz S0 w0 Lr} Ax0 nx0 cx0 (_ : Hp nz wz S0 w0 (Lr)) (_ : Rd kT29 S0 w0 Ax0 cx0 x0) (_ : x0.length = nx0),
 Calls Tg 195 #[.slice Ax0 nx0 cx0, .func (.func 129) #[] #[]] w0 (Rets (Post.za nz wz S0 w0 Lr r))
def L.ze : (List T29) × Int × Int → Int → Prop := fun ⟨x0, x7, x8⟩ r => ∀ S1 w1, Ext S0 w0 S1 w1 → ∀ Ax0 nx0 cx0 (_ : Hp nz wz S1 w1 (Lr)) (_ : Rd kT29 S1 w1 Ax0 cx0 x0) (_ : x0.length = nx0) (junk : Nat → Value),
 Goes Tg (base 195) J1k ⟨lfr 19 [(0, .slice Ax0 nx0 cx0), (1, .func (.func 129) #[] #[]), (7, .i x7), (8, .i x8)] junk, []⟩ w1 (Done Tg 195 (Rets (Post.za nz wz S0 w0 Lr r)))
def LL.ze : (List T29) × Int × Int → Int → Prop := fun a r => ∀ {nz wz S0 w0 Lr}, L.ze nz wz S0 w0 Lr a r
def LF.zb : T29 → Bool → Prop := fun x0 r => ∀ {nz wz S0 w0 Lr} u5 u6 u7 (_ : Hp nz wz S0 w0 (Lr)) (_ : Rd kT29 S0 w0 u5 u7 x0.L) (_ : x0.L.length = u6),
 Calls Tg 129 #[(ag (wT29 x0.Op x0.Text u5 u6 u7))] w0 (Rets (Post.zb nz wz S0 w0 Lr r))
theorem W.zf : (∀ a r, M.af a = some r → LF.z8 a r) ∧ (∀ a r, M.a5 a = some r → LL.zc a r) ∧ (∀ a r, M.a6 a = some r → LL.zd a r) ∧ (∀ a r, M.a2f a = some r → LF.z9 a r) ∧ (∀ a r, M.a2g a = some r → LF.za a r) ∧ (∀ a r, M.ag a = some r → LL.ze a r) ∧ (∀ a r, M.a2h a = some r → LF.zb a r) := by
 refine M.af.mutual_partial_correctness LF.z8 LL.zc LL.zd LF.z9 LF.za LL.ze LF.zb ?_ ?_ ?_ ?_ ?_ ?_ ?_
 ·
  intro u1j u1k x0 r h nz wz S0 w0 Lr u5 u6 u7 p0 um un
  try dsimp only at h
  subst un
  refine Zf Tryz.f62 B62 40 ?_
  refine Gj 41 [(0, (ag (wT29 x0.Op x0.Text u5 x0.L.length u7)))] fun junk => ?_
  refine Gn 2 [] (Yt 10 B62 [0, 1] (Ys 11 B62 [])) ?_
  refine Ob 30 0 1 0 ((ag (wT29 x0.Op x0.Text u5 x0.L.length u7))) (wT29 x0.Op x0.Text u5 x0.L.length u7) p0 Xa fun b1 w2 z2 p2 => ?_
  refine Gn 6 [(2, .bool false), (3, (pt b1 0))] (Yt 1100 B62 [1] (Ys 1101 B62 J1d)) ?_
  refine Xc 3 3 4 3 ⟨b1, 0, none⟩ (.i x0.Op) (p2.c 0 0) ?_
  refine Gm 8 [([6, 5], .bool (decide (x0.Op = 0)))] (Ys 1101001 B62 J1f) ?_
  refine Gi h (fun h3 h => ?_) fun h3 h => ?_
  ·
   rw [dt h3]
   refine Gn 2 [] J1f ?_
   exact Gj 41 [(1, (pt b1 0)), (4, .i x0.Op), (5, .bool true)] (u1k _ _ h _ _ z2 _ _ _ _ p2 (um.ext z2) rfl)
  ·
   rw [df h3]
   refine Gm 5 [([7, 5], .bool (decide (x0.Op = 1)))] J1f ?_
   exact Gj 41 [(1, (pt b1 0)), (4, .i x0.Op), (5, .bool (decide (x0.Op = 1)))] (u1k _ _ h _ _ z2 _ _ _ _ p2 (um.ext z2) rfl)
 ·
  intro u1l u1m ⟨x1v, x4, x5⟩ r h nz wz S0 w0 Lr S1 w1 hx gx1 u1g u1h u1i p1 u1n u1o junk
  try dsimp only at h
  subst u1o
  refine Gi h (fun h5 h => ?_) fun h5 h => ?_
  ·
   rw [h5]
   refine Gn 4 [(8, (pt gx1 1))] (Zr Q1b [1, 2, 3, 4, 5, 6, 7, 8, 9] J1q) ?_
   refine Xc 9 8 9 9 ⟨gx1, 1, none⟩ (.string x1v.Text) (p1.c 0 1) ?_
   refine Gm 2 [([10, 11], .bool (x1v.Text.toList == bE.toList))] (Zr Q1b [4, 5, 6, 7, 8, 9] J1q) ?_
   refine Gi h (fun h6 h => ?_) fun h6 h => ?_
   ·
    rw [h6]
    refine Gn 1 [(12, (pt gx1 2))] (Zr Q1b [5, 6, 7, 8, 9] J1q) ?_
    refine Xc 28 12 13 28 ⟨gx1, 2, none⟩ (Sl u1g x1v.L u1i) (p1.c 0 2) ?_
    refine Gm 5 [([14], .i (x1v.L.length : Int)), ([15, 16, 2], .bool (decide ((x1v.L.length : Int) = 0)))] J1q ?_
    obtain rfl := sj h
    have p1 := p1.dp 0
    exact Xd Tryz.f62 (.bool (decide ((x1v.L.length : Int) = 0))) ⟨_, rfl, hx, p1⟩
   ·
    rw [bf h6]
    refine Gm 7 [([12, 13, 14, 15], undef), ([16, 2], .bool false)] J1q ?_
    obtain rfl := sj h
    have p1 := p1.dp 0
    exact Xd Tryz.f62 (.bool false) ⟨_, rfl, hx, p1⟩
  ·
   rw [bf h5]
   refine Gm 6 [([18, 17], .bool (decide (x4 = 2)))] (Ys 11010111 B62 J1e) ?_
   refine Gi h (fun h7 h => ?_) fun h7 h => ?_
   ·
    rw [dt h7]
    refine Gn 4 [(19, (pt gx1 1))] (Zr Q1e [1, 2, 3, 4, 5, 6, 7, 8, 9, 10] J1v) ?_
    refine Xc 9 19 20 9 ⟨gx1, 1, none⟩ (.string x1v.Text) (p1.c 0 1) ?_
    refine Gm 3 [([21], .i (x1v.Text.size : Int)), ([22, 23], .bool (decide ((x1v.Text.size : Int) = 3)))] (Zr Q1e [5, 6, 7, 8, 9, 10] J1v) ?_
    refine Gi h (fun h8 h => ?_) fun h8 h => ?_
    ·
     rw [dt h8]
     refine Gn 1 [(24, (pt gx1 2))] (Zr Q1e [6, 7, 8, 9, 10] J1v) ?_
     refine Xc 28 24 25 28 ⟨gx1, 2, none⟩ (Sl u1g x1v.L u1i) (p1.c 0 2) ?_
     refine Gm 5 [([26], .i (x1v.L.length : Int)), ([27, 28, 2], .bool (decide ((x1v.L.length : Int) = 0)))] J1v ?_
     obtain rfl := sj h
     have p1 := p1.dp 0
     exact Xd Tryz.f62 (.bool (decide ((x1v.L.length : Int) = 0))) ⟨_, rfl, hx, p1⟩
    ·
     rw [df h8]
     refine Gm 7 [([24, 25, 26, 27], undef), ([28, 2], .bool false)] J1v ?_
     obtain rfl := sj h
     have p1 := p1.dp 0
     exact Xd Tryz.f62 (.bool false) ⟨_, rfl, hx, p1⟩
   ·
    rw [df h7]
    refine Gm 7 [([30, 29], .bool (decide (x4 = 3)))] (Ys 11010111101 B62 J1g) ?_
    refine Gi h (fun h9 h => ?_) fun h9 h => ?_
    ·
     rw [dt h9]
     refine Gn 2 [] J1g ?_
     exact Gj 41 [(1, (pt gx1 0)), (29, .bool true)] (u1m _ _ h _ _ hx _ _ _ _ p1 u1n rfl)
    ·
     rw [df h9]
     refine Gm 5 [([31, 29], .bool (decide (x4 = 4)))] J1g ?_
     exact Gj 41 [(1, (pt gx1 0)), (29, .bool (decide (x4 = 4)))] (u1m _ _ h _ _ hx _ _ _ _ p1 u1n rfl)
 ·
  intro rec_gram_Query ih_gram_Query ⟨x1v, x29⟩ r h nz wz S0 w0 Lr S1 w1 hx gx1 u1g u1h u1i p1 u1n u1o junk
  try dsimp only at h
  subst u1o
  refine Gi h (fun h11 h => ?_) fun h11 h => ?_
  ·
   rw [h11]
   refine Gn 4 [(32, (pt gx1 1))] (Zr Q1h [1, 2, 3, 4, 5, 6, 7, 8, 9] J20) ?_
   refine Xc 9 32 33 9 ⟨gx1, 1, none⟩ (.string x1v.Text) (p1.c 0 1) ?_
   refine Gm 2 [([34, 35], .bool (x1v.Text.toList == bE.toList))] (Zr Q1h [4, 5, 6, 7, 8, 9] J20) ?_
   refine Gi h (fun h12 h => ?_) fun h12 h => ?_
   ·
    rw [h12]
    refine Gn 1 [(36, (pt gx1 2))] (Zr Q1h [5, 6, 7, 8, 9] J20) ?_
    refine Xc 28 36 37 28 ⟨gx1, 2, none⟩ (Sl u1g x1v.L u1i) (p1.c 0 2) ?_
    refine Gb h fun y13 e14 h => ?_
    refine Gc (.call { callee := .value (.func 128), args := #[37, (.func 129)], argTypes := #[28, 232] }) 38 4 128 _ (ih_gram_Query x1v.L y13 e14 _ _ _ p1 u1n rfl) ?_
    rintro _ w3 ⟨S3, rfl, z3, p3⟩
    have p3 := p3.dp 0
    refine Gm 4 [([39, 40, 2], .bool (!y13))] J20 ?_
    obtain rfl := sj h
    exact Xd Tryz.f62 (.bool (!y13)) ⟨_, rfl, (hx.t z3), p3⟩
   ·
    rw [bf h12]
    refine Gm 7 [([36, 37, 38, 39], undef), ([40, 2], .bool false)] J20 ?_
    obtain rfl := sj h
    have p1 := p1.dp 0
    exact Xd Tryz.f62 (.bool false) ⟨_, rfl, hx, p1⟩
  ·
   rw [bf h11]
   refine Gn 7 [(2, .bool false)] (Ys 1111 B62 []) ?_
   obtain rfl := sj h
   have p1 := p1.dp 0
   exact Xd Tryz.f62 (.bool false) ⟨_, rfl, hx, p1⟩
 ·
  intro u1r u1s x0 r h nz wz S0 w0 Lr Ax0 nx0 cx0 p0 fx0 lx0
  try dsimp only at h
  subst lx0
  refine Zf Tryz.f128 B128 7 ?_
  refine Gj 9 [(0, Sl Ax0 x0 cx0), (1, .func (.func 129) #[] #[])] fun junk => ?_
  refine Gn 8 [(4, .bool false), (5, Sl Ax0 x0 cx0), (6, .func (.func 129) #[] #[])] J26 ?_
  refine Gb h fun y1 e2 h => ?_
  refine Gc (kc 195 [5, 6] #[28, 232]) 7 3 195 _ (u1s x0 y1 e2 _ _ _ p0 fx0 rfl) ?_
  rintro _ w2 ⟨S2, rfl, z2, p2⟩
  refine Gm 3 [([8, 4], .bool (decide (y1 ≥ 0)))] J25 ?_
  obtain rfl := sj h
  exact Xd Tryz.f128 (.bool (decide (y1 ≥ 0))) ⟨_, rfl, z2, p2⟩
 ·
  intro u1t u1u x0 r h nz wz S0 w0 Lr Ax0 nx0 cx0 p0 fx0 lx0
  try dsimp only at h
  subst lx0
  refine Zf Tryz.f195 B195 17 ?_
  refine Gj 19 [(0, Sl Ax0 x0 cx0), (1, .func (.func 129) #[] #[])] fun junk => ?_
  refine Gm 13 [([4, 8], .i 0), ([6], Sl Ax0 x0 cx0), ([7], .i (x0.length : Int))] J1k ?_
  exact Gj 19 [(0, Sl Ax0 x0 cx0), (1, .func (.func 129) #[] #[]), (7, .i (x0.length : Int)), (8, .i 0)] (u1u _ _ h _ _ (Xj S0 w0) _ _ _ p0 fx0 rfl)
 ·
  intro u1t u1v u1u u1w ⟨x0, x7, x8⟩ r h nz wz S0 w0 Lr S1 w1 hx Ax0 nx0 cx0 p1 fx0 lx0 junk
  try dsimp only at h
  subst lx0
  refine Gn 5 [(9, .bool (decide (x8 < x7)))] J28 ?_
  refine Gi h (fun h1 h => ?_) fun h1 h => ?_
  ·
   rw [dt h1]
   refine Gm 14 [([10, 5, 13], .i x8), ([11], .func (.func 129) #[] #[]), ([12], Sl Ax0 x0 cx0)] J2c ?_
   refine Gg h fun g2 h => ?_
   refine Gg h fun g3 h => ?_
   refine Oi 28 12 13 14 0 30 .i64 x8 (gi x0 x8) rfl rfl fx0 Xa g2 g3 fun a4 _ f5 q6 => ?_
   have q7 := q6
   obtain ⟨_, _, rfl, rfl, ⟨_, _, rfl, rfl, ⟨A8, c9, rfl, f10⟩⟩⟩ := kT29_open q7
   refine Xg 30 14 15 30 a4 ([.i ((gi x0 x8).Op)] ++ ([.string ((gi x0 x8).Text)] ++ [.slice A8 (((gi x0 x8).L).length) c9])) (f5.cell) ?_
   refine Gb h fun y11 e12 h => ?_
   refine Gc (.call { callee := .value 11, args := #[15], argTypes := #[30] }) 16 4 129 _ (u1w (gi x0 x8) y11 e12 _ _ _ p1 f10 rfl) ?_
   rintro _ w2 ⟨S2, rfl, z2, p2⟩
   refine Gn 1 [] J2b ?_
   refine Gi h (fun h13 h => ?_) fun h13 h => ?_
   ·
    rw [h13]
    refine Gm 6 [([17, 4], .i x8)] J2d ?_
    obtain rfl := sj h
    exact Xd Tryz.f195 (.i x8) ⟨_, rfl, (hx.t z2), p2⟩
   ·
    rw [bf h13]
    refine Gm 8 [([18, 8], .i (wr .i64 (x8 + 1)))] J1k ?_
    exact Gj 19 [(0, Sl Ax0 x0 cx0), (1, .func (.func 129) #[] #[]), (7, .i x7), (8, .i (wr .i64 (x8 + 1)))] (u1u _ _ h _ _ (hx.t z2) _ _ _ p2 (fx0.ext z2) rfl)
  ·
   rw [df h1]
   refine Gn 6 [(4, .i (-1))] J2e ?_
   obtain rfl := sj h
   exact Xd Tryz.f195 (.i (-1)) ⟨_, rfl, hx, p1⟩
 ·
  intro rec_gram_Query_right ih_gram_Query_right x0 r h nz wz S0 w0 Lr u5 u6 u7 p0 um un
  try dsimp only at h
  subst un
  refine Zf Tryz.f129 B129 5 ?_
  refine Gj 6 [(0, (ag (wT29 x0.Op x0.Text u5 x0.L.length u7)))] fun junk => ?_
  refine Gn 2 [] (Yt 10 B129 [0, 1] (Ys 11 B129 [])) ?_
  refine Ob 30 0 1 0 ((ag (wT29 x0.Op x0.Text u5 x0.L.length u7))) (wT29 x0.Op x0.Text u5 x0.L.length u7) p0 Xa fun b1 w2 z2 p2 => ?_
  refine Gn 4 [(2, .bool false)] (Yt 110 B129 [0, 1, 2, 3] J2h) ?_
  refine Xg 30 1 3 30 ⟨b1, 0, none⟩ (wT29 x0.Op x0.Text u5 x0.L.length u7) (p2.pa 0 0) ?_
  refine Gb h fun y3 e4 h => ?_
  refine Gc (kc 62 [3] #[30]) 4 4 62 _ (ih_gram_Query_right x0 y3 e4 _ _ _ p2 (um.ext z2) rfl) ?_
  rintro _ w3 ⟨S3, rfl, z3, p3⟩
  have p3 := p3.dp 0
  refine Gm 3 [([5, 2], .bool (!y3))] J2h ?_
  obtain rfl := sj h
  exact Xd Tryz.f129 (.bool (!y3)) ⟨_, rfl, (z2.t z3), p3⟩
theorem W.z8 : ∀ a r, M.af a = some r → LF.z8 a r := (W.zf).1
theorem W.zc : ∀ a r, M.a5 a = some r → LL.zc a r := (W.zf).2.1
theorem W.zd : ∀ a r, M.a6 a = some r → LL.zd a r := (W.zf).2.2.1
theorem W.z9 : ∀ a r, M.a2f a = some r → LF.z9 a r := (W.zf).2.2.2.1
theorem W.za : ∀ a r, M.a2g a = some r → LF.za a r := (W.zf).2.2.2.2.1
theorem W.ze : ∀ a r, M.ag a = some r → LL.ze a r := (W.zf).2.2.2.2.2.1
theorem W.zb : ∀ a r, M.a2h a = some r → LF.zb a r := (W.zf).2.2.2.2.2.2
def J2n := Ys 1111 B20 []
def J2o := Ys 11101 B20 J2n
def Q22 := Yq 11100 B20
def J2s := Ys 1110101 B20 J2n
def Post.zg (r : Int) (v : Value) (w' : World) : Prop :=
 ∃ S', v = .i r ∧ Ext S0 w0 S' w' ∧ Hp nz wz S' w' (Lr)
theorem W.zg (x0 : T29) (r : Int) (h : M.au x0 = some r) {nz wz S0 w0 Lr} (u5 u6 u7) (p0 : Hp nz wz S0 w0 (Lr)) (um : Rd kT29 S0 w0 u5 u7 x0.L) (un : x0.L.length = u6) :
  Calls Tg 20 #[(ag (wT29 x0.Op x0.Text u5 u6 u7))] w0 (Rets (Post.zg nz wz S0 w0 Lr r)) := by
 subst un
 refine Zf Tryz.f20 B20 11 ?_
 refine Gj 12 [(0, (ag (wT29 x0.Op x0.Text u5 x0.L.length u7)))] fun junk => ?_
 delta M.au at h
 refine Gn 2 [] (Yt 10 B20 [0, 1] (Ys 11 B20 [])) ?_
 refine Ob 30 0 1 0 ((ag (wT29 x0.Op x0.Text u5 x0.L.length u7))) (wT29 x0.Op x0.Text u5 x0.L.length u7) p0 Xa fun b1 w2 z2 p2 => ?_
 refine Gn 4 [(2, .i 0)] (Yt 110 B20 [0, 1] (Ys 111 B20 [])) ?_
 refine Oa 3 3 0 (.i 0) [.i 0] p2 Xa fun b3 w3 z3 p3 => ?_
 refine So 3 3 (.const (.int .i64 0)) 0 0 b3 0 (.i 0) [.i 0] p3 rfl Xe fun w4 z4 p4 => ?_
 refine Gn 4 [] (Zr Q22 [0, 1, 2, 3, 4, 5, 6, 7] J2o) ?_
 refine Xg 30 1 4 30 ⟨b1, 0, none⟩ (wT29 x0.Op x0.Text u5 x0.L.length u7) (p4.pa 1 0) ?_
 refine Gb h fun y5 e6 h => ?_
 refine Gc (.call { callee := .value (.func 61), args := #[4, (.const (.int .i64 8)), 3], argTypes := #[30, 3, 33] }) 5 4 61 _ (W.z4 (x0, 8, 0) y5 e6 _ _ _ _ p4 (um.ext ((z2.t z3).t z4)) rfl) ?_
 rintro _ w5 ⟨S5, rfl, z5, p5⟩
 have p5 := p5.dp 0
 refine Gm 2 [([6, 7], .bool (!y5.1))] (Zr Q22 [4, 5, 6, 7] J2o) ?_
 refine Gi h (fun h7 h => ?_) fun h7 h => ?_
 ·
  rw [h7]
  refine Xg 30 1 8 30 ⟨b1, 0, none⟩ (wT29 x0.Op x0.Text u5 x0.L.length u7) (p5.pa 0 0) ?_
  refine Gb h fun y8 e9 h => ?_
  refine Gc (kc 62 [8] #[30]) 9 4 62 _ (W.z8 x0 y8 e9 _ _ _ p5 (um.ext (((z2.t z3).t z4).t z5)) rfl) ?_
  rintro _ w6 ⟨S6, rfl, z6, p6⟩
  have p6 := p6.dp 0
  refine Gm 3 [([10, 11], .bool (!y8))] J2o ?_
  refine Gi h (fun h10 h => ?_) fun h10 h => ?_
  ·
   rw [h10]
   refine Gn 6 [(2, .i 0)] (Ys 11111 B20 []) ?_
   obtain rfl := sj h
   exact Xd Tryz.f20 (.i 0) ⟨_, rfl, ((((z2.t z3).t z4).t z5).t z6), p6⟩
  ·
   rw [bf h10]
   refine Gn 5 [(2, .i 2)] J2s ?_
   obtain rfl := sj h
   exact Xd Tryz.f20 (.i 2) ⟨_, rfl, ((((z2.t z3).t z4).t z5).t z6), p6⟩
 ·
  rw [bf h7]
  refine Gm 10 [([8, 9, 10], undef), ([11], .bool true), ([2], .i 2)] J2s ?_
  obtain rfl := sj h
  have p5 := p5.dp 0
  exact Xd Tryz.f20 (.i 2) ⟨_, rfl, (((z2.t z3).t z4).t z5), p5⟩
def Post.zh (r : ByteArray) (v : Value) (w' : World) : Prop :=
 ∃ S' u1z, v = .func (.func 127) #[] #[(pt u1z 0)] ∧ Ext S0 w0 S' w' ∧ Hp nz wz S' w' ((some u1z, .row 9 [.string r] 1 0) :: Lr)
theorem W.zh (x0 : ByteArray) (r : ByteArray) (h : M.a58 x0 = some r) {nz wz S0 w0 Lr} (p0 : Hp nz wz S0 w0 (Lr)) :
  Calls Tg 59 #[.string x0] w0 (Rets (Post.zh nz wz S0 w0 Lr r)) := by
 refine Zf Tryz.f59 B59 3 ?_
 refine Gj 4 [(0, .string x0)] fun junk => ?_
 delta M.a58 at h
 refine Gn 2 [] (Yt 10 B59 [0, 1] (Ys 11 B59 [])) ?_
 refine Ob 9 0 1 0 (.string x0) [.string x0] p0 Xa fun b1 w2 z2 p2 => ?_
 refine Gm 7 [([2, 3], .func (.func 127) #[] #[(pt b1 0)])] (Ys 111 B59 []) ?_
 obtain rfl := sj h
 exact Xd Tryz.f59 (.func (.func 127) #[] #[(pt b1 0)]) ⟨_, _, rfl, z2, p2⟩
def J2w := Zb 1 []
def Q28 := Yq 1101010 B192
def Q29 := Yq 11010 B192
def Q2a := Yq 110101 B192
def Post.zi (lk : Nat) (rk : Nat) (jkk : Nat → Value) (u20 : Nat) (u21 : Nat) (u22 : ByteArray) (r : List ByteArray) (v : Value) (w' : World) : Prop :=
 ∃ S' u23 u24 u25 u26, v = .bool true ∧ Ext S0 w0 S' w' ∧ Hp nz wz S' w' ((some lk, .obj (lpst 192 (lfr 13 [(2, (pt u20 0)), (6, .func (.func 127) #[] #[(pt u21 0)])] jkk) #[7] (rfAssign (Q29)) (rfBody (Q29)) rk .ready none)) :: (some u20, .row 43 [.slice (Gp u23) u24 u25] 1 0) :: (u23, .row 9 u26 (u25 * kStr.size) 0) :: (some u21, .row 9 [.string u22] 1 0) :: Lr) ∧ Els kStr S' w' u26 r ∧ r.length = u24
theorem W.zi (u27 : List ByteArray) (u22 : ByteArray) (a0 : ByteArray) (r : List ByteArray) (h : M.a57 u27 u22 a0 = some r) {nz wz S0 w0 Lr} (lk rk jkk u20 u28 u29 u2a u2b u21) (p0 : Hp nz wz S0 w0 ((some lk, .obj (lpst 192 (lfr 13 [(2, (pt u20 0)), (6, .func (.func 127) #[] #[(pt u21 0)])] jkk) #[7] (rfAssign (Q29)) (rfBody (Q29)) rk .ready none)) :: (some u20, .row 43 [.slice (Gp u28) u29 u2a] 1 0) :: (u28, .row 9 u2b (u2a * kStr.size) 0) :: (some u21, .row 9 [.string u22] 1 0) :: Lr)) (u2c : Els kStr S0 w0 u2b u27) (u2d : u27.length = u29) :
  Goes Tg (rbase 192 lk) [.code (rfAssign (Q29)), .beginRound, .code (rfBody (Q29))] ⟨setp (lfr 13 [(2, (pt u20 0)), (6, .func (.func 127) #[] #[(pt u21 0)])] jkk) #[7] #[.string a0], []⟩ w0 (DoneR (Post.zi nz wz S0 w0 Lr lk rk jkk u20 u21 u22 r)) := by
 subst u2d
 refine Gj 13 [(2, (pt u20 0)), (6, .func (.func 127) #[] #[(pt u21 0)]), (7, .string a0)] fun junk => ?_
 delta M.a57 at h
 refine Gn 3 [(5, .string a0)] [.beginRound, .code (Q2a)] ?_
 refine Goes.beginR 0 rfl p0 rfl fun w2 z2 p2 => ?_
 refine Gn 2 [] (Zr Q28 [0, 1, 2, 3, 4] J2w) ?_
 refine Xc 43 2 8 43 ⟨u20, 0, none⟩ (Sl (Gp u28) u27 u2a) (p2.c 1 0) ?_
 refine Gn 1 [(9, .string a0)] (Zr Q28 [2, 3, 4] J2w) ?_
 have f6 : Els kStr S0 w2 ([.string a0] : List Value) [a0] := by exact (Els.cons (K := kStr) (vs := [.string a0]) (x := a0) rfl Els.nil)
 refine Om (.buildSlice 43 1 #[(0, 9)]) 10 43 (fun b => .slice (Gp (some b)) 1 1) 9 ([.string a0] : List Value) (1 * kStr.size) p2 Xa fun b5 w3 z3 p3 => ?_
 refine Gg h fun g11 h => ?_
 refine On (K := kStr) 43 8 10 11 43 9 3 (.string ⟨#[]⟩) 16 u27.length u2a 1 u27 [a0] (u27 ++ [a0]) (Gp (some b5)) 1 rfl rfl rfl p3 rfl (u2c.ext (z2.t z3)) Xa (f6.ext z3) (src_own p3 (q := 0) rfl) g11 fun w4 G12 c13 u2e z4 p4 f15 => ?_
 refine So 43 2 11 0 2 u20 0 (.slice (Gp G12) ((u27 ++ [a0]).length) c13) [.slice (Gp G12) ((u27 ++ [a0]).length) c13] p4 rfl Xe fun w5 z5 p5 => ?_
 refine Gn 2 [] [] ?_
 have p5 := p5.dp 0
 obtain rfl := sj h
 refine Goes.endR 0 p5 rfl fun w6 z6 p6 => ?_
 exact ⟨S0, G12, (u27 ++ [a0]).length, c13, u2e, rfl, ((((z2.t z3).t z4).t z5).t z6), p6, (f15.ext (z5.t z6)), rfl⟩
def J2z := Zb 0 []
def Q2b := Yq 1100 B127
def J30 := Zl Q2b J2z
def J31 := Zc Q2b J30
def J36 := Ys 1100110011 B127 (Zb 1 (Ys 1100111 B127 J30))
def Q2g := Yq 1100110010 B127
def Post.zj (lx0 : Nat) (rx0 : Nat) (u2f : Nat → Value) (u2g : Nat) (u2h : Nat) (u2i : ByteArray) (r : List ByteArray) (v : Value) (w' : World) : Prop :=
 ∃ S' u23 u24 u25 u26, v = .tuple #[] ∧ Ext S0 w0 S' w' ∧ Hp nz wz S' w' ((some lx0, .obj (lpst 192 (lfr 13 [(2, (pt u2g 0)), (6, .func (.func 127) #[] #[(pt u2h 0)])] u2f) #[7] (rfAssign (Q29)) (rfBody (Q29)) rx0 .ready none)) :: (some u2g, .row 43 [.slice (Gp u23) u24 u25] 1 0) :: (u23, .row 9 u26 (u25 * kStr.size) 0) :: (some u2h, .row 9 [.string u2i] 1 0) :: Lr) ∧ Els kStr S' w' u26 r ∧ r.length = u24
def L.zk (lx0 : Nat) (rx0 : Nat) (u2f : Nat → Value) (u2g : Nat) (u2h : Nat) : Int × Int × (List ByteArray) × ByteArray → (List ByteArray) → Prop := fun ⟨x7, x8, u2j, u2i⟩ r => ∀ S1 w1, Ext S0 w0 S1 w1 → ∀ u23 u24 u25 u26 (_ : Hp nz wz S1 w1 ((some lx0, .obj (lpst 192 (lfr 13 [(2, (pt u2g 0)), (6, .func (.func 127) #[] #[(pt u2h 0)])] u2f) #[7] (rfAssign (Q29)) (rfBody (Q29)) rx0 .ready none)) :: (some u2g, .row 43 [.slice (Gp u23) u24 u25] 1 0) :: (u23, .row 9 u26 (u25 * kStr.size) 0) :: (some u2h, .row 9 [.string u2i] 1 0) :: Lr)) (_ : Els kStr S1 w1 u26 u2j) (_ : u2j.length = u24) (junk : Nat → Value),
 Goes Tg (base 127) J31 ⟨lfr 20 [(0, yieldV lx0), (1, (pt u2h 0)), (7, .i x7), (8, .i x8)] junk, []⟩ w1 (Done Tg 127 (Rets (Post.zj nz wz S0 w0 Lr lx0 rx0 u2f u2g u2h u2i r)))
theorem W.zk {nz wz S0 w0 Lr} (lx0 : Nat) (rx0 : Nat) (u2f : Nat → Value) (u2g : Nat) (u2h : Nat) : ∀ a r, M.ah a = some r → (L.zk nz wz S0 w0 Lr lx0 rx0 u2f u2g u2h) a r := by
 refine M.ah.partial_correctness (motive := (L.zk nz wz S0 w0 Lr lx0 rx0 u2f u2g u2h)) ?_
 intro u2k u2l ⟨x7, x8, u2j, u2i⟩ r h S1 w1 hx u23 u24 u25 u26 p1 u2m u2n junk
 try dsimp only at h
 subst u2n
 refine Gn 5 [(9, .bool (decide (x8 < x7)))] (Ys 110010 B127 (Ys 110011 B127 J30)) ?_
 refine Gi h (fun h6 h => ?_) fun h6 h => ?_
 ·
  rw [dt h6]
  refine Gm 12 [([10, 3], .i x8), ([11], yieldV lx0)] (Zr Q2g [1, 2, 3, 4, 5, 6, 7] J36) ?_
  refine Xc 9 1 12 9 ⟨u2h, 0, none⟩ (.string u2i) (p1.c 3 0) ?_
  refine Gm 3 [([13, 14], .i x8), ([15], .i (wr .i64 (x8 + 3)))] (Zr Q2g [5, 6, 7] J36) ?_
  refine Gg h fun g7 h => ?_
  refine Gg h fun g8 h => ?_
  refine Gg h fun g9 h => ?_
  refine Op_.slS_n 9 12 (some 13) (some 15) 16 9 u2i x8 (wr .i64 (x8 + 3)) (ss u2i x8 (wr .i64 (x8 + 3))) rfl Xa (by kernel_rfl) (by kernel_rfl) (Xt .i64 (by kernel_rfl)) (Xt .i64 (by kernel_rfl)) g7 g8 g9 ?_
  refine Gb h fun y10 e11 h => ?_
  refine Goes.yieldAt (.call { callee := .value 11, args := #[16], argTypes := #[9] }) 17 4 0 lx0 #[.string (ss u2i x8 (wr .i64 (x8 + 3)))] p1 rfl (by kernel_rfl) rfl (fun _ => by kernel_rfl) rfl (W.zi u2j u2i (ss u2i x8 (wr .i64 (x8 + 3))) y10 e11 _ _ _ _ _ _ _ _ _ p1 u2m rfl) ?_
  rintro _ w2 ⟨S2, u2o, u2p, u2q, u2r, rfl, z2, p2, u2s, rfl⟩
  refine Gm 10 [([18], .bool (!true)), ([19, 8], .i (wr .i64 (x8 + 1)))] J31 ?_
  exact Gj 20 [(0, yieldV lx0), (1, (pt u2h 0)), (7, .i x7), (8, .i (wr .i64 (x8 + 1)))] (u2l _ _ h _ _ (hx.t z2) _ _ _ _ p2 u2s rfl)
 ·
  rw [df h6]
  refine Gn 2 [] [] ?_
  obtain rfl := sj h
  exact Xy (fn := Tryz.f127) (by kernel_rfl) (v := .tuple #[]) (by kernel_rfl) ⟨S1, u23, u2j.length, u25, u26, rfl, hx, p1, u2m, rfl⟩
theorem W.zj (u2t : List ByteArray) (u2i : ByteArray) (r : List ByteArray) (h : M.a2i u2t u2i = some r) {nz wz S0 w0 Lr} (lx0 rx0 u2f u2g u2u u2v u2w u2x u2h) (p0 : Hp nz wz S0 w0 ((some lx0, .obj (lpst 192 (lfr 13 [(2, (pt u2g 0)), (6, .func (.func 127) #[] #[(pt u2h 0)])] u2f) #[7] (rfAssign (Q29)) (rfBody (Q29)) rx0 .ready none)) :: (some u2g, .row 43 [.slice (Gp u2u) u2v u2w] 1 0) :: (u2u, .row 9 u2x (u2w * kStr.size) 0) :: (some u2h, .row 9 [.string u2i] 1 0) :: Lr)) (u2y : Els kStr S0 w0 u2x u2t) (u2z : u2t.length = u2v) :
  Calls Tg 127 #[yieldV lx0, (pt u2h 0)] w0 (Rets (Post.zj nz wz S0 w0 Lr lx0 rx0 u2f u2g u2h u2i r)) := by
 subst u2z
 refine Zf Tryz.f127 B127 18 ?_
 refine Gj 20 [(0, yieldV lx0), (1, (pt u2h 0))] fun junk => ?_
 delta M.a2i at h
 refine Gn 2 [] (Yt 10 B127 [0, 1, 2, 3, 4] (Ys 11 B127 [])) ?_
 refine Xc 9 1 4 9 ⟨u2h, 0, none⟩ (.string u2i) (p0.c 3 0) ?_
 refine Gn 7 [(5, .i (u2i.size : Int)), (6, .i (wr .i64 ((u2i.size : Int) - 3))), (7, .i (wr .i64 ((wr .i64 ((u2i.size : Int) - 3)) + 1))), (8, .i 0)] J31 ?_
 exact Gj 20 [(0, yieldV lx0), (1, (pt u2h 0)), (7, .i (wr .i64 ((wr .i64 ((u2i.size : Int) - 3)) + 1))), (8, .i 0)] (W.zk lx0 rx0 u2f u2g u2h _ _ h _ _ (Xj S0 w0) _ _ _ _ p0 u2y rfl)
def J3e := Zb 0 (Ys 111 B192 [])
def J3g := Ys 1111 B192 []
def Post.zl (u30 : Nat) (u31 : ByteArray) (r : List ByteArray) (v : Value) (w' : World) : Prop :=
 ∃ S' Gq nq cq csq, v = .slice (Gp Gq) nq cq ∧ Ext S0 w0 S' w' ∧ Hp nz wz S' w' ((Gq, .row 9 csq (cq * kStr.size) 0) :: (some u30, .row 9 [.string u31] 1 0) :: Lr) ∧ Els kStr S' w' csq r ∧ r.length = nq
theorem W.zl (u31 : ByteArray) (r : List ByteArray) (h : M.a40 u31 = some r) {nz wz S0 w0 Lr} (u30) (p0 : Hp nz wz S0 w0 ((some u30, .row 9 [.string u31] 1 0) :: Lr)) :
  Calls Tg 192 #[Sn, .func (.func 127) #[] #[(pt u30 0)]] w0 (Rets (Post.zl nz wz S0 w0 Lr u30 u31 r)) := by
 refine Zf Tryz.f192 B192 11 ?_
 refine Gj 13 [(0, Sn), (1, .func (.func 127) #[] #[(pt u30 0)])] fun junk => ?_
 delta M.a40 at h
 refine Gn 2 [] (Yt 10 B192 [0, 1] (Ys 11 B192 [])) ?_
 refine Ob 43 0 2 0 (Sn) [Sn] p0 Xa fun b2 w2 z2 p2 => ?_
 refine Gn 8 [(4, Sn), (6, .func (.func 127) #[] #[(pt u30 0)])] (Zc Q29 J3e) ?_
 refine Gj 13 [(2, (pt b2 0)), (6, .func (.func 127) #[] #[(pt u30 0)])] (fun u32 => ?_)
 refine Goes.rangeF (f := 192) 6 #[7] 127 #[] #[(pt u30 0)] (by kernel_rfl) (by kernel_rfl) (fun _ => by kernel_rfl) p2 fun r5 l6 w3 z3 p3 => ?_
 have p3 : Hp nz wz S0 w3 ((none, .row 9 [] (0 * kStr.size) 0) :: (some l6, .obj (lpst 192 (lfr 13 [(2, (pt b2 0)), (6, .func (.func 127) #[] #[(pt u30 0)])] u32) #[7] (rfAssign (Q29)) (rfBody (Q29)) r5 .ready none)) :: (some r5, .obj (.deferred (some []))) :: (some b2, .row 43 [Sn] 1 0) :: (some u30, .row 9 [.string u31] 1 0) :: Lr) := p3.nilRow' 9
 have p3 := (((p3.fr 4).fr 1).fr 4).fr 3
 refine Gb h fun y10 e11 h => ?_
 refine ⟨_, W.zj ([] : List ByteArray) u31 y10 e11 _ _ _ _ none 0 0 [] _ p3 (Els.nil (K := kStr)) rfl, ?_⟩
 rintro _ w4 ⟨S4, u33, u34, u35, u36, rfl, z4, p4, u37, rfl⟩
 refine Goes.endF 0 p4 rfl rfl fun w5 z5 p5 => ?_
 replace p5 : Hp nz wz S4 w5 ((some b2, .row 43 [Sl (Gp u33) y10 u35] 1 0) :: (u33, .row 9 u36 (u35 * kStr.size) 0) :: (some u30, .row 9 [.string u31] 1 0) :: (some r5, .obj (.deferred (some []))) :: Lr) := (p5.front 0 _ rfl).drop
 show Goes _ _ J3e _ _ _
 refine Gn 3 [] (Yt 1110 B192 [0, 1] J3g) ?_
 refine Xc 43 2 12 43 ⟨b2, 0, none⟩ (Sl (Gp u33) y10 u35) (p5.c 0 0) ?_
 refine Gn 2 [(4, Sl (Gp u33) y10 u35)] J3g ?_
 obtain rfl := sj h
 have p5 := p5.dp 0
 have p5 := ((p5.fr 1).fr 1).fr 2
 refine Goes.retL ?_
 refine lvs_mark 0 rfl rfl p5 rfl fun w6 z6 p6 => ?_
 replace p6 : Hp nz wz S4 w6 ((u33, .row 9 u36 (u35 * kStr.size) 0) :: (some u30, .row 9 [.string u31] 1 0) :: Lr) := p6.drop
 exact lvs_done (fn := Tryz.f192) rfl rfl rfl rfl (by kernel_rfl) (v := Sl (Gp u33) y10 u35) (by kernel_rfl) ⟨S4, u33, y10.length, u35, u36, rfl, ((((z2.t z3).t z4).t z5).t z6), p6, (u37.ext (z5.t z6)), rfl⟩
def J3i := Ys 111 B125 []
def Post.zm (u38 : Nat) (u39 : ByteArray) (r : List ByteArray) (v : Value) (w' : World) : Prop :=
 ∃ S' Gq nq cq csq, v = .slice (Gp Gq) nq cq ∧ Ext S0 w0 S' w' ∧ Hp nz wz S' w' ((Gq, .row 9 csq (cq * kStr.size) 0) :: (some u38, .row 9 [.string u39] 1 0) :: Lr) ∧ Els kStr S' w' csq r ∧ r.length = nq
theorem W.zm (u39 : ByteArray) (r : List ByteArray) (h : M.a41 u39 = some r) {nz wz S0 w0 Lr} (u38) (p0 : Hp nz wz S0 w0 ((some u38, .row 9 [.string u39] 1 0) :: Lr)) :
  Calls Tg 125 #[.func (.func 127) #[] #[(pt u38 0)]] w0 (Rets (Post.zm nz wz S0 w0 Lr u38 u39 r)) := by
 refine Zf Tryz.f125 B125 4 ?_
 refine Gj 5 [(0, .func (.func 127) #[] #[(pt u38 0)])] fun junk => ?_
 delta M.a41 at h
 refine Gn 7 [(2, Sn), (3, .func (.func 127) #[] #[(pt u38 0)])] (Yt 110 B125 [1, 2] J3i) ?_
 refine Gb h fun y2 e3 h => ?_
 refine Gc (.call { callee := .value (.func 192), args := #[(.const (Sn)), 3], argTypes := #[43, 125] }) 4 43 192 _ (W.zl u39 y2 e3 _ p0 ) ?_
 rintro _ w2 ⟨S2, u3a, u3b, u3c, u3d, rfl, z2, p2, u3e, rfl⟩
 refine Gn 2 [(2, Sl (Gp u3a) y2 u3c)] J3i ?_
 obtain rfl := sj h
 exact Xd Tryz.f125 (Sl (Gp u3a) y2 u3c) ⟨_, _, _, _, _, rfl, z2, p2, u3e, rfl⟩
def Post.zn (u38 : Nat) (u39 : ByteArray) (r : List ByteArray) (v : Value) (w' : World) : Prop :=
 ∃ S' Gq nq cq csq, v = .slice (Gp Gq) nq cq ∧ Ext S0 w0 S' w' ∧ Hp nz wz S' w' ((Gq, .row 9 csq (cq * kStr.size) 0) :: (some u38, .row 9 [.string u39] 1 0) :: Lr) ∧ Els kStr S' w' csq r ∧ r.length = nq
theorem W.zn (u39 : ByteArray) (r : List ByteArray) (h : M.a42 u39 = some r) {nz wz S0 w0 Lr} (u38) (p0 : Hp nz wz S0 w0 ((some u38, .row 9 [.string u39] 1 0) :: Lr)) :
  Calls Tg 58 #[.func (.func 127) #[] #[(pt u38 0)]] w0 (Rets (Post.zn nz wz S0 w0 Lr u38 u39 r)) := by
 refine Zf Tryz.f58 B58 8 ?_
 refine Gj 9 [(0, .func (.func 127) #[] #[(pt u38 0)])] fun junk => ?_
 delta M.a42 at h
 refine Gn 7 [(2, Sn), (4, .func (.func 127) #[] #[(pt u38 0)])] (Yt 110 B58 [1, 2] (Ys 111 B58 [])) ?_
 refine Gb h fun y2 e3 h => ?_
 refine Gc (kc 125 [4] #[125]) 5 43 125 _ (W.zm u39 y2 e3 _ p0 ) ?_
 rintro _ w2 ⟨S2, u3a, u3b, u3c, u3d, rfl, z2, p2, u3e, rfl⟩
 refine Gm 5 [([3, 6], Sl (Gp u3a) y2 u3c)] (Yt 1110 B58 [1] (Ys 1111 B58 [])) ?_
 refine Gg h fun g5 h => ?_
 refine Gc (kc 126 [6] #[43]) 7 0 126 _ (sortS_calls Tryz.sortS p2 u3e rfl g5) ?_
 rintro _ w3 ⟨rfl, z3, cs6, p3, f7⟩
 refine Gm 6 [([8, 2], Sl (Gp u3a) y2 u3c)] (Ys 11111 B58 []) ?_
 obtain rfl := sj h
 exact Xd Tryz.f58 (Sl (Gp u3a) y2 u3c) ⟨_, _, _, _, _, rfl, (z2.t z3), p3, f7, (srtS_len rfl)⟩
def J3p := Ys 111 B16 []
def Post.zo (r : List ByteArray) (v : Value) (w' : World) : Prop :=
 ∃ S' Gq nq cq csq, v = .slice (Gp Gq) nq cq ∧ Ext S0 w0 S' w' ∧ Hp nz wz S' w' ((Gq, .row 9 csq (cq * kStr.size) 0) :: Lr) ∧ Els kStr S' w' csq r ∧ r.length = nq
theorem W.zo (x0 : ByteArray) (r : List ByteArray) (h : M.a1g x0 = some r) {nz wz S0 w0 Lr} (p0 : Hp nz wz S0 w0 (Lr)) :
  Calls Tg 16 #[.string x0] w0 (Rets (Post.zo nz wz S0 w0 Lr r)) := by
 refine Zf Tryz.f16 B16 6 ?_
 refine Gj 7 [(0, .string x0)] fun junk => ?_
 delta M.a1g at h
 refine Gn 7 [(2, Sn), (3, .string x0)] (Yt 110 B16 [1, 2, 3, 4] J3p) ?_
 refine Gb h fun y1 e2 h => ?_
 refine Gc (kc 59 [3] #[9]) 4 125 59 _ (W.zh x0 y1 e2  p0 ) ?_
 rintro _ w2 ⟨S2, u3f, rfl, z2, p2⟩
 refine Gb h fun y4 e5 h => ?_
 refine Gc (kc 58 [4] #[125]) 5 43 58 _ (W.zn y1 y4 e5 _ p2 ) ?_
 rintro _ w3 ⟨S3, u3g, u3h, u3i, u3j, rfl, z3, p3, u3k, rfl⟩
 have p3 := p3.dp 1
 refine Gg h fun g7 h => ?_
 refine Gc (kc 57 [5] #[43]) 6 43 57 _ (compactS_calls (zs := (cmpL y4)) Tryz.compS p3 u3k rfl rfl g7) ?_
 rintro _ w4 ⟨rfl, z4, cs8, p4, f9⟩
 refine Gn 2 [(2, .slice (Gp u3g) ((cmpL y4).length) u3i)] J3p ?_
 obtain rfl := sj h
 exact Xd Tryz.f16 (.slice (Gp u3g) ((cmpL y4).length) u3i) ⟨_, _, _, _, _, rfl, ((z2.t z3).t z4), p4, f9, rfl⟩
def Post.zp (r : Bool) (v : Value) (w' : World) : Prop :=
 ∃ S', v = .bool r ∧ Ext S0 w0 S' w' ∧ Hp nz wz S' w' (Lr)
theorem W.zp (x0 : ByteArray) (r : Bool) (h : M.a5u x0 = some r) {nz wz S0 w0 Lr} (p0 : Hp nz wz S0 w0 (Lr)) :
  Calls Tg 250 #[.string x0] w0 (Rets (Post.zp nz wz S0 w0 Lr r)) := by
 refine Zf Tryz.f250 B250 5 ?_
 refine Gj 6 [(0, .string x0)] fun junk => ?_
 delta M.a5u at h
 refine Gm 11 [([2, 5], .bool (!(x0.toList == x0.toList))), ([3, 4], .string x0)] (Ys 111 B250 []) ?_
 obtain rfl := sj h
 exact Xd Tryz.f250 (.bool (!(x0.toList == x0.toList))) ⟨_, rfl, (Xj S0 w0), p0⟩
def J3s := Ys 111 B201 []
def Q2z := Yq 110 B201
def Post.zq (r : Bool) (v : Value) (w' : World) : Prop :=
 ∃ S', v = .bool r ∧ Ext S0 w0 S' w' ∧ Hp nz wz S' w' (Lr)
theorem W.zq (x0 : ByteArray) (x1 : ByteArray) (r : Bool) (h : M.a5v x0 x1 = some r) {nz wz S0 w0 Lr} (p0 : Hp nz wz S0 w0 (Lr)) :
  Calls Tg 201 #[.string x0, .string x1] w0 (Rets (Post.zq nz wz S0 w0 Lr r)) := by
 refine Zf Tryz.f201 B201 15 ?_
 refine Gj 17 [(0, .string x0), (1, .string x1)] fun junk => ?_
 delta M.a5v at h
 refine Gn 7 [(4, .bool false), (5, .string x0)] (Zr Q2z [1, 2, 3, 4, 5, 6, 7, 8, 9, 10, 11, 12] J3s) ?_
 refine Gb h fun y1 e2 h => ?_
 refine Gc (kc 250 [5] #[9]) 6 4 250 _ (W.zp x0 y1 e2  p0 ) ?_
 rintro _ w2 ⟨S2, rfl, z2, p2⟩
 refine Gn 1 [(7, .bool y1)] (Zr Q2z [3, 4, 5, 6, 7, 8, 9, 10, 11, 12] J3s) ?_
 refine Gi h (fun h3 h => ?_) fun h3 h => ?_
 ·
  rw [h3]
  refine Gn 1 [(8, .string x1)] (Zr Q2z [4, 5, 6, 7, 8, 9, 10, 11, 12] J3s) ?_
  refine Gb h fun y4 e5 h => ?_
  refine Gc (kc 250 [8] #[9]) 9 4 250 _ (W.zp x1 y4 e5  p2 ) ?_
  rintro _ w3 ⟨S3, rfl, z3, p3⟩
  refine Gm 3 [([10, 11, 12], .bool (!y4))] (Zr Q2z [8, 9, 10, 11, 12] J3s) ?_
  refine Gi h (fun h6 h => ?_) fun h6 h => ?_
  ·
   rw [h6]
   refine Gm 6 [([13], .string x0), ([14], .string x1), ([15, 16, 4], .bool (Op.bytesLess x0.toList x1.toList))] J3s ?_
   obtain rfl := sj h
   exact Xd Tryz.f201 (.bool (Op.bytesLess x0.toList x1.toList)) ⟨_, rfl, (z2.t z3), p3⟩
  ·
   rw [bf h6]
   refine Gm 6 [([13, 14, 15], undef), ([16, 4], .bool true)] J3s ?_
   obtain rfl := sj h
   exact Xd Tryz.f201 (.bool true) ⟨_, rfl, (z2.t z3), p3⟩
 ·
  rw [bf h3]
  refine Gm 11 [([8, 9, 10], undef), ([11, 12], .bool false), ([13], .string x0), ([14], .string x1), ([15, 16, 4], .bool (Op.bytesLess x0.toList x1.toList))] J3s ?_
  obtain rfl := sj h
  exact Xd Tryz.f201 (.bool (Op.bytesLess x0.toList x1.toList)) ⟨_, rfl, z2, p2⟩
def Post.zr (r : Bool) (v : Value) (w' : World) : Prop :=
 ∃ S', v = .bool r ∧ Ext S0 w0 S' w' ∧ Hp nz wz S' w' (Lr)
theorem W.zr (x0 : ByteArray) (r : Bool) (h : M.a5w x0 = some r) {nz wz S0 w0 Lr} (p0 : Hp nz wz S0 w0 (Lr)) :
  Calls Tg 202 #[.string x0] w0 (Rets (Post.zr nz wz S0 w0 Lr r)) := by
 refine Zf Tryz.f202 B202 5 ?_
 refine Gj 6 [(0, .string x0)] fun junk => ?_
 delta M.a5w at h
 refine Gm 11 [([2, 5], .bool (!(x0.toList == x0.toList))), ([3, 4], .string x0)] (Ys 111 B202 []) ?_
 obtain rfl := sj h
 exact Xd Tryz.f202 (.bool (!(x0.toList == x0.toList))) ⟨_, rfl, (Xj S0 w0), p0⟩
def Q32 := Yq 1111000 B137
def J40 := Zl Q32 (Zb 0 (Ys 11111 B137 []))
def J41 := Zc Q32 J40
def J42 := Zb 1 J40
def J45 := Ys 11110001011 B137 J42
def Q36 := Yq 11110001010 B137
def J49 := Ys 111111 B137 []
def Q38 := Yq 111110 B137
def J4f := Zr Q38 [19, 20, 21, 22, 23, 24] J49
def Post.zs (r : Int × Bool) (v : Value) (w' : World) : Prop :=
 ∃ S', v = .tuple #[.i r.1, .bool r.2] ∧ Ext S0 w0 S' w' ∧ Hp nz wz S' w' (Lr)
def L.zt : (List ByteArray) × ByteArray × Int × Int × Int → (Int × Bool) → Prop := fun ⟨x0, x1, x6, x7, x8⟩ r => ∀ S1 w1, Ext S0 w0 S1 w1 → ∀ Ax0 nx0 cx0 (_ : Hp nz wz S1 w1 (Lr)) (_ : Rd kStr S1 w1 Ax0 cx0 x0) (_ : x0.length = nx0) (junk : Nat → Value),
 Goes Tg (base 137) J41 ⟨lfr 54 [(0, .slice Ax0 nx0 cx0), (1, .string x1), (6, .i x6), (7, .i x7), (8, .i x8)] junk, []⟩ w1 (Done Tg 137 (Rets (Post.zs nz wz S0 w0 Lr r)))
def L.zu : (List ByteArray) × ByteArray × Int × Int × Int → (Int × Bool) → Prop := fun ⟨x0, x1, x6, x7, x8⟩ r => ∀ S1 w1, Ext S0 w0 S1 w1 → ∀ Ax0 nx0 cx0 (_ : Hp nz wz S1 w1 (Lr)) (_ : Rd kStr S1 w1 Ax0 cx0 x0) (_ : x0.length = nx0) (junk : Nat → Value),
 Goes Tg (base 137) J42 ⟨lfr 54 [(0, .slice Ax0 nx0 cx0), (1, .string x1), (6, .i x6), (7, .i x7), (8, .i x8)] junk, []⟩ w1 (Done Tg 137 (Rets (Post.zs nz wz S0 w0 Lr r)))
theorem W.zv {nz wz S0 w0 Lr} : (∀ a r, M.a1y a = some r → (L.zt nz wz S0 w0 Lr) a r) ∧ (∀ a r, M.a4m a = some r → (L.zu nz wz S0 w0 Lr) a r) := by
 refine M.a1y.mutual_partial_correctness (L.zt nz wz S0 w0 Lr) (L.zu nz wz S0 w0 Lr) ?_ ?_
 ·
  intro u3l u3m ⟨x0, x1, x6, x7, x8⟩ r h S1 w1 hx Ax0 nx0 cx0 p1 fx0 lx0 junk
  try dsimp only at h
  subst lx0
  refine Gn 7 [(13, .i x7), (14, .i x8), (15, .bool (decide (x7 < x8)))] (Ys 111100001 B137 (Ys 11110001 B137 J40)) ?_
  refine Gi h (fun h1 h => ?_) fun h1 h => ?_
  ·
   rw [dt h1]
   refine Gm 14 [([16], .i x7), ([17], .i x8), ([18], .i (wr .i64 (x7 + x8))), ([19], .u (wr .u64 (wr .i64 (x7 + x8)))), ([20], .u (ishr .u64 (wr .u64 (wr .i64 (x7 + x8))) 1)), ([21, 9], .i (wr .i64 (ishr .u64 (wr .u64 (wr .i64 (x7 + x8))) 1)))] (Zc Q36 J45) ?_
   refine Gn 3 [(22, Sl Ax0 x0 cx0), (23, .i (wr .i64 (ishr .u64 (wr .u64 (wr .i64 (x7 + x8))) 1)))] (Zr Q36 [2, 3, 4, 5] J45) ?_
   refine Gg h fun g2 h => ?_
   refine Gg h fun g3 h => ?_
   refine Gl h fun v7 e8 h => ?_
   refine Oi 43 22 23 24 0 9 .i64 (wr .i64 (ishr .u64 (wr .u64 (wr .i64 (x7 + x8))) 1)) v7 rfl e8 fx0 Xa g2 g3 fun a4 _ f5 q6 => ?_
   obtain rfl := q6
   refine Xc 9 24 25 9 a4 (.string v7) (f5.cell 0 _ rfl) ?_
   refine Gn 1 [(26, .string x1)] (Zr Q36 [5] J45) ?_
   refine Gb h fun y9 e10 h => ?_
   refine Gc (kc 201 [25, 26] #[9, 9]) 27 4 201 _ (W.zq v7 x1 y9 e10  p1 ) ?_
   rintro _ w2 ⟨S2, rfl, z2, p2⟩
   refine Gn 1 [] J45 ?_
   refine Gi h (fun h11 h => ?_) fun h11 h => ?_
   ·
    rw [h11]
    refine Gm 6 [([28], .i (wr .i64 (ishr .u64 (wr .u64 (wr .i64 (x7 + x8))) 1))), ([29, 7], .i (wr .i64 ((wr .i64 (ishr .u64 (wr .u64 (wr .i64 (x7 + x8))) 1)) + 1)))] J42 ?_
    exact Gj 54 [(0, Sl Ax0 x0 cx0), (1, .string x1), (6, .i x6), (7, .i (wr .i64 ((wr .i64 (ishr .u64 (wr .u64 (wr .i64 (x7 + x8))) 1)) + 1))), (8, .i x8)] (u3m _ _ h _ _ (hx.t z2) _ _ _ p2 (fx0.ext z2) rfl)
   ·
    rw [bf h11]
    refine Gm 5 [([30, 8], .i (wr .i64 (ishr .u64 (wr .u64 (wr .i64 (x7 + x8))) 1)))] J42 ?_
    exact Gj 54 [(0, Sl Ax0 x0 cx0), (1, .string x1), (6, .i x6), (7, .i x7), (8, .i (wr .i64 (ishr .u64 (wr .u64 (wr .i64 (x7 + x8))) 1)))] (u3m _ _ h _ _ (hx.t z2) _ _ _ p2 (fx0.ext z2) rfl)
  ·
   rw [df h1]
   refine Gm 9 [([31, 32], .i x7), ([33], .i x6), ([34, 35], .bool (decide (x7 < x6)))] (Zr Q38 [5, 6, 7, 8, 9, 10, 11, 12, 13, 14, 15, 16, 17, 18, 19, 20, 21, 22, 23, 24] J49) ?_
   refine Gi h (fun h12 h => ?_) fun h12 h => ?_
   ·
    rw [dt h12]
    refine Gn 2 [(36, Sl Ax0 x0 cx0), (37, .i x7)] (Zr Q38 [7, 8, 9, 10, 11, 12, 13, 14, 15, 16, 17, 18, 19, 20, 21, 22, 23, 24] J49) ?_
    refine Gg h fun g13 h => ?_
    refine Gg h fun g14 h => ?_
    refine Oi 43 36 37 38 0 9 .i64 x7 (gi x0 x7) rfl rfl fx0 Xa g13 g14 fun a15 _ f16 q17 => ?_
    obtain rfl := q17
    refine Xc 9 38 39 9 a15 (.string (gi x0 x7)) (f16.cell 0 _ rfl) ?_
    refine Gm 3 [([40], .string x1), ([41, 42], .bool ((gi x0 x7).toList == x1.toList))] (Zr Q38 [12, 13, 14, 15, 16, 17, 18, 19, 20, 21, 22, 23, 24] J49) ?_
    refine Gi h (fun h18 h => ?_) fun h18 h => ?_
    ·
     rw [h18]
     refine Gm 14 [([43, 44, 45, 46, 47, 48, 49, 50, 51], undef), ([52, 53, 5], .bool true), ([4], .i x7)] J49 ?_
     obtain rfl := sj h
     exact Xd Tryz.f137 (.tuple #[.i x7, .bool true]) ⟨_, rfl, hx, p1⟩
    ·
     rw [bf h18]
     refine Gn 2 [(43, Sl Ax0 x0 cx0), (44, .i x7)] (Zr Q38 [14, 15, 16, 17, 18, 19, 20, 21, 22, 23, 24] J49) ?_
     refine Oi 43 43 44 45 0 9 .i64 x7 (gi x0 x7) rfl rfl fx0 Xa g13 g14 fun a19 _ f20 q21 => ?_
     obtain rfl := q21
     refine Xc 9 45 46 9 a19 (.string (gi x0 x7)) (f20.cell 0 _ rfl) ?_
     refine Gb h fun y22 e23 h => ?_
     refine Gc (kc 202 [46] #[9]) 47 4 202 _ (W.zr (gi x0 x7) y22 e23  p1 ) ?_
     rintro _ w3 ⟨S3, rfl, z3, p3⟩
     refine Gn 1 [(48, .bool y22)] (Zr Q38 [18, 19, 20, 21, 22, 23, 24] J49) ?_
     refine Gi h (fun h24 h => ?_) fun h24 h => ?_
     ·
      rw [h24]
      refine Gn 1 [(49, .string x1)] J4f ?_
      refine Gb h fun y25 e26 h => ?_
      refine Gc (kc 202 [49] #[9]) 50 4 202 _ (W.zr x1 y25 e26  p3 ) ?_
      rintro _ w4 ⟨S4, rfl, z4, p4⟩
      refine Gm 6 [([51, 52, 53, 5], .bool y25), ([4], .i x7)] J49 ?_
      obtain rfl := sj h
      exact Xd Tryz.f137 (.tuple #[.i x7, .bool y25]) ⟨_, rfl, ((hx.t z3).t z4), p4⟩
     ·
      rw [bf h24]
      refine Gm 8 [([49, 50], undef), ([51, 52, 53, 5], .bool false), ([4], .i x7)] J49 ?_
      obtain rfl := sj h
      exact Xd Tryz.f137 (.tuple #[.i x7, .bool false]) ⟨_, rfl, (hx.t z3), p3⟩
   ·
    rw [df h12]
    refine Gm 14 [([36, 37, 38, 39, 40, 41, 42, 43, 44, 45, 46, 47, 48, 49], undef)] J4f ?_
    refine Gm 7 [([50, 51, 52], undef), ([53, 5], .bool false), ([4], .i x7)] J49 ?_
    obtain rfl := sj h
    exact Xd Tryz.f137 (.tuple #[.i x7, .bool false]) ⟨_, rfl, hx, p1⟩
 ·
  intro u3o u3p ⟨x0, x1, x6, x7, x8⟩ r h S1 w1 hx Ax0 nx0 cx0 p1 fx0 lx0 junk
  try dsimp only at h
  subst lx0
  refine Gn 2 [] J41 ?_
  exact Gj 54 [(0, Sl Ax0 x0 cx0), (1, .string x1), (6, .i x6), (7, .i x7), (8, .i x8)] (u3p _ _ h _ _ hx _ _ _ p1 fx0 rfl)
theorem W.zt {nz wz S0 w0 Lr} : ∀ a r, M.a1y a = some r → (L.zt nz wz S0 w0 Lr) a r := (W.zv).1
theorem W.zu {nz wz S0 w0 Lr} : ∀ a r, M.a4m a = some r → (L.zu nz wz S0 w0 Lr) a r := (W.zv).2
theorem W.zs (x0 : List ByteArray) (x1 : ByteArray) (r : Int × Bool) (h : M.a5x x0 x1 = some r) {nz wz S0 w0 Lr} (Ax0 nx0 cx0) (p0 : Hp nz wz S0 w0 (Lr)) (fx0 : Rd kStr S0 w0 Ax0 cx0 x0) (lx0 : x0.length = nx0) :
  Calls Tg 137 #[.slice Ax0 nx0 cx0, .string x1] w0 (Rets (Post.zs nz wz S0 w0 Lr r)) := by
 subst lx0
 refine Zf Tryz.f137 B137 52 ?_
 refine Gj 54 [(0, Sl Ax0 x0 cx0), (1, .string x1)] fun junk => ?_
 delta M.a5x at h
 refine Gm 14 [([4], .i 0), ([5], .bool false), ([10], Sl Ax0 x0 cx0), ([11, 6, 12], .i (x0.length : Int))] (Yt 1110 B137 [1, 2] (Ys 1111 B137 [])) ?_
 refine Gn 6 [(7, .i 0), (8, .i (x0.length : Int))] J41 ?_
 exact Gj 54 [(0, Sl Ax0 x0 cx0), (1, .string x1), (6, .i (x0.length : Int)), (7, .i 0), (8, .i (x0.length : Int))] (W.zt _ _ h _ _ (Xj S0 w0) _ _ _ p0 fx0 rfl)
def J4m := Ys 1111 B74 []
def J4p := Zb 0 J4m
def J4r := Ys 111010101 B74 J4p
def Q3k := Yq 111010100 B74
def J4w := Ys 11101011101 B74 J4p
def Q3o := Yq 11101011100 B74
def J50 := Ys 1110101111101 B74 J4p
def J52 := Ys 11111 B74 []
def J56 := Ys 111 B136 []
def J5a := Ys 111 B138 []
def Post.zw (r : Bool) (v : Value) (w' : World) : Prop :=
 ∃ S', v = .bool r ∧ Ext S0 w0 S' w' ∧ Hp nz wz S' w' (Lr)
def Post.zx (u30 : Nat) (u3q : Nat) (u3r : Option Addr) (u3s : Nat) (u3t : Nat) (u3u : List ByteArray) (r : Bool) (v : Value) (w' : World) : Prop :=
 ∃ S', v = .bool r ∧ Ext S0 w0 S' w' ∧ Hp nz wz S' w' ((some u30, .row 232 [.func (.func 136) #[] #[(pt u3q 0)]] 1 0) :: (some u3q, .row 43 [.slice u3r u3s u3t] 1 0) :: Lr)
def Post.zy (u30 : Nat) (u3q : Nat) (u3r : Option Addr) (u3s : Nat) (u3t : Nat) (u3u : List ByteArray) (r : Int) (v : Value) (w' : World) : Prop :=
 ∃ S', v = .i r ∧ Ext S0 w0 S' w' ∧ Hp nz wz S' w' ((some u30, .row 232 [.func (.func 136) #[] #[(pt u3q 0)]] 1 0) :: (some u3q, .row 43 [.slice u3r u3s u3t] 1 0) :: Lr)
def Post.zz (gx1 : Nat) (u3v : Nat) (u3w : Option Addr) (u3x : Nat) (u3y : Nat) (u3z : List ByteArray) (r : Bool) (v : Value) (w' : World) : Prop :=
 ∃ S', v = .bool r ∧ Ext S0 w0 S' w' ∧ Hp nz wz S' w' ((some gx1, .row 232 [.func (.func 136) #[] #[(pt u3v 0)]] 1 0) :: (some u3v, .row 43 [.slice u3w u3x u3y] 1 0) :: Lr)
def Post.z10 (gx1 : Nat) (u40 : Option Addr) (u41 : Nat) (u42 : Nat) (u43 : List ByteArray) (r : Bool) (v : Value) (w' : World) : Prop :=
 ∃ S', v = .bool r ∧ Ext S0 w0 S' w' ∧ Hp nz wz S' w' ((some gx1, .row 43 [.slice u40 u41 u42] 1 0) :: Lr)
def Post.z11 (u30 : Nat) (u44 : Option Addr) (u45 : Nat) (u46 : Nat) (u31 : List ByteArray) (r : Bool) (v : Value) (w' : World) : Prop :=
 ∃ S', v = .bool r ∧ Ext S0 w0 S' w' ∧ Hp nz wz S' w' ((some u30, .row 43 [.slice u44 u45 u46] 1 0) :: Lr)
def Post.z12 (u30 : Nat) (u44 : Option Addr) (u45 : Nat) (u46 : Nat) (u31 : List ByteArray) (r : Int) (v : Value) (w' : World) : Prop :=
 ∃ S', v = .i r ∧ Ext S0 w0 S' w' ∧ Hp nz wz S' w' ((some u30, .row 43 [.slice u44 u45 u46] 1 0) :: Lr)
def LF.zw : T29 × (List ByteArray) → Bool → Prop := fun ⟨x0, x1⟩ r => ∀ {nz wz S0 w0 Lr} u5 u6 u7 Ax1 nx1 cx1 (_ : Hp nz wz S0 w0 (Lr)) (_ : Rd kT29 S0 w0 u5 u7 x0.L) (_ : x0.L.length = u6) (_ : Rd kStr S0 w0 Ax1 cx1 x1) (_ : x1.length = nx1),
 Calls Tg 74 #[(ag (wT29 x0.Op x0.Text u5 u6 u7)), .slice Ax1 nx1 cx1] w0 (Rets (Post.zw nz wz S0 w0 Lr r))
def LF.zx : (List T29) × (List ByteArray) → Bool → Prop := fun ⟨x0, u3u⟩ r => ∀ {nz wz S0 w0 Lr} Ax0 nx0 cx0 u30 u3q u3r u3s u3t (_ : Hp nz wz S0 w0 ((some u30, .row 232 [.func (.func 136) #[] #[(pt u3q 0)]] 1 0) :: (some u3q, .row 43 [.slice u3r u3s u3t] 1 0) :: Lr)) (_ : Rd kT29 S0 w0 Ax0 cx0 x0) (_ : x0.length = nx0) (_ : Rd kStr S0 w0 u3r u3t u3u) (_ : u3u.length = u3s),
 Calls Tg 128 #[.slice Ax0 nx0 cx0, .func (.func 138) #[] #[(pt u30 0)]] w0 (Rets (Post.zx nz wz S0 w0 Lr u30 u3q u3r u3s u3t u3u r))
def LF.zy : (List T29) × (List ByteArray) → Int → Prop := fun ⟨x0, u3u⟩ r => ∀ {nz wz S0 w0 Lr} Ax0 nx0 cx0 u30 u3q u3r u3s u3t (_ : Hp nz wz S0 w0 ((some u30, .row 232 [.func (.func 136) #[] #[(pt u3q 0)]] 1 0) :: (some u3q, .row 43 [.slice u3r u3s u3t] 1 0) :: Lr)) (_ : Rd kT29 S0 w0 Ax0 cx0 x0) (_ : x0.length = nx0) (_ : Rd kStr S0 w0 u3r u3t u3u) (_ : u3u.length = u3s),
 Calls Tg 195 #[.slice Ax0 nx0 cx0, .func (.func 138) #[] #[(pt u30 0)]] w0 (Rets (Post.zy nz wz S0 w0 Lr u30 u3q u3r u3s u3t u3u r))
def L.z13 (u30 : Nat) (u3q : Nat) (u3r : Option Addr) (u3s : Nat) (u3t : Nat) : (List T29) × Int × Int × (List ByteArray) → Int → Prop := fun ⟨x0, x7, x8, u3u⟩ r => ∀ S1 w1, Ext S0 w0 S1 w1 → ∀ Ax0 nx0 cx0 (_ : Hp nz wz S1 w1 ((some u30, .row 232 [.func (.func 136) #[] #[(pt u3q 0)]] 1 0) :: (some u3q, .row 43 [.slice u3r u3s u3t] 1 0) :: Lr)) (_ : Rd kT29 S1 w1 Ax0 cx0 x0) (_ : x0.length = nx0) (_ : Rd kStr S1 w1 u3r u3t u3u) (_ : u3u.length = u3s) (junk : Nat → Value),
 Goes Tg (base 195) J1k ⟨lfr 19 [(0, .slice Ax0 nx0 cx0), (1, .func (.func 138) #[] #[(pt u30 0)]), (7, .i x7), (8, .i x8)] junk, []⟩ w1 (Done Tg 195 (Rets (Post.zy nz wz S0 w0 Lr u30 u3q u3r u3s u3t u3u r)))
def LL.z13 : (List T29) × Int × Int × (List ByteArray) → Int → Prop := fun a r => ∀ {nz wz S0 w0 Lr} (u30 : Nat) (u3q : Nat) (u3r : Option Addr) (u3s : Nat) (u3t : Nat), L.z13 nz wz S0 w0 Lr u30 u3q u3r u3s u3t a r
def LF.zz : T29 × (List ByteArray) → Bool → Prop := fun ⟨x0, u3z⟩ r => ∀ {nz wz S0 w0 Lr} u5 u6 u7 gx1 u3v u3w u3x u3y (_ : Hp nz wz S0 w0 ((some gx1, .row 232 [.func (.func 136) #[] #[(pt u3v 0)]] 1 0) :: (some u3v, .row 43 [.slice u3w u3x u3y] 1 0) :: Lr)) (_ : Rd kT29 S0 w0 u5 u7 x0.L) (_ : x0.L.length = u6) (_ : Rd kStr S0 w0 u3w u3y u3z) (_ : u3z.length = u3x),
 Calls Tg 138 #[(ag (wT29 x0.Op x0.Text u5 u6 u7)), (pt gx1 0)] w0 (Rets (Post.zz nz wz S0 w0 Lr gx1 u3v u3w u3x u3y u3z r))
def LF.z10 : T29 × (List ByteArray) → Bool → Prop := fun ⟨x0, u43⟩ r => ∀ {nz wz S0 w0 Lr} u5 u6 u7 gx1 u40 u41 u42 (_ : Hp nz wz S0 w0 ((some gx1, .row 43 [.slice u40 u41 u42] 1 0) :: Lr)) (_ : Rd kT29 S0 w0 u5 u7 x0.L) (_ : x0.L.length = u6) (_ : Rd kStr S0 w0 u40 u42 u43) (_ : u43.length = u41),
 Calls Tg 136 #[(ag (wT29 x0.Op x0.Text u5 u6 u7)), (pt gx1 0)] w0 (Rets (Post.z10 nz wz S0 w0 Lr gx1 u40 u41 u42 u43 r))
def LF.z11 : (List T29) × (List ByteArray) → Bool → Prop := fun ⟨x0, u31⟩ r => ∀ {nz wz S0 w0 Lr} Ax0 nx0 cx0 u30 u44 u45 u46 (_ : Hp nz wz S0 w0 ((some u30, .row 43 [.slice u44 u45 u46] 1 0) :: Lr)) (_ : Rd kT29 S0 w0 Ax0 cx0 x0) (_ : x0.length = nx0) (_ : Rd kStr S0 w0 u44 u46 u31) (_ : u31.length = u45),
 Calls Tg 128 #[.slice Ax0 nx0 cx0, .func (.func 136) #[] #[(pt u30 0)]] w0 (Rets (Post.z11 nz wz S0 w0 Lr u30 u44 u45 u46 u31 r))
def LF.z12 : (List T29) × (List ByteArray) → Int → Prop := fun ⟨x0, u31⟩ r => ∀ {nz wz S0 w0 Lr} Ax0 nx0 cx0 u30 u44 u45 u46 (_ : Hp nz wz S0 w0 ((some u30, .row 43 [.slice u44 u45 u46] 1 0) :: Lr)) (_ : Rd kT29 S0 w0 Ax0 cx0 x0) (_ : x0.length = nx0) (_ : Rd kStr S0 w0 u44 u46 u31) (_ : u31.length = u45),
 Calls Tg 195 #[.slice Ax0 nx0 cx0, .func (.func 136) #[] #[(pt u30 0)]] w0 (Rets (Post.z12 nz wz S0 w0 Lr u30 u44 u45 u46 u31 r))
def L.z14 (u30 : Nat) (u44 : Option Addr) (u45 : Nat) (u46 : Nat) : (List T29) × Int × Int × (List ByteArray) → Int → Prop := fun ⟨x0, x7, x8, u31⟩ r => ∀ S1 w1, Ext S0 w0 S1 w1 → ∀ Ax0 nx0 cx0 (_ : Hp nz wz S1 w1 ((some u30, .row 43 [.slice u44 u45 u46] 1 0) :: Lr)) (_ : Rd kT29 S1 w1 Ax0 cx0 x0) (_ : x0.length = nx0) (_ : Rd kStr S1 w1 u44 u46 u31) (_ : u31.length = u45) (junk : Nat → Value),
 Goes Tg (base 195) J1k ⟨lfr 19 [(0, .slice Ax0 nx0 cx0), (1, .func (.func 136) #[] #[(pt u30 0)]), (7, .i x7), (8, .i x8)] junk, []⟩ w1 (Done Tg 195 (Rets (Post.z12 nz wz S0 w0 Lr u30 u44 u45 u46 u31 r)))
def LL.z14 : (List T29) × Int × Int × (List ByteArray) → Int → Prop := fun a r => ∀ {nz wz S0 w0 Lr} (u30 : Nat) (u44 : Option Addr) (u45 : Nat) (u46 : Nat), L.z14 nz wz S0 w0 Lr u30 u44 u45 u46 a r
theorem W.z15 : (∀ a r, M.a1z a = some r → LF.zw a r) ∧ (∀ a r, M.a6s a = some r → LF.z11 a r) ∧ (∀ a r, M.a6v a = some r → LF.z12 a r) ∧ (∀ a r, M.a21 a = some r → LL.z14 a r) ∧ (∀ a r, M.a4n a = some r → LF.z10 a r) ∧ (∀ a r, M.a6r a = some r → LF.zx a r) ∧ (∀ a r, M.a6t a = some r → LF.zy a r) ∧ (∀ a r, M.a20 a = some r → LL.z13 a r) ∧ (∀ a r, M.a6u a = some r → LF.zz a r) := by
 refine M.a1z.mutual_partial_correctness LF.zw LF.z11 LF.z12 LL.z14 LF.z10 LF.zx LF.zy LL.z13 LF.zz ?_ ?_ ?_ ?_ ?_ ?_ ?_ ?_ ?_
 ·
  intro u47 u48 u49 u4a ⟨x0, x1⟩ r h nz wz S0 w0 Lr u5 u6 u7 Ax1 nx1 cx1 p0 um un fx1 lx1
  try dsimp only at h
  subst un
  subst lx1
  refine Zf Tryz.f74 B74 35 ?_
  refine Gj 37 [(0, (ag (wT29 x0.Op x0.Text u5 x0.L.length u7))), (1, Sl Ax1 x1 cx1)] fun junk => ?_
  refine Gn 2 [] (Yt 10 B74 [0, 1, 2] (Ys 11 B74 [])) ?_
  refine Ob 30 0 2 0 ((ag (wT29 x0.Op x0.Text u5 x0.L.length u7))) (wT29 x0.Op x0.Text u5 x0.L.length u7) p0 Xa fun b1 w2 z2 p2 => ?_
  refine Ob 43 1 3 0 (Sl Ax1 x1 cx1) [Sl Ax1 x1 cx1] p2 Xa fun b3 w3 z3 p3 => ?_
  refine Gn 5 [(4, .bool false), (8, .func (.func 136) #[] #[(pt b3 0)])] (Yt 110 B74 [1, 2] (Ys 111 B74 [])) ?_
  refine Oa 232 5 0 (.nilFunc) [.nilFunc] p3 Xa fun b5 w4 z4 p4 => ?_
  refine So 232 5 8 0 0 b5 0 (.func (.func 136) #[] #[(pt b3 0)]) [.func (.func 136) #[] #[(pt b3 0)]] p4 rfl Xe fun w5 z5 p5 => ?_
  refine Gn 5 [(9, (pt b1 0))] (Yt 11100 B74 [1] (Ys 11101 B74 J4m)) ?_
  refine Xc 3 9 10 3 ⟨b1, 0, none⟩ (.i x0.Op) (p5.c 2 0) ?_
  refine Gm 7 [([12, 11], .bool (decide (x0.Op = 2)))] (Ys 1110101 B74 J4p) ?_
  refine Gi h (fun h7 h => ?_) fun h7 h => ?_
  ·
   rw [dt h7]
   refine Gn 3 [] (Zr Q3k [0, 1, 2, 3, 4, 5, 6, 7, 8] J4r) ?_
   refine Xc 43 3 14 43 ⟨b3, 0, none⟩ (Sl Ax1 x1 cx1) (p5.c 1 0) ?_
   refine Gn 1 [(15, (pt b1 1))] (Zr Q3k [2, 3, 4, 5, 6, 7, 8] J4r) ?_
   refine Xc 9 15 16 9 ⟨b1, 1, none⟩ (.string x0.Text) (p5.c 2 1) ?_
   refine Gb h fun y8 e9 h => ?_
   refine Gc (kc 137 [14, 16] #[43, 9]) 17 237 137 _ (W.zs x1 x0.Text y8 e9 _ _ _ p5 (fx1.ext (((z2.t z3).t z4).t z5)) rfl) ?_
   rintro _ w6 ⟨S6, rfl, z6, p6⟩
   have p6 := ((p6.dp 0).dp 0).dp 0
   refine Gm 11 [([13], .tuple #[.i y8.1, .bool y8.2]), ([18, 6], .i y8.1), ([19, 7, 20, 4], .bool y8.2)] (Ys 1110101011 B74 J4p) ?_
   obtain rfl := sj h
   exact Xd Tryz.f74 (.bool y8.2) ⟨_, rfl, ((((z2.t z3).t z4).t z5).t z6), p6⟩
  ·
   rw [df h7]
   refine Gm 6 [([22, 21], .bool (decide (x0.Op = 3)))] (Ys 111010111 B74 J4p) ?_
   refine Gi h (fun h10 h => ?_) fun h10 h => ?_
   ·
    rw [dt h10]
    refine Gn 4 [(23, (pt b1 2))] (Zr Q3o [1, 2, 3, 4, 5] J4w) ?_
    refine Xc 28 23 24 28 ⟨b1, 2, none⟩ (Sl u5 x0.L u7) (p5.c 2 2) ?_
    refine Gn 1 [(25, .func (.func 138) #[] #[(pt b5 0)])] (Zr Q3o [3, 4, 5] J4w) ?_
    refine Gb h fun y11 e12 h => ?_
    refine Gc (kc 128 [24, 25] #[28, 232]) 26 4 128 _ (u4a (x0.L, x1) y11 e12 _ _ _ _ _ _ _ _ p5 (um.ext (((z2.t z3).t z4).t z5)) rfl (fx1.ext (((z2.t z3).t z4).t z5)) rfl) ?_
    rintro _ w7 ⟨S7, rfl, z7, p7⟩
    have p7 := ((p7.dp 0).dp 0).dp 0
    refine Gm 3 [([27, 4], .bool (!y11))] J4w ?_
    obtain rfl := sj h
    exact Xd Tryz.f74 (.bool (!y11)) ⟨_, rfl, ((((z2.t z3).t z4).t z5).t z7), p7⟩
   ·
    rw [df h10]
    refine Gm 6 [([29, 28], .bool (decide (x0.Op = 4)))] (Ys 11101011111 B74 J4p) ?_
    refine Gi h (fun h13 h => ?_) fun h13 h => ?_
    ·
     rw [dt h13]
     refine Gn 4 [(30, (pt b1 2))] (Yt 1110101111100 B74 [1, 2, 3, 4] J50) ?_
     refine Xc 28 30 31 28 ⟨b1, 2, none⟩ (Sl u5 x0.L u7) (p5.c 2 2) ?_
     refine Xc 232 5 32 232 ⟨b5, 0, none⟩ (.func (.func 136) #[] #[(pt b3 0)]) (p5.c 0 0) ?_
     have p5 := p5.fr 1
     refine Gb h fun y14 e15 h => ?_
     refine Gc (kc 128 [31, 32] #[28, 232]) 33 4 128 _ (u49 (x0.L, x1) y14 e15 _ _ _ _ _ _ _ p5 (um.ext (((z2.t z3).t z4).t z5)) rfl (fx1.ext (((z2.t z3).t z4).t z5)) rfl) ?_
     rintro _ w8 ⟨S8, rfl, z8, p8⟩
     have p8 := ((p8.dp 0).dp 0).dp 0
     refine Gn 2 [(4, .bool y14)] J50 ?_
     obtain rfl := sj h
     exact Xd Tryz.f74 (.bool y14) ⟨_, rfl, ((((z2.t z3).t z4).t z5).t z8), p8⟩
    ·
     rw [df h13]
     refine Gn 6 [(34, (pt b1 0))] (Yt 11110 B74 [1, 2, 3] J52) ?_
     refine Xc 3 34 35 3 ⟨b1, 0, none⟩ (.i x0.Op) (p5.c 2 0) ?_
     refine Gm 3 [([36, 4], .bool (decide (x0.Op = 0)))] J52 ?_
     obtain rfl := sj h
     have p5 := ((p5.dp 0).dp 0).dp 0
     exact Xd Tryz.f74 (.bool (decide (x0.Op = 0))) ⟨_, rfl, (((z2.t z3).t z4).t z5), p5⟩
 ·
  intro u4b u4c ⟨x0, u31⟩ r h nz wz S0 w0 Lr Ax0 nx0 cx0 u30 u44 u45 u46 p0 fx0 lx0 u4d u4e
  try dsimp only at h
  subst lx0
  subst u4e
  refine Zf Tryz.f128 B128 7 ?_
  refine Gj 9 [(0, Sl Ax0 x0 cx0), (1, .func (.func 136) #[] #[(pt u30 0)])] fun junk => ?_
  refine Gn 8 [(4, .bool false), (5, Sl Ax0 x0 cx0), (6, .func (.func 136) #[] #[(pt u30 0)])] J26 ?_
  refine Gb h fun y2 e3 h => ?_
  refine Gc (kc 195 [5, 6] #[28, 232]) 7 3 195 _ (u4c (x0, u31) y2 e3 _ _ _ _ _ _ _ p0 fx0 rfl u4d rfl) ?_
  rintro _ w2 ⟨S2, rfl, z2, p2⟩
  refine Gm 3 [([8, 4], .bool (decide (y2 ≥ 0)))] J25 ?_
  obtain rfl := sj h
  exact Xd Tryz.f128 (.bool (decide (y2 ≥ 0))) ⟨_, rfl, z2, p2⟩
 ·
  intro u4f u4g ⟨x0, u31⟩ r h nz wz S0 w0 Lr Ax0 nx0 cx0 u30 u44 u45 u46 p0 fx0 lx0 u4d u4e
  try dsimp only at h
  subst lx0
  subst u4e
  refine Zf Tryz.f195 B195 17 ?_
  refine Gj 19 [(0, Sl Ax0 x0 cx0), (1, .func (.func 136) #[] #[(pt u30 0)])] fun junk => ?_
  refine Gm 13 [([4, 8], .i 0), ([6], Sl Ax0 x0 cx0), ([7], .i (x0.length : Int))] J1k ?_
  exact Gj 19 [(0, Sl Ax0 x0 cx0), (1, .func (.func 136) #[] #[(pt u30 0)]), (7, .i (x0.length : Int)), (8, .i 0)] (u4g _ _ h u30 u44 u31.length u46 _ _ (Xj S0 w0) _ _ _ p0 fx0 rfl u4d rfl)
 ·
  intro u4f u4h u4g u4i ⟨x0, x7, x8, u31⟩ r h nz wz S0 w0 Lr u30 u44 u45 u46 S1 w1 hx Ax0 nx0 cx0 p1 fx0 lx0 u4j u4k junk
  try dsimp only at h
  subst lx0
  subst u4k
  refine Gn 5 [(9, .bool (decide (x8 < x7)))] J28 ?_
  refine Gi h (fun h2 h => ?_) fun h2 h => ?_
  ·
   rw [dt h2]
   refine Gm 14 [([10, 5, 13], .i x8), ([11], .func (.func 136) #[] #[(pt u30 0)]), ([12], Sl Ax0 x0 cx0)] J2c ?_
   refine Gg h fun g3 h => ?_
   refine Gg h fun g4 h => ?_
   refine Oi 28 12 13 14 0 30 .i64 x8 (gi x0 x8) rfl rfl fx0 Xa g3 g4 fun a5 _ f6 q7 => ?_
   have q8 := q7
   obtain ⟨_, _, rfl, rfl, ⟨_, _, rfl, rfl, ⟨A9, c10, rfl, f11⟩⟩⟩ := kT29_open q8
   refine Xg 30 14 15 30 a5 ([.i ((gi x0 x8).Op)] ++ ([.string ((gi x0 x8).Text)] ++ [.slice A9 (((gi x0 x8).L).length) c10])) (f6.cell) ?_
   refine Gb h fun y12 e13 h => ?_
   refine Gc (.call { callee := .value 11, args := #[15], argTypes := #[30] }) 16 4 136 _ (u4i (gi x0 x8, u31) y12 e13 _ _ _ _ _ _ _ p1 f11 rfl u4j rfl) ?_
   rintro _ w2 ⟨S2, rfl, z2, p2⟩
   refine Gn 1 [] J2b ?_
   refine Gi h (fun h14 h => ?_) fun h14 h => ?_
   ·
    rw [h14]
    refine Gm 6 [([17, 4], .i x8)] J2d ?_
    obtain rfl := sj h
    exact Xd Tryz.f195 (.i x8) ⟨_, rfl, (hx.t z2), p2⟩
   ·
    rw [bf h14]
    refine Gm 8 [([18, 8], .i (wr .i64 (x8 + 1)))] J1k ?_
    exact Gj 19 [(0, Sl Ax0 x0 cx0), (1, .func (.func 136) #[] #[(pt u30 0)]), (7, .i x7), (8, .i (wr .i64 (x8 + 1)))] (u4g _ _ h u30 u44 u31.length u46 _ _ (hx.t z2) _ _ _ p2 (fx0.ext z2) rfl (u4j.ext z2) rfl)
  ·
   rw [df h2]
   refine Gn 6 [(4, .i (-1))] J2e ?_
   obtain rfl := sj h
   exact Xd Tryz.f195 (.i (-1)) ⟨_, rfl, hx, p1⟩
 ·
  intro rec_gram_Query_fits ih_gram_Query_fits ⟨x0, u43⟩ r h nz wz S0 w0 Lr u5 u6 u7 gx1 u40 u41 u42 p0 um un u4m u4n
  try dsimp only at h
  subst un
  subst u4n
  refine Zf Tryz.f136 B136 5 ?_
  refine Gj 7 [(0, (ag (wT29 x0.Op x0.Text u5 x0.L.length u7))), (1, (pt gx1 0))] fun junk => ?_
  refine Gn 2 [] (Yt 10 B136 [0, 1] (Ys 11 B136 [])) ?_
  refine Ob 30 0 2 0 ((ag (wT29 x0.Op x0.Text u5 x0.L.length u7))) (wT29 x0.Op x0.Text u5 x0.L.length u7) p0 Xa fun b2 w2 z2 p2 => ?_
  refine Gn 4 [(3, .bool false)] (Yt 110 B136 [0, 1, 2, 3] J56) ?_
  refine Xg 30 2 4 30 ⟨b2, 0, none⟩ (wT29 x0.Op x0.Text u5 x0.L.length u7) (p2.pa 0 0) ?_
  refine Xc 43 1 5 43 ⟨gx1, 0, none⟩ (Sl u40 u43 u42) (p2.c 1 0) ?_
  refine Gb h fun y4 e5 h => ?_
  refine Gc (kc 74 [4, 5] #[30, 43]) 6 4 74 _ (ih_gram_Query_fits (x0, u43) y4 e5 _ _ _ _ _ _ p2 (um.ext z2) rfl (u4m.ext z2) rfl) ?_
  rintro _ w3 ⟨S3, rfl, z3, p3⟩
  have p3 := p3.dp 0
  refine Gn 2 [(3, .bool y4)] J56 ?_
  obtain rfl := sj h
  exact Xd Tryz.f136 (.bool y4) ⟨_, rfl, (z2.t z3), p3⟩
 ·
  intro u4o u4p ⟨x0, u3u⟩ r h nz wz S0 w0 Lr Ax0 nx0 cx0 u30 u3q u3r u3s u3t p0 fx0 lx0 u4q u4r
  try dsimp only at h
  subst lx0
  subst u4r
  refine Zf Tryz.f128 B128 7 ?_
  refine Gj 9 [(0, Sl Ax0 x0 cx0), (1, .func (.func 138) #[] #[(pt u30 0)])] fun junk => ?_
  refine Gn 8 [(4, .bool false), (5, Sl Ax0 x0 cx0), (6, .func (.func 138) #[] #[(pt u30 0)])] J26 ?_
  refine Gb h fun y3 e4 h => ?_
  refine Gc (kc 195 [5, 6] #[28, 232]) 7 3 195 _ (u4p (x0, u3u) y3 e4 _ _ _ _ _ _ _ _ p0 fx0 rfl u4q rfl) ?_
  rintro _ w2 ⟨S2, rfl, z2, p2⟩
  refine Gm 3 [([8, 4], .bool (decide (y3 ≥ 0)))] J25 ?_
  obtain rfl := sj h
  exact Xd Tryz.f128 (.bool (decide (y3 ≥ 0))) ⟨_, rfl, z2, p2⟩
 ·
  intro u4s u4t ⟨x0, u3u⟩ r h nz wz S0 w0 Lr Ax0 nx0 cx0 u30 u3q u3r u3s u3t p0 fx0 lx0 u4q u4r
  try dsimp only at h
  subst lx0
  subst u4r
  refine Zf Tryz.f195 B195 17 ?_
  refine Gj 19 [(0, Sl Ax0 x0 cx0), (1, .func (.func 138) #[] #[(pt u30 0)])] fun junk => ?_
  refine Gm 13 [([4, 8], .i 0), ([6], Sl Ax0 x0 cx0), ([7], .i (x0.length : Int))] J1k ?_
  exact Gj 19 [(0, Sl Ax0 x0 cx0), (1, .func (.func 138) #[] #[(pt u30 0)]), (7, .i (x0.length : Int)), (8, .i 0)] (u4t _ _ h u30 u3q u3r u3u.length u3t _ _ (Xj S0 w0) _ _ _ p0 fx0 rfl u4q rfl)
 ·
  intro u4s u4u u4t u4v ⟨x0, x7, x8, u3u⟩ r h nz wz S0 w0 Lr u30 u3q u3r u3s u3t S1 w1 hx Ax0 nx0 cx0 p1 fx0 lx0 u4j u4k junk
  try dsimp only at h
  subst lx0
  subst u4k
  refine Gn 5 [(9, .bool (decide (x8 < x7)))] J28 ?_
  refine Gi h (fun h3 h => ?_) fun h3 h => ?_
  ·
   rw [dt h3]
   refine Gm 14 [([10, 5, 13], .i x8), ([11], .func (.func 138) #[] #[(pt u30 0)]), ([12], Sl Ax0 x0 cx0)] J2c ?_
   refine Gg h fun g4 h => ?_
   refine Gg h fun g5 h => ?_
   refine Oi 28 12 13 14 0 30 .i64 x8 (gi x0 x8) rfl rfl fx0 Xa g4 g5 fun a6 _ f7 q8 => ?_
   have q9 := q8
   obtain ⟨_, _, rfl, rfl, ⟨_, _, rfl, rfl, ⟨A10, c11, rfl, f12⟩⟩⟩ := kT29_open q9
   refine Xg 30 14 15 30 a6 ([.i ((gi x0 x8).Op)] ++ ([.string ((gi x0 x8).Text)] ++ [.slice A10 (((gi x0 x8).L).length) c11])) (f7.cell) ?_
   refine Gb h fun y13 e14 h => ?_
   refine Gc (.call { callee := .value 11, args := #[15], argTypes := #[30] }) 16 4 138 _ (u4v (gi x0 x8, u3u) y13 e14 _ _ _ _ _ _ _ _ p1 f12 rfl u4j rfl) ?_
   rintro _ w2 ⟨S2, rfl, z2, p2⟩
   refine Gn 1 [] J2b ?_
   refine Gi h (fun h15 h => ?_) fun h15 h => ?_
   ·
    rw [h15]
    refine Gm 6 [([17, 4], .i x8)] J2d ?_
    obtain rfl := sj h
    exact Xd Tryz.f195 (.i x8) ⟨_, rfl, (hx.t z2), p2⟩
   ·
    rw [bf h15]
    refine Gm 8 [([18, 8], .i (wr .i64 (x8 + 1)))] J1k ?_
    exact Gj 19 [(0, Sl Ax0 x0 cx0), (1, .func (.func 138) #[] #[(pt u30 0)]), (7, .i x7), (8, .i (wr .i64 (x8 + 1)))] (u4t _ _ h u30 u3q u3r u3u.length u3t _ _ (hx.t z2) _ _ _ p2 (fx0.ext z2) rfl (u4j.ext z2) rfl)
  ·
   rw [df h3]
   refine Gn 6 [(4, .i (-1))] J2e ?_
   obtain rfl := sj h
   exact Xd Tryz.f195 (.i (-1)) ⟨_, rfl, hx, p1⟩
 ·
  intro u4h u4i ⟨x0, u3z⟩ r h nz wz S0 w0 Lr u5 u6 u7 gx1 u3v u3w u3x u3y p0 um un u4x u4y
  try dsimp only at h
  subst un
  subst u4y
  refine Zf Tryz.f138 B138 6 ?_
  refine Gj 8 [(0, (ag (wT29 x0.Op x0.Text u5 x0.L.length u7))), (1, (pt gx1 0))] fun junk => ?_
  refine Gn 2 [] (Yt 10 B138 [0, 1] (Ys 11 B138 [])) ?_
  refine Ob 30 0 2 0 ((ag (wT29 x0.Op x0.Text u5 x0.L.length u7))) (wT29 x0.Op x0.Text u5 x0.L.length u7) p0 Xa fun b3 w2 z2 p2 => ?_
  refine Gn 4 [(3, .bool false)] (Yt 110 B138 [0, 1, 2, 3, 4] J5a) ?_
  refine Xc 232 1 4 232 ⟨gx1, 0, none⟩ (.func (.func 136) #[] #[(pt u3v 0)]) (p2.c 1 0) ?_
  refine Xg 30 2 5 30 ⟨b3, 0, none⟩ (wT29 x0.Op x0.Text u5 x0.L.length u7) (p2.pa 0 0) ?_
  have p2 := p2.fr 2
  refine Gb h fun y5 e6 h => ?_
  refine Gc (.call { callee := .value 4, args := #[5], argTypes := #[30] }) 6 4 136 _ (u4i (x0, u3z) y5 e6 _ _ _ _ _ _ _ p2 (um.ext z2) rfl (u4x.ext z2) rfl) ?_
  rintro _ w3 ⟨S3, rfl, z3, p3⟩
  have p3 := p3.dp 1
  refine Gm 3 [([7, 3], .bool (!y5))] J5a ?_
  obtain rfl := sj h
  have p3 := (p3.fr 0).fr 1
  exact Xd Tryz.f138 (.bool (!y5)) ⟨_, rfl, (z2.t z3), p3⟩
theorem W.zw : ∀ a r, M.a1z a = some r → LF.zw a r := (W.z15).1
theorem W.z11 : ∀ a r, M.a6s a = some r → LF.z11 a r := (W.z15).2.1
theorem W.z12 : ∀ a r, M.a6v a = some r → LF.z12 a r := (W.z15).2.2.1
theorem W.z14 : ∀ a r, M.a21 a = some r → LL.z14 a r := (W.z15).2.2.2.1
theorem W.z10 : ∀ a r, M.a4n a = some r → LF.z10 a r := (W.z15).2.2.2.2.1
theorem W.zx : ∀ a r, M.a6r a = some r → LF.zx a r := (W.z15).2.2.2.2.2.1
theorem W.zy : ∀ a r, M.a6t a = some r → LF.zy a r := (W.z15).2.2.2.2.2.2.1
theorem W.z13 : ∀ a r, M.a20 a = some r → LL.z13 a r := (W.z15).2.2.2.2.2.2.2.1
theorem W.zz : ∀ a r, M.a6u a = some r → LF.zz a r := (W.z15).2.2.2.2.2.2.2.2
def J5e := Ys 111 B27 []
def Post.z16 (r : Bool × Int) (v : Value) (w' : World) : Prop :=
 ∃ S', v = .tuple #[.bool r.1, .i r.2] ∧ Ext S0 w0 S' w' ∧ Hp nz wz S' w' (Lr)
theorem W.z16 (x0 : T29) (x1 : ByteArray) (r : Bool × Int) (h : M.a5y x0 x1 = some r) {nz wz S0 w0 Lr} (u5 u6 u7) (p0 : Hp nz wz S0 w0 (Lr)) (um : Rd kT29 S0 w0 u5 u7 x0.L) (un : x0.L.length = u6) :
  Calls Tg 27 #[(ag (wT29 x0.Op x0.Text u5 u6 u7)), .string x1] w0 (Rets (Post.z16 nz wz S0 w0 Lr r)) := by
 subst un
 refine Zf Tryz.f27 B27 14 ?_
 refine Gj 16 [(0, (ag (wT29 x0.Op x0.Text u5 x0.L.length u7))), (1, .string x1)] fun junk => ?_
 delta M.a5y at h
 refine Gn 2 [] (Yt 10 B27 [0, 1, 2] (Ys 11 B27 [])) ?_
 refine Ob 30 0 2 0 ((ag (wT29 x0.Op x0.Text u5 x0.L.length u7))) (wT29 x0.Op x0.Text u5 x0.L.length u7) p0 Xa fun b1 w2 z2 p2 => ?_
 refine Gn 6 [(4, .bool false), (5, .i 0)] (Yt 1100 B27 [0, 1, 2] (Ys 1101 B27 J5e)) ?_
 refine Xg 30 2 7 30 ⟨b1, 0, none⟩ (wT29 x0.Op x0.Text u5 x0.L.length u7) (p2.pa 0 0) ?_
 refine Gb h fun y3 e4 h => ?_
 refine Gc (kc 20 [7] #[30]) 8 34 20 _ (W.zg x0 y3 e4 _ _ _ p2 (um.ext z2) rfl) ?_
 rintro _ w3 ⟨S3, rfl, z3, p3⟩
 refine Gm 7 [([6, 9], .i y3), ([10], .bool (!(decide (y3 = 0))))] (Ys 11011 B27 J5e) ?_
 refine Gi h (fun h5 h => ?_) fun h5 h => ?_
 ·
  rw [dt h5]
  refine Gn 3 [] (Ys 1110 B27 (Ys 1111 B27 [])) ?_
  have z4 : Ext S3 w3 S3 (w3).drew := Xk
  have p4 := p3.draw
  refine Gd [3] (Fc S3 (w3).drew [(⟨b1, 0, none⟩, .i x0.Op), (⟨b1, 1, none⟩, .string x0.Text), (⟨b1, 2, none⟩, Sl u5 x0.L u7)]) 4 6 ?_
  generalize (w3).drew = w4 at z4 p4 ⊢
  refine Xw (i := 0) 30 2 12 30 ⟨b1, 0, none⟩ (wT29 x0.Op x0.Text u5 x0.L.length u7) (by kernel_rfl) (by kernel_rfl) (p4.k [(0, 0, 3)]) (by kernel_rfl) (by kernel_rfl) (by kernel_rfl) (fun _ h j v hj => by match j, hj with | 0, rfl => exact h.2.at_ 0 rfl | 1, rfl => exact h.2.at_ 1 rfl | 2, rfl => exact h.2.at_ 2 rfl | (j + 3), hj => simp at hj) ?_
  refine Xb 1 (.move 1) 13 9 (.string x1) (p4.k [(0, 0, 3)]) ?_
  refine Gb h fun y6 e7 h => ?_
  refine Oc (kc 16 [13] #[9]) 14 43 16 #[.string x1] (Ac 2) (W.zo x1 y6 e7  p4 ) ?_
  rintro _ w5 ⟨S5, u4z, u50, u51, u52, rfl, z5, p5, u53, rfl⟩
  refine Xo z5 ⟨(p5.c 1 0), (p5.c 1 1), (p5.c 1 2), trivial⟩ ?_
  obtain ⟨S6, z6, p6, f9⟩ := p5.freezeRd 0 rfl u53 (by decide)
  refine Xz z6 ?_
  refine Gb h fun y10 e11 h => ?_
  refine Oc (kc 74 [12, 14] #[30, 43]) 15 4 74 #[(ag (wT29 x0.Op x0.Text u5 x0.L.length u7)), Sl (Gp u4z) y6 u51] (Ac 3) (W.zw (x0, y6) y10 e11 _ _ _ _ _ _ p6 (um.ext ((((z2.t z3).t z4).t z5).t z6)) rfl f9 rfl) ?_
  rintro _ w7 ⟨S7, rfl, z7, p7⟩
  refine Xi [] (Fc S7 w7 []) (by decide) ?_
  refine Xb 4 (.assign 15) 4 4 (.bool y10) Fc0 ?_
  refine Xb 5 (.assign (.const (.int .i64 0))) 5 34 (.i 0) Fc0 ?_
  refine Ad ?_
  have p7 := (p7.dp 0).dp 0
  obtain rfl := sj h
  exact Xd Tryz.f27 (.tuple #[.bool y10, .i 0]) ⟨_, rfl, (((((z2.t z3).t z4).t z5).t z6).t z7), p7⟩
 ·
  rw [df h5]
  refine Gm 7 [([11, 5], .i y3), ([4], .bool false)] (Ys 1101101 B27 J5e) ?_
  obtain rfl := sj h
  have p3 := p3.dp 0
  exact Xd Tryz.f27 (.tuple #[.bool false, .i y3]) ⟨_, rfl, (z2.t z3), p3⟩
def Q4c := Yq 1110100 B19
def J5n := Zl Q4c (Zb 0 (Ys 1111 B19 []))
def J5o := Zc Q4c J5n
def J5q := Ys 111010001 B19 (Ys 11101001 B19 J5n)
def J5t := Ys 111 B19 []
def Q4i := Yq 110 B19
def Q4j := Yq 111010000 B19
def J62 := Ys 11111 B19 []
def Post.z17 (r : T38) (v : Value) (w' : World) : Prop :=
 ∃ S' u0 u1 u2 u3, v = (ag (wT29 r.Op r.Text (Gp u0) u1 u2)) ∧ Ext S0 w0 S' w' ∧ Hp nz wz S' w' ((u0, .row 39 u3 (u2 * kT38.size) 0) :: Lr) ∧ Els kT38 S' w' u3 r.L ∧ r.L.length = u1
def LF.z17 : T29 × Int → T38 → Prop := fun ⟨x0, x1⟩ r => ∀ {nz wz S0 w0 Lr} u5 u6 u7 (_ : Hp nz wz S0 w0 (Lr)) (_ : Rd kT29 S0 w0 u5 u7 x0.L) (_ : x0.L.length = u6),
 Calls Tg 19 #[(ag (wT29 x0.Op x0.Text u5 u6 u7)), .i x1] w0 (Rets (Post.z17 nz wz S0 w0 Lr r))
def L.z18 : Int × T29 × T38 × T38 × Int → T38 → Prop := fun ⟨x1, x2v, x4v, x5v, x6⟩ r => ∀ S1 w1, Ext S0 w0 S1 w1 → ∀ gx2 u54 u55 u56 gx4 u57 u58 u59 u5a gx5 u5b u5c u5d u5e (_ : Hp nz wz S1 w1 ((some gx2, .row 30 (wT29 x2v.Op x2v.Text u54 u55 u56) 3 0) :: (some gx4, .row 39 (wT29 x4v.Op x4v.Text (Gp u57) u58 u59) 3 0) :: (u57, .row 39 u5a (u59 * kT38.size) 0) :: (some gx5, .row 39 (wT29 x5v.Op x5v.Text (Gp u5b) u5c u5d) 3 0) :: (u5b, .row 39 u5e (u5d * kT38.size) 0) :: Lr)) (_ : Rd kT29 S1 w1 u54 u56 x2v.L) (_ : x2v.L.length = u55) (_ : Els kT38 S1 w1 u5a x4v.L) (_ : x4v.L.length = u58) (_ : Els kT38 S1 w1 u5e x5v.L) (_ : x5v.L.length = u5c) (junk : Nat → Value),
 Goes Tg (base 19) J5o ⟨lfr 37 [(1, .i x1), (2, (pt gx2 0)), (4, (pt gx4 0)), (5, (pt gx5 0)), (6, .i x6)] junk, []⟩ w1 (Done Tg 19 (Rets (Post.z17 nz wz S0 w0 Lr r)))
def LL.z18 : Int × T29 × T38 × T38 × Int → T38 → Prop := fun a r => ∀ {nz wz S0 w0 Lr}, L.z18 nz wz S0 w0 Lr a r
def L.z19 : Int × T29 × T38 × T38 × Int × Bool → T38 → Prop := fun ⟨x1, x2v, x4v, x5v, x6, x20⟩ r => ∀ S1 w1, Ext S0 w0 S1 w1 → ∀ gx2 u54 u55 u56 gx4 u57 u58 u59 u5a gx5 u5b u5c u5d u5e (_ : Hp nz wz S1 w1 ((some gx2, .row 30 (wT29 x2v.Op x2v.Text u54 u55 u56) 3 0) :: (some gx4, .row 39 (wT29 x4v.Op x4v.Text (Gp u57) u58 u59) 3 0) :: (u57, .row 39 u5a (u59 * kT38.size) 0) :: (some gx5, .row 39 (wT29 x5v.Op x5v.Text (Gp u5b) u5c u5d) 3 0) :: (u5b, .row 39 u5e (u5d * kT38.size) 0) :: Lr)) (_ : Rd kT29 S1 w1 u54 u56 x2v.L) (_ : x2v.L.length = u55) (_ : Els kT38 S1 w1 u5a x4v.L) (_ : x4v.L.length = u58) (_ : Els kT38 S1 w1 u5e x5v.L) (_ : x5v.L.length = u5c) (junk : Nat → Value),
 Goes Tg (base 19) J5q ⟨lfr 37 [(1, .i x1), (2, (pt gx2 0)), (4, (pt gx4 0)), (5, (pt gx5 0)), (6, .i x6), (20, .bool x20)] junk, []⟩ w1 (Done Tg 19 (Rets (Post.z17 nz wz S0 w0 Lr r)))
def LL.z19 : Int × T29 × T38 × T38 × Int × Bool → T38 → Prop := fun a r => ∀ {nz wz S0 w0 Lr}, L.z19 nz wz S0 w0 Lr a r
theorem W.z1a : (∀ a r, M.aa a = some r → LF.z17 a r) ∧ (∀ a r, M.a22 a = some r → LL.z18 a r) ∧ (∀ a r, M.a3e a = some r → LL.z19 a r) := by
 refine M.aa.mutual_partial_correctness LF.z17 LL.z18 LL.z19 ?_ ?_ ?_
 ·
  intro u5f u5g ⟨x0, x1⟩ r h nz wz S0 w0 Lr u5 u6 u7 p0 um un
  try dsimp only at h
  subst un
  refine Zf Tryz.f19 B19 35 ?_
  refine Gj 37 [(0, (ag (wT29 x0.Op x0.Text u5 x0.L.length u7))), (1, .i x1)] fun junk => ?_
  refine Gn 2 [] (Yt 10 B19 [0, 1] (Ys 11 B19 [])) ?_
  refine Ob 30 0 2 0 ((ag (wT29 x0.Op x0.Text u5 x0.L.length u7))) (wT29 x0.Op x0.Text u5 x0.L.length u7) p0 Xa fun b1 w2 z2 p2 => ?_
  refine Oa 39 4 0 (.agg #[.i 0, .string bE, Sn]) [.i 0, .string bE, Sn] p2 Xa fun b3 w3 z3 p3 => ?_
  refine Gn 4 [(7, (pt b1 0))] (Zr Q4i [1, 2, 3, 4, 5, 6] J5t) ?_
  refine Xc 3 7 8 3 ⟨b1, 0, none⟩ (.i x0.Op) (p3.c 1 0) ?_
  refine Gn 1 [(9, (pt b1 1))] (Zr Q4i [3, 4, 5, 6] J5t) ?_
  refine Xc 9 9 10 9 ⟨b1, 1, none⟩ (.string x0.Text) (p3.c 1 1) ?_
  refine Gn 1 [(11, (ag (wT29 x0.Op x0.Text none 0 0)))] (Zr Q4i [5, 6] J5t) ?_
  refine Oa 39 5 0 (.agg #[.i 0, .string bE, Sn]) [.i 0, .string bE, Sn] p3 Xa fun b5 w4 z4 p4 => ?_
  refine So 39 5 11 0 0 b5 0 ((ag (wT29 x0.Op x0.Text none 0 0))) (wT29 x0.Op x0.Text none 0 0) p4 rfl Xe fun w5 z5 p5 => ?_
  refine Gn 8 [(6, .i 0)] J5o ?_
  have p5 : Hp nz wz S0 w5 ((none, .row 39 [] (0 * kT38.size) 0) :: (some b5, .row 39 (wT29 x0.Op x0.Text none 0 0) 3 0) :: (some b3, .row 39 [.i 0, .string bE, Sn] 3 0) :: (some b1, .row 30 (wT29 x0.Op x0.Text u5 x0.L.length u7) 3 0) :: Lr) := p5.nilRow' 39
  have p5 : Hp nz wz S0 w5 ((none, .row 39 [] (0 * kT38.size) 0) :: (none, .row 39 [] (0 * kT38.size) 0) :: (some b5, .row 39 (wT29 x0.Op x0.Text none 0 0) 3 0) :: (some b3, .row 39 [.i 0, .string bE, .slice (Gp none) 0 0] 3 0) :: (some b1, .row 30 (wT29 x0.Op x0.Text u5 x0.L.length u7) 3 0) :: Lr) := p5.nilRow' 39
  have p5 := ((((p5.fr 0).fr 2).fr 2).fr 3).fr 4
  exact Gj 37 [(1, .i x1), (2, (pt b1 0)), (4, (pt b3 0)), (5, (pt b5 0)), (6, .i 0)] (u5g _ _ h _ _ (((z2.t z3).t z4).t z5) _ _ _ _ _ none 0 0 [] _ none 0 0 [] p5 (um.ext (((z2.t z3).t z4).t z5)) rfl (Els.nil (K := kT38)) rfl (Els.nil (K := kT38)) rfl)
 ·
  intro u5h u5i ⟨x1, x2v, x4v, x5v, x6⟩ r h nz wz S0 w0 Lr S1 w1 hx gx2 u54 u55 u56 gx4 u57 u58 u59 u5a gx5 u5b u5c u5d u5e p1 u5j u5k u5l u5m u5n u5o junk
  try dsimp only at h
  subst u5k
  subst u5m
  subst u5o
  refine Gn 5 [(12, .i x6), (13, (pt gx2 2))] (Zr Q4j [2, 3, 4, 5, 6, 7, 8] J5q) ?_
  refine Xc 28 13 14 28 ⟨gx2, 2, none⟩ (Sl u54 x2v.L u56) (p1.c 0 2) ?_
  refine Gm 3 [([15], .i (x2v.L.length : Int)), ([16, 17], .bool (decide (x6 < (x2v.L.length : Int))))] (Zr Q4j [6, 7, 8] J5q) ?_
  refine Gi h (fun h14 h => ?_) fun h14 h => ?_
  ·
   rw [dt h14]
   refine Gm 4 [([18], .i x1), ([19, 20], .bool (decide (x1 > 0)))] J5q ?_
   exact Gj 37 [(1, .i x1), (2, (pt gx2 0)), (4, (pt gx4 0)), (5, (pt gx5 0)), (6, .i x6), (20, .bool (decide (x1 > 0)))] (u5i _ _ h _ _ hx _ _ _ _ _ _ _ _ _ _ _ _ _ _ p1 u5j rfl u5l rfl u5n rfl)
  ·
   rw [df h14]
   refine Gm 4 [([18, 19], undef), ([20], .bool false)] J5q ?_
   exact Gj 37 [(1, .i x1), (2, (pt gx2 0)), (4, (pt gx4 0)), (5, (pt gx5 0)), (6, .i x6), (20, .bool false)] (u5i _ _ h _ _ hx _ _ _ _ _ _ _ _ _ _ _ _ _ _ p1 u5j rfl u5l rfl u5n rfl)
 ·
  intro u5p u5f u5q u5g ⟨x1, x2v, x4v, x5v, x6, x20⟩ r h nz wz S0 w0 Lr S1 w1 hx gx2 u54 u55 u56 gx4 u57 u58 u59 u5a gx5 u5b u5c u5d u5e p1 u5j u5k u5l u5m u5n u5o junk
  try dsimp only at h
  subst u5k
  subst u5m
  subst u5o
  refine Gi h (fun h20 h => ?_) fun h20 h => ?_
  ·
   rw [h20]
   refine Gn 4 [] (Ys 1110100100 B19 (Zb 1 (Ys 111010011 B19 J5n))) ?_
   have z6 : Ext S1 w1 S1 (w1).drew := Xk
   have p6 := p1.draw
   refine Gd [11, 13] (Fc S1 (w1).drew [(⟨gx5, 2, none⟩, Sl (Gp u5b) x5v.L u5d), (⟨gx2, 2, none⟩, Sl u54 x2v.L u56)]) 5 14 ?_
   generalize (w1).drew = w6 at z6 p6 ⊢
   refine Xb 0 (.fieldAddr 39 5 2) 23 0 (pt gx5 2) (p6.k [(3, 2, 1), (0, 2, 1)]) ?_
   refine Al 1 37 23 24 37 ⟨gx5, 2, none⟩ (Sl (Gp u5b) x5v.L u5d) (p6.k [(3, 2, 1), (0, 2, 1)]) (fun _ h => h.2.at_ 0 rfl) ?_
   refine Xb 2 (.fieldAddr 30 2 2) 25 0 (pt gx2 2) (p6.k [(3, 2, 1), (0, 2, 1)]) ?_
   refine Al 3 28 25 26 28 ⟨gx2, 2, none⟩ (Sl u54 x2v.L u56) (p6.k [(3, 2, 1), (0, 2, 1)]) (fun _ h => h.2.at_ 1 rfl) ?_
   refine Xb 4 (.move 6) 27 3 (.i x6) (p6.k [(3, 2, 1), (0, 2, 1)]) ?_
   refine Gg h fun g21 h => ?_
   refine Gg h fun g22 h => ?_
   refine Xn (i := 5) 28 26 27 28 0 30 .i64 x6 (gi x2v.L x6) rfl rfl (u5j.ext z6) (by kernel_rfl) (by kernel_rfl) (p6.k [(3, 2, 1), (0, 2, 1)]) (by kernel_rfl) (by kernel_rfl) (by kernel_rfl) (by kernel_rfl) g21 g22 fun a23 _ f24 q25 => ?_
   have q26 := q25
   obtain ⟨_, _, rfl, rfl, ⟨_, _, rfl, rfl, ⟨A27, c28, rfl, f29⟩⟩⟩ := kT29_open q26
   refine Xw (i := 6) 30 28 29 30 a23 ([.i ((gi x2v.L x6).Op)] ++ ([.string ((gi x2v.L x6).Text)] ++ [.slice A27 (((gi x2v.L x6).L).length) c28])) (by kernel_rfl) (by kernel_rfl) (p6.k [(3, 2, 1), (0, 2, 1)]) (by kernel_rfl) (by kernel_rfl) (by kernel_rfl) (fun _ h => f24.fc h) ?_
   refine Xb 7 (.move 1) 30 3 (.i x1) (p6.k [(3, 2, 1), (0, 2, 1)]) ?_
   refine Xb 8 (.binOp .sub 3 30 (.const (.int .i64 1)) 3) 31 3 (.i (wr .i64 (x1 - 1))) (p6.k [(3, 2, 1), (0, 2, 1)]) ?_
   refine Gb h fun y30 e31 h => ?_
   refine Oc (kc 19 [29, 31] #[30, 3]) 32 39 19 #[(ag (wT29 (gi x2v.L x6).Op (gi x2v.L x6).Text A27 (((gi x2v.L x6).L).length) c28)), .i (wr .i64 (x1 - 1))] (Ac 9) (u5q (gi x2v.L x6, wr .i64 (x1 - 1)) y30 e31 _ _ _ p6 f29 rfl) ?_
   rintro _ w7 ⟨S7, u5r, u5s, u5t, u5u, rfl, z7, p7, u5v, rfl⟩
   refine Xo z7 ⟨(p7.c 4 2), (p7.c 1 2), trivial⟩ ?_
   obtain ⟨S8, z8, p8, f33⟩ := p7.freezeRd 0 rfl u5v (by decide)
   refine Xz z8 ?_
   have f35 : Els kT38 S8 w7 ((wT29 y30.Op y30.Text (Gp u5r) y30.L.length u5t) : List Value) [y30] := by exact (Els.cons (K := kT38) (vs := (wT29 y30.Op y30.Text (Gp u5r) y30.L.length u5t)) (x := y30) (kT38_close ⟨[.i y30.Op], [.string y30.Text, Sl (Gp u5r) y30.L u5t], rfl, rfl, ⟨[.string y30.Text], [Sl (Gp u5r) y30.L u5t], rfl, rfl, ⟨_, _, rfl, f33⟩⟩⟩) Els.nil)
   refine Om (.buildSlice 37 1 #[(0, 32)]) 33 37 (fun b => .slice (Gp (some b)) 1 1) 39 ((wT29 y30.Op y30.Text (Gp u5r) y30.L.length u5t) : List Value) (1 * kT38.size) p8 (Av 10) fun b34 w9 z9 p9 => ?_
   refine Xo z9 ⟨(p9.c 5 2), (p9.c 2 2), trivial⟩ ?_
   refine Gg h fun g40 h => ?_
   refine On (K := kT38) 37 24 33 34 37 39 6 (.agg #[.i 0, .string ⟨#[]⟩, Sn]) 48 x5v.L.length u5d 1 x5v.L [y30] (x5v.L ++ [y30]) (Gp (some b34)) 1 rfl rfl rfl p9 rfl (u5n.ext (((z6.t z7).t z8).t z9)) (Av 11) (f35.ext z9) (src_own p9 (q := 0) rfl) g40 fun w10 G41 c42 u5w z10 p10 f44 => ?_
   refine Xi [13] (Fc S8 w10 []) (by decide) ?_
   refine Xb 12 (.fieldAddr 39 5 2) 35 0 (pt gx5 2) Fc0 ?_
   refine So 37 35 34 0 5 gx5 2 (.slice (Gp G41) ((x5v.L ++ [y30]).length) c42) [.slice (Gp G41) ((x5v.L ++ [y30]).length) c42] p10 rfl (As 13) fun w11 z11 p11 => ?_
   refine Xi [] (Fc S8 w11 []) (by decide) ?_
   refine Ad ?_
   have p11 := (p11.dp 0).dp 0
   refine Gm 7 [([21], .i x6), ([22, 6], .i (wr .i64 (x6 + 1)))] J5o ?_
   exact Gj 37 [(1, .i x1), (2, (pt gx2 0)), (4, (pt gx4 0)), (5, (pt gx5 0)), (6, .i (wr .i64 (x6 + 1)))] (u5g _ _ h _ _ ((((((hx.t z6).t z7).t z8).t z9).t z10).t z11) _ _ _ _ _ _ _ _ _ _ _ _ _ _ p11 (u5j.ext (((((z6.t z7).t z8).t z9).t z10).t z11)) rfl (u5l.ext (((((z6.t z7).t z8).t z9).t z10).t z11)) rfl (f44.ext z11) rfl)
  ·
   rw [bf h20]
   refine Gn 4 [] (Yt 11110 B19 [0, 1] J62) ?_
   refine Xg 39 5 36 39 ⟨gx5, 0, none⟩ (wT29 x5v.Op x5v.Text (Gp u5b) x5v.L.length u5d) (p1.pa 3 0) ?_
   refine So 39 4 36 0 1 gx4 0 ((ag (wT29 x5v.Op x5v.Text (Gp u5b) x5v.L.length u5d))) (wT29 x5v.Op x5v.Text (Gp u5b) x5v.L.length u5d) p1 rfl Xe fun w12 z12 p12 => ?_
   refine Gn 1 [] J62 ?_
   obtain rfl := sj h
   have p12 := ((p12.dp 0).dp 1).dp 1
   exact R1 Tryz.f19 (.cell 4 39) ((ag (wT29 x5v.Op x5v.Text (Gp u5b) x5v.L.length u5d))) (Rn gx4 (p12.pa 0 0)) ⟨_, _, _, _, _, rfl, (hx.t z12), p12.drop, (u5n.ext z12), rfl⟩
theorem W.z17 : ∀ a r, M.aa a = some r → LF.z17 a r := (W.z1a).1
theorem W.z18 : ∀ a r, M.a22 a = some r → LL.z18 a r := (W.z1a).2.1
theorem W.z19 : ∀ a r, M.a3e a = some r → LL.z19 a r := (W.z1a).2.2
def J65 := Zb 0 (Ys 1111 B63 [])
def Q4p := Yq 1110100 B63
def J66 := Zl Q4p J65
def J67 := Zc Q4p J66
def J69 := Ys 111010001 B63 (Ys 11101001 B63 J66)
def J6b := Zb 1 (Ys 111010011 B63 J66)
def J6c := Ys 11101001001111 B63 J6b
def Q4x := Yq 111010000 B63
def J6i := Ys 11101001001 B63 J6b
def J6l := Ys 111010010011 B63 J6b
def Q52 := Yq 111010010010 B63
def Post.z1b (r : Int × Int) (v : Value) (w' : World) : Prop :=
 ∃ S', v = .tuple #[.i r.1, .i r.2] ∧ Ext S0 w0 S' w' ∧ Hp nz wz S' w' (Lr)
def LF.z1b : T38 × Int → (Int × Int) → Prop := fun ⟨x0, x1⟩ r => ∀ {nz wz S0 w0 Lr} u5 u6 u7 (_ : Hp nz wz S0 w0 (Lr)) (_ : Rd kT38 S0 w0 u5 u7 x0.L) (_ : x0.L.length = u6),
 Calls Tg 63 #[(ag (wT29 x0.Op x0.Text u5 u6 u7)), .i x1] w0 (Rets (Post.z1b nz wz S0 w0 Lr r))
def L.z1c : Int × T38 × Int × Int × Int → (Int × Int) → Prop := fun ⟨x1, x2v, x6, x7, x8⟩ r => ∀ S1 w1, Ext S0 w0 S1 w1 → ∀ gx2 u54 u55 u56 (_ : Hp nz wz S1 w1 ((some gx2, .row 39 (wT29 x2v.Op x2v.Text u54 u55 u56) 3 0) :: Lr)) (_ : Rd kT38 S1 w1 u54 u56 x2v.L) (_ : x2v.L.length = u55) (junk : Nat → Value),
 Goes Tg (base 63) J67 ⟨lfr 50 [(1, .i x1), (2, (pt gx2 0)), (6, .i x6), (7, .i x7), (8, .i x8)] junk, []⟩ w1 (Done Tg 63 (Rets (Post.z1b nz wz S0 w0 Lr r)))
def LL.z1c : Int × T38 × Int × Int × Int → (Int × Int) → Prop := fun a r => ∀ {nz wz S0 w0 Lr}, L.z1c nz wz S0 w0 Lr a r
def L.z1d : Int × T38 × Int × Int × Int × Bool → (Int × Int) → Prop := fun ⟨x1, x2v, x6, x7, x8, x19⟩ r => ∀ S1 w1, Ext S0 w0 S1 w1 → ∀ gx2 u54 u55 u56 (_ : Hp nz wz S1 w1 ((some gx2, .row 39 (wT29 x2v.Op x2v.Text u54 u55 u56) 3 0) :: Lr)) (_ : Rd kT38 S1 w1 u54 u56 x2v.L) (_ : x2v.L.length = u55) (junk : Nat → Value),
 Goes Tg (base 63) J69 ⟨lfr 50 [(1, .i x1), (2, (pt gx2 0)), (6, .i x6), (7, .i x7), (8, .i x8), (19, .bool x19)] junk, []⟩ w1 (Done Tg 63 (Rets (Post.z1b nz wz S0 w0 Lr r)))
def LL.z1d : Int × T38 × Int × Int × Int × Bool → (Int × Int) → Prop := fun a r => ∀ {nz wz S0 w0 Lr}, L.z1d nz wz S0 w0 Lr a r
def L.z1e : Int × T38 × Int × Int × Int × Bool → (Int × Int) → Prop := fun ⟨x1, x2v, x6, x7, x8, x46⟩ r => ∀ S1 w1, Ext S0 w0 S1 w1 → ∀ gx2 u54 u55 u56 (_ : Hp nz wz S1 w1 ((some gx2, .row 39 (wT29 x2v.Op x2v.Text u54 u55 u56) 3 0) :: Lr)) (_ : Rd kT38 S1 w1 u54 u56 x2v.L) (_ : x2v.L.length = u55) (junk : Nat → Value),
 Goes Tg (base 63) J6c ⟨lfr 50 [(1, .i x1), (2, (pt gx2 0)), (6, .i x6), (7, .i x7), (8, .i x8), (46, .bool x46)] junk, []⟩ w1 (Done Tg 63 (Rets (Post.z1b nz wz S0 w0 Lr r)))
def LL.z1e : Int × T38 × Int × Int × Int × Bool → (Int × Int) → Prop := fun a r => ∀ {nz wz S0 w0 Lr}, L.z1e nz wz S0 w0 Lr a r
theorem W.z1f : (∀ a r, M.a23 a = some r → LF.z1b a r) ∧ (∀ a r, M.a24 a = some r → LL.z1c a r) ∧ (∀ a r, M.a25 a = some r → LL.z1d a r) ∧ (∀ a r, M.a4o a = some r → LL.z1e a r) := by
 refine M.a23.mutual_partial_correctness LF.z1b LL.z1c LL.z1d LL.z1e ?_ ?_ ?_ ?_
 ·
  intro u5y u5z ⟨x0, x1⟩ r h nz wz S0 w0 Lr u5 u6 u7 p0 um un
  try dsimp only at h
  subst un
  refine Zf Tryz.f63 B63 48 ?_
  refine Gj 50 [(0, (ag (wT29 x0.Op x0.Text u5 x0.L.length u7))), (1, .i x1)] fun junk => ?_
  refine Gn 2 [] (Yt 10 B63 [0, 1, 2] (Ys 11 B63 [])) ?_
  refine Ob 39 0 2 0 ((ag (wT29 x0.Op x0.Text u5 x0.L.length u7))) (wT29 x0.Op x0.Text u5 x0.L.length u7) p0 Xa fun b1 w2 z2 p2 => ?_
  refine Gm 14 [([4, 5, 6, 8], .i 0), ([7], .i 1)] (Ys 111010 B63 J65) ?_
  refine Gn 1 [] J67 ?_
  exact Gj 50 [(1, .i x1), (2, (pt b1 0)), (6, .i 0), (7, .i 1), (8, .i 0)] (u5z _ _ h _ _ z2 _ _ _ _ p2 (um.ext z2) rfl)
 ·
  intro u60 u61 ⟨x1, x2v, x6, x7, x8⟩ r h nz wz S0 w0 Lr S1 w1 hx gx2 u54 u55 u56 p1 u5j u5k junk
  try dsimp only at h
  subst u5k
  refine Gn 5 [(11, .i x8), (12, (pt gx2 2))] (Zr Q4x [2, 3, 4, 5, 6, 7, 8] J69) ?_
  refine Xc 37 12 13 37 ⟨gx2, 2, none⟩ (Sl u54 x2v.L u56) (p1.c 0 2) ?_
  refine Gm 3 [([14], .i (x2v.L.length : Int)), ([15, 16], .bool (decide (x8 < (x2v.L.length : Int))))] (Zr Q4x [6, 7, 8] J69) ?_
  refine Gi h (fun h4 h => ?_) fun h4 h => ?_
  ·
   rw [dt h4]
   refine Gm 4 [([17], .i x8), ([18, 19], .bool (decide (x8 < 5000)))] J69 ?_
   exact Gj 50 [(1, .i x1), (2, (pt gx2 0)), (6, .i x6), (7, .i x7), (8, .i x8), (19, .bool (decide (x8 < 5000)))] (u61 _ _ h _ _ hx _ _ _ _ p1 u5j rfl)
  ·
   rw [df h4]
   refine Gm 4 [([17, 18], undef), ([19], .bool false)] J69 ?_
   exact Gj 50 [(1, .i x1), (2, (pt gx2 0)), (6, .i x6), (7, .i x7), (8, .i x8), (19, .bool false)] (u61 _ _ h _ _ hx _ _ _ _ p1 u5j rfl)
 ·
  intro u62 u63 u64 u65 ⟨x1, x2v, x6, x7, x8, x19⟩ r h nz wz S0 w0 Lr S1 w1 hx gx2 u54 u55 u56 p1 u5j u5k junk
  try dsimp only at h
  subst u5k
  refine Gi h (fun h6 h => ?_) fun h6 h => ?_
  ·
   rw [h6]
   refine Gn 10 [(22, .i x1), (23, .bool (decide (x1 = 0)))] (Ys 111010010001 B63 J6i) ?_
   refine Gi h (fun h7 h => ?_) fun h7 h => ?_
   ·
    rw [dt h7]
    refine Gn 6 [(4, .i 99), (5, .i 9999)] (Ys 11101001000101 B63 J6i) ?_
    obtain rfl := sj h
    have p1 := p1.dp 0
    exact Xd Tryz.f63 (.tuple #[.i 99, .i 9999]) ⟨_, rfl, hx, p1⟩
   ·
    rw [df h7]
    refine Gn 5 [(25, (pt gx2 2))] (Zr Q52 [1, 2, 3, 4, 5, 6, 7, 8, 9, 10, 11, 12] J6l) ?_
    refine Xc 37 25 26 37 ⟨gx2, 2, none⟩ (Sl u54 x2v.L u56) (p1.c 0 2) ?_
    refine Gn 1 [(27, .i x8)] (Zr Q52 [3, 4, 5, 6, 7, 8, 9, 10, 11, 12] J6l) ?_
    refine Gg h fun g8 h => ?_
    refine Gg h fun g9 h => ?_
    refine Oi 37 26 27 28 0 39 .i64 x8 (gi x2v.L x8) rfl rfl u5j Xa g8 g9 fun a10 _ f11 q12 => ?_
    have q13 := q12
    obtain ⟨_, _, rfl, rfl, ⟨_, _, rfl, rfl, ⟨A14, c15, rfl, f16⟩⟩⟩ := kT38_open q13
    refine Xg 39 28 29 39 a10 ([.i ((gi x2v.L x8).Op)] ++ ([.string ((gi x2v.L x8).Text)] ++ [.slice A14 (((gi x2v.L x8).L).length) c15])) (f11.cell) ?_
    refine Gn 2 [(30, .i x1), (31, .i (wr .i64 (x1 - 1)))] (Zr Q52 [7, 8, 9, 10, 11, 12] J6l) ?_
    refine Gb h fun y17 e18 h => ?_
    refine Gc (kc 63 [29, 31] #[39, 3]) 32 128 63 _ (u64 (gi x2v.L x8, wr .i64 (x1 - 1)) y17 e18 _ _ _ p1 f16 rfl) ?_
    rintro _ w3 ⟨S3, rfl, z3, p3⟩
    refine Gm 14 [([24], .tuple #[.i y17.1, .i y17.2]), ([33, 9, 36], .i y17.1), ([34, 10, 39], .i y17.2), ([35], .i x6), ([37], .i (imx x6 y17.1)), ([38], .i x7), ([40], .i (wr .i64 (x7 + y17.2)))] (Yt 1110100100110 B63 [6, 7] (Ys 1110100100111 B63 J6b)) ?_
    refine Gm 8 [([6], .i (imx x6 y17.1)), ([7, 41], .i (wr .i64 (x7 + y17.2))), ([42, 43], .bool (decide (wr .i64 (x7 + y17.2) > 4096)))] (Yt 11101001001110 B63 [3, 4, 5] J6c) ?_
    refine Gi h (fun h19 h => ?_) fun h19 h => ?_
    ·
     rw [dt h19]
     refine Gm 4 [([44, 45], undef), ([46], .bool true)] J6c ?_
     exact Gj 50 [(1, .i x1), (2, (pt gx2 0)), (6, .i (imx x6 y17.1)), (7, .i (wr .i64 (x7 + y17.2))), (8, .i x8), (46, .bool true)] (u65 _ _ h _ _ (hx.t z3) _ _ _ _ p3 (u5j.ext z3) rfl)
    ·
     rw [df h19]
     refine Gm 4 [([44], .i (imx x6 y17.1)), ([45, 46], .bool (decide (imx x6 y17.1 ≥ 99)))] J6c ?_
     exact Gj 50 [(1, .i x1), (2, (pt gx2 0)), (6, .i (imx x6 y17.1)), (7, .i (wr .i64 (x7 + y17.2))), (8, .i x8), (46, .bool (decide (imx x6 y17.1 ≥ 99)))] (u65 _ _ h _ _ (hx.t z3) _ _ _ _ p3 (u5j.ext z3) rfl)
  ·
   rw [bf h6]
   refine Gm 10 [([47], .i x6), ([48, 4], .i (wr .i64 (x6 + 1))), ([49, 5], .i x7)] (Ys 11111 B63 []) ?_
   obtain rfl := sj h
   have p1 := p1.dp 0
   exact Xd Tryz.f63 (.tuple #[.i (wr .i64 (x6 + 1)), .i x7]) ⟨_, rfl, hx, p1⟩
 ·
  intro u5y u5z ⟨x1, x2v, x6, x7, x8, x46⟩ r h nz wz S0 w0 Lr S1 w1 hx gx2 u54 u55 u56 p1 u5j u5k junk
  try dsimp only at h
  subst u5k
  refine Gi h (fun h21 h => ?_) fun h21 h => ?_
  ·
   rw [h21]
   refine Gn 6 [(4, .i 99), (5, .i 9999)] (Ys 1110100100111101 B63 J6b) ?_
   obtain rfl := sj h
   have p1 := p1.dp 0
   exact Xd Tryz.f63 (.tuple #[.i 99, .i 9999]) ⟨_, rfl, hx, p1⟩
  ·
   rw [bf h21]
   refine Gm 9 [([20], .i x8), ([21, 8], .i (wr .i64 (x8 + 1)))] J67 ?_
   exact Gj 50 [(1, .i x1), (2, (pt gx2 0)), (6, .i x6), (7, .i x7), (8, .i (wr .i64 (x8 + 1)))] (u5z _ _ h _ _ hx _ _ _ _ p1 u5j rfl)
theorem W.z1b : ∀ a r, M.a23 a = some r → LF.z1b a r := (W.z1f).1
theorem W.z1c : ∀ a r, M.a24 a = some r → LL.z1c a r := (W.z1f).2.1
theorem W.z1d : ∀ a r, M.a25 a = some r → LL.z1d a r := (W.z1f).2.2.1
theorem W.z1e : ∀ a r, M.a4o a = some r → LL.z1e a r := (W.z1f).2.2.2
def J6u := Ys 1111 B64 []
def J6v := Zb 0 J6u
def J6w := Ys 1110101 B64 J6v
def Q5b := Yq 11110100 B64
def J6z := Zl Q5b (Zb 1 (Ys 11111 B64 []))
def J70 := Zc Q5b J6z
def J72 := Ys 1111010001 B64 (Ys 111101001 B64 J6z)
def J73 := Ys 11101011111 B64 J6v
def Q5k := Yq 11101010 B64
def Q5m := Yq 1110101110 B64
def Q5q := Yq 1111010000 B64
def J7m := Zb 2 (Ys 1111010011 B64 J6z)
def Q5s := Yq 11110100100 B64
def Post.z1g (r : Bool) (v : Value) (w' : World) : Prop :=
 ∃ S', v = .bool r ∧ Ext S0 w0 S' w' ∧ Hp nz wz S' w' (Lr)
def LF.z1g : T38 → Bool → Prop := fun x0 r => ∀ {nz wz S0 w0 Lr} u5 u6 u7 (_ : Hp nz wz S0 w0 (Lr)) (_ : Rd kT38 S0 w0 u5 u7 x0.L) (_ : x0.L.length = u6),
 Calls Tg 64 #[(ag (wT29 x0.Op x0.Text u5 u6 u7))] w0 (Rets (Post.z1g nz wz S0 w0 Lr r))
def L.z1h : T38 × Int × Bool → Bool → Prop := fun ⟨x1v, x6, x7⟩ r => ∀ S1 w1, Ext S0 w0 S1 w1 → ∀ gx1 u1g u1h u1i (_ : Hp nz wz S1 w1 ((some gx1, .row 39 (wT29 x1v.Op x1v.Text u1g u1h u1i) 3 0) :: Lr)) (_ : Rd kT38 S1 w1 u1g u1i x1v.L) (_ : x1v.L.length = u1h) (junk : Nat → Value),
 Goes Tg (base 64) J6w ⟨lfr 54 [(1, (pt gx1 0)), (6, .i x6), (7, .bool x7)] junk, []⟩ w1 (Done Tg 64 (Rets (Post.z1g nz wz S0 w0 Lr r)))
def LL.z1h : T38 × Int × Bool → Bool → Prop := fun a r => ∀ {nz wz S0 w0 Lr}, L.z1h nz wz S0 w0 Lr a r
def L.z1i : T38 × Bool → Bool → Prop := fun ⟨x1v, x3⟩ r => ∀ S1 w1, Ext S0 w0 S1 w1 → ∀ gx1 u1g u1h u1i (_ : Hp nz wz S1 w1 ((some gx1, .row 39 (wT29 x1v.Op x1v.Text u1g u1h u1i) 3 0) :: Lr)) (_ : Rd kT38 S1 w1 u1g u1i x1v.L) (_ : x1v.L.length = u1h) (junk : Nat → Value),
 Goes Tg (base 64) J6v ⟨lfr 54 [(1, (pt gx1 0)), (3, .bool x3)] junk, []⟩ w1 (Done Tg 64 (Rets (Post.z1g nz wz S0 w0 Lr r)))
def LL.z1i : T38 × Bool → Bool → Prop := fun a r => ∀ {nz wz S0 w0 Lr}, L.z1i nz wz S0 w0 Lr a r
def L.z1j : T38 × Bool × Int → Bool → Prop := fun ⟨x1v, x3, x4⟩ r => ∀ S1 w1, Ext S0 w0 S1 w1 → ∀ gx1 u1g u1h u1i (_ : Hp nz wz S1 w1 ((some gx1, .row 39 (wT29 x1v.Op x1v.Text u1g u1h u1i) 3 0) :: Lr)) (_ : Rd kT38 S1 w1 u1g u1i x1v.L) (_ : x1v.L.length = u1h) (junk : Nat → Value),
 Goes Tg (base 64) J70 ⟨lfr 54 [(1, (pt gx1 0)), (3, .bool x3), (4, .i x4)] junk, []⟩ w1 (Done Tg 64 (Rets (Post.z1g nz wz S0 w0 Lr r)))
def LL.z1j : T38 × Bool × Int → Bool → Prop := fun a r => ∀ {nz wz S0 w0 Lr}, L.z1j nz wz S0 w0 Lr a r
def L.z1k : T38 × Bool × Int × Bool → Bool → Prop := fun ⟨x1v, x3, x4, x44⟩ r => ∀ S1 w1, Ext S0 w0 S1 w1 → ∀ gx1 u1g u1h u1i (_ : Hp nz wz S1 w1 ((some gx1, .row 39 (wT29 x1v.Op x1v.Text u1g u1h u1i) 3 0) :: Lr)) (_ : Rd kT38 S1 w1 u1g u1i x1v.L) (_ : x1v.L.length = u1h) (junk : Nat → Value),
 Goes Tg (base 64) J72 ⟨lfr 54 [(1, (pt gx1 0)), (3, .bool x3), (4, .i x4), (44, .bool x44)] junk, []⟩ w1 (Done Tg 64 (Rets (Post.z1g nz wz S0 w0 Lr r)))
def LL.z1k : T38 × Bool × Int × Bool → Bool → Prop := fun a r => ∀ {nz wz S0 w0 Lr}, L.z1k nz wz S0 w0 Lr a r
def L.z1l : T38 × Bool → Bool → Prop := fun ⟨x1v, x31⟩ r => ∀ S1 w1, Ext S0 w0 S1 w1 → ∀ gx1 u1g u1h u1i (_ : Hp nz wz S1 w1 ((some gx1, .row 39 (wT29 x1v.Op x1v.Text u1g u1h u1i) 3 0) :: Lr)) (_ : Rd kT38 S1 w1 u1g u1i x1v.L) (_ : x1v.L.length = u1h) (junk : Nat → Value),
 Goes Tg (base 64) J73 ⟨lfr 54 [(1, (pt gx1 0)), (31, .bool x31)] junk, []⟩ w1 (Done Tg 64 (Rets (Post.z1g nz wz S0 w0 Lr r)))
def LL.z1l : T38 × Bool → Bool → Prop := fun a r => ∀ {nz wz S0 w0 Lr}, L.z1l nz wz S0 w0 Lr a r
theorem W.z1m : (∀ a r, M.a3f a = some r → LF.z1g a r) ∧ (∀ a r, M.a26 a = some r → LL.z1h a r) ∧ (∀ a r, M.a27 a = some r → LL.z1l a r) ∧ (∀ a r, M.a14 a = some r → LL.z1i a r) ∧ (∀ a r, M.a3g a = some r → LL.z1j a r) ∧ (∀ a r, M.a4p a = some r → LL.z1k a r) := by
 refine M.a3f.mutual_partial_correctness LF.z1g LL.z1h LL.z1l LL.z1i LL.z1j LL.z1k ?_ ?_ ?_ ?_ ?_ ?_
 ·
  intro u66 u67 x0 r h nz wz S0 w0 Lr u5 u6 u7 p0 um un
  try dsimp only at h
  subst un
  refine Zf Tryz.f64 B64 53 ?_
  refine Gj 54 [(0, (ag (wT29 x0.Op x0.Text u5 x0.L.length u7)))] fun junk => ?_
  refine Gn 2 [] (Yt 10 B64 [0, 1] (Ys 11 B64 [])) ?_
  refine Ob 39 0 1 0 ((ag (wT29 x0.Op x0.Text u5 x0.L.length u7))) (wT29 x0.Op x0.Text u5 x0.L.length u7) p0 Xa fun b1 w2 z2 p2 => ?_
  refine Gm 10 [([2, 3], .bool false), ([5], (pt b1 0))] (Yt 11100 B64 [1] (Ys 11101 B64 J6u)) ?_
  refine Xc 3 5 6 3 ⟨b1, 0, none⟩ (.i x0.Op) (p2.c 0 0) ?_
  refine Gm 8 [([8, 7], .bool (decide (x0.Op = 0)))] (Ys 11101001 B64 J6w) ?_
  refine Gi h (fun h3 h => ?_) fun h3 h => ?_
  ·
   rw [dt h3]
   refine Gn 2 [] J6w ?_
   exact Gj 54 [(1, (pt b1 0)), (6, .i x0.Op), (7, .bool true)] (u67 _ _ h _ _ z2 _ _ _ _ p2 (um.ext z2) rfl)
  ·
   rw [df h3]
   refine Gm 5 [([9, 7], .bool (decide (x0.Op = 1)))] J6w ?_
   exact Gj 54 [(1, (pt b1 0)), (6, .i x0.Op), (7, .bool (decide (x0.Op = 1)))] (u67 _ _ h _ _ z2 _ _ _ _ p2 (um.ext z2) rfl)
 ·
  intro u68 u69 u6a u6b ⟨x1v, x6, x7⟩ r h nz wz S0 w0 Lr S1 w1 hx gx1 u1g u1h u1i p1 u1n u1o junk
  try dsimp only at h
  subst u1o
  refine Gi h (fun h5 h => ?_) fun h5 h => ?_
  ·
   rw [h5]
   refine Gn 3 [(10, (pt gx1 1))] (Zr Q5k [1, 2, 3, 4, 5, 6, 7, 8, 9] J6v) ?_
   refine Xc 9 10 11 9 ⟨gx1, 1, none⟩ (.string x1v.Text) (p1.c 0 1) ?_
   refine Gm 2 [([12, 13], .bool (x1v.Text.toList == bE.toList))] (Zr Q5k [4, 5, 6, 7, 8, 9] J6v) ?_
   refine Gi h (fun h6 h => ?_) fun h6 h => ?_
   ·
    rw [h6]
    refine Gn 1 [(14, (pt gx1 2))] (Zr Q5k [5, 6, 7, 8, 9] J6v) ?_
    refine Xc 37 14 15 37 ⟨gx1, 2, none⟩ (Sl u1g x1v.L u1i) (p1.c 0 2) ?_
    refine Gm 5 [([16], .i (x1v.L.length : Int)), ([17, 18, 3], .bool (decide ((x1v.L.length : Int) = 0)))] J6v ?_
    exact Gj 54 [(1, (pt gx1 0)), (3, .bool (decide ((x1v.L.length : Int) = 0)))] (u6b _ _ h _ _ hx _ _ _ _ p1 u1n rfl)
   ·
    rw [bf h6]
    refine Gm 7 [([14, 15, 16, 17], undef), ([18, 3], .bool false)] J6v ?_
    exact Gj 54 [(1, (pt gx1 0)), (3, .bool false)] (u6b _ _ h _ _ hx _ _ _ _ p1 u1n rfl)
  ·
   rw [bf h5]
   refine Gm 6 [([20, 19], .bool (decide (x6 = 2)))] (Ys 111010111 B64 J6v) ?_
   refine Gi h (fun h8 h => ?_) fun h8 h => ?_
   ·
    rw [dt h8]
    refine Gn 3 [(21, (pt gx1 1))] (Zr Q5m [1, 2, 3, 4, 5, 6, 7, 8, 9, 10] J6v) ?_
    refine Xc 9 21 22 9 ⟨gx1, 1, none⟩ (.string x1v.Text) (p1.c 0 1) ?_
    refine Gm 3 [([23], .i (x1v.Text.size : Int)), ([24, 25], .bool (decide ((x1v.Text.size : Int) = 3)))] (Zr Q5m [5, 6, 7, 8, 9, 10] J6v) ?_
    refine Gi h (fun h9 h => ?_) fun h9 h => ?_
    ·
     rw [dt h9]
     refine Gn 1 [(26, (pt gx1 2))] (Zr Q5m [6, 7, 8, 9, 10] J6v) ?_
     refine Xc 37 26 27 37 ⟨gx1, 2, none⟩ (Sl u1g x1v.L u1i) (p1.c 0 2) ?_
     refine Gm 5 [([28], .i (x1v.L.length : Int)), ([29, 30, 3], .bool (decide ((x1v.L.length : Int) = 0)))] J6v ?_
     exact Gj 54 [(1, (pt gx1 0)), (3, .bool (decide ((x1v.L.length : Int) = 0)))] (u6b _ _ h _ _ hx _ _ _ _ p1 u1n rfl)
    ·
     rw [df h9]
     refine Gm 7 [([26, 27, 28, 29], undef), ([30, 3], .bool false)] J6v ?_
     exact Gj 54 [(1, (pt gx1 0)), (3, .bool false)] (u6b _ _ h _ _ hx _ _ _ _ p1 u1n rfl)
   ·
    rw [df h8]
    refine Gm 7 [([32, 31], .bool (decide (x6 = 3)))] (Ys 111010111101 B64 J73) ?_
    refine Gi h (fun h10 h => ?_) fun h10 h => ?_
    ·
     rw [dt h10]
     refine Gn 2 [] J73 ?_
     exact Gj 54 [(1, (pt gx1 0)), (31, .bool true)] (u6a _ _ h _ _ hx _ _ _ _ p1 u1n rfl)
    ·
     rw [df h10]
     refine Gm 5 [([33, 31], .bool (decide (x6 = 4)))] J73 ?_
     exact Gj 54 [(1, (pt gx1 0)), (31, .bool (decide (x6 = 4)))] (u6a _ _ h _ _ hx _ _ _ _ p1 u1n rfl)
 ·
  intro u69 u6b ⟨x1v, x31⟩ r h nz wz S0 w0 Lr S1 w1 hx gx1 u1g u1h u1i p1 u1n u1o junk
  try dsimp only at h
  subst u1o
  refine Gi h (fun h13 h => ?_) fun h13 h => ?_
  ·
   rw [h13]
   refine Gn 3 [(34, (pt gx1 1))] (Yt 111010111110 B64 [1, 2, 3] J6v) ?_
   refine Xc 9 34 35 9 ⟨gx1, 1, none⟩ (.string x1v.Text) (p1.c 0 1) ?_
   refine Gm 3 [([36, 3], .bool (x1v.Text.toList == bE.toList))] J6v ?_
   exact Gj 54 [(1, (pt gx1 0)), (3, .bool (x1v.Text.toList == bE.toList))] (u6b _ _ h _ _ hx _ _ _ _ p1 u1n rfl)
  ·
   rw [bf h13]
   refine Gn 5 [(2, .bool false)] (Ys 1110101111111 B64 J6v) ?_
   obtain rfl := sj h
   have p1 := p1.dp 0
   exact Xd Tryz.f64 (.bool false) ⟨_, rfl, hx, p1⟩
 ·
  intro u6c u6d ⟨x1v, x3⟩ r h nz wz S0 w0 Lr S1 w1 hx gx1 u1g u1h u1i p1 u1n u1o junk
  try dsimp only at h
  subst u1o
  refine Gn 8 [(4, .i 0)] J70 ?_
  exact Gj 54 [(1, (pt gx1 0)), (3, .bool x3), (4, .i 0)] (u6d _ _ h _ _ hx _ _ _ _ p1 u1n rfl)
 ·
  intro u6e u6f ⟨x1v, x3, x4⟩ r h nz wz S0 w0 Lr S1 w1 hx gx1 u1g u1h u1i p1 u1n u1o junk
  try dsimp only at h
  subst u1o
  refine Gn 5 [(37, .i x4), (38, (pt gx1 2))] (Zr Q5q [2, 3, 4, 5, 6, 7] J72) ?_
  refine Xc 37 38 39 37 ⟨gx1, 2, none⟩ (Sl u1g x1v.L u1i) (p1.c 0 2) ?_
  refine Gm 3 [([40], .i (x1v.L.length : Int)), ([41, 42], .bool (decide (x4 < (x1v.L.length : Int))))] (Zr Q5q [6, 7] J72) ?_
  refine Gi h (fun h14 h => ?_) fun h14 h => ?_
  ·
   rw [dt h14]
   refine Gm 3 [([43, 44], .bool x3)] J72 ?_
   exact Gj 54 [(1, (pt gx1 0)), (3, .bool x3), (4, .i x4), (44, .bool x3)] (u6f _ _ h _ _ hx _ _ _ _ p1 u1n rfl)
  ·
   rw [df h14]
   refine Gn 3 [(43, undef), (44, .bool false)] J72 ?_
   exact Gj 54 [(1, (pt gx1 0)), (3, .bool x3), (4, .i x4), (44, .bool false)] (u6f _ _ h _ _ hx _ _ _ _ p1 u1n rfl)
 ·
  intro u6g u6c u6h u6d ⟨x1v, x3, x4, x44⟩ r h nz wz S0 w0 Lr S1 w1 hx gx1 u1g u1h u1i p1 u1n u1o junk
  try dsimp only at h
  subst u1o
  refine Gi h (fun h16 h => ?_) fun h16 h => ?_
  ·
   rw [h16]
   refine Gn 6 [(47, (pt gx1 2))] (Zr Q5s [1, 2, 3, 4, 5, 6] J7m) ?_
   refine Xc 37 47 48 37 ⟨gx1, 2, none⟩ (Sl u1g x1v.L u1i) (p1.c 0 2) ?_
   refine Gn 1 [(49, .i x4)] (Zr Q5s [3, 4, 5, 6] J7m) ?_
   refine Gg h fun g17 h => ?_
   refine Gg h fun g18 h => ?_
   refine Oi 37 48 49 50 0 39 .i64 x4 (gi x1v.L x4) rfl rfl u1n Xa g17 g18 fun a19 _ f20 q21 => ?_
   have q22 := q21
   obtain ⟨_, _, rfl, rfl, ⟨_, _, rfl, rfl, ⟨A23, c24, rfl, f25⟩⟩⟩ := kT38_open q22
   refine Xg 39 50 51 39 a19 ([.i ((gi x1v.L x4).Op)] ++ ([.string ((gi x1v.L x4).Text)] ++ [.slice A23 (((gi x1v.L x4).L).length) c24])) (f20.cell) ?_
   refine Gb h fun y26 e27 h => ?_
   refine Gc (kc 64 [51] #[39]) 52 4 64 _ (u6h (gi x1v.L x4) y26 e27 _ _ _ p1 f25 rfl) ?_
   rintro _ w3 ⟨S3, rfl, z3, p3⟩
   refine Gm 9 [([3], .bool y26), ([45], .i x4), ([46, 4], .i (wr .i64 (x4 + 1)))] J70 ?_
   exact Gj 54 [(1, (pt gx1 0)), (3, .bool y26), (4, .i (wr .i64 (x4 + 1)))] (u6d _ _ h _ _ (hx.t z3) _ _ _ _ p3 (u1n.ext z3) rfl)
  ·
   rw [bf h16]
   refine Gm 7 [([53, 2], .bool x3)] (Ys 111111 B64 []) ?_
   obtain rfl := sj h
   have p1 := p1.dp 0
   exact Xd Tryz.f64 (.bool x3) ⟨_, rfl, hx, p1⟩
theorem W.z1g : ∀ a r, M.a3f a = some r → LF.z1g a r := (W.z1m).1
theorem W.z1h : ∀ a r, M.a26 a = some r → LL.z1h a r := (W.z1m).2.1
theorem W.z1l : ∀ a r, M.a27 a = some r → LL.z1l a r := (W.z1m).2.2.1
theorem W.z1i : ∀ a r, M.a14 a = some r → LL.z1i a r := (W.z1m).2.2.2.1
theorem W.z1j : ∀ a r, M.a3g a = some r → LL.z1j a r := (W.z1m).2.2.2.2.1
theorem W.z1k : ∀ a r, M.a4p a = some r → LL.z1k a r := (W.z1m).2.2.2.2.2
def J7s := Ys 111 B21 []
def J7v := Ys 11011 B21 J7s
def Q60 := Yq 11010 B21
def J7x := Ys 1101101 B21 J7s
def Post.z1n (r : Int) (v : Value) (w' : World) : Prop :=
 ∃ S', v = .i r ∧ Ext S0 w0 S' w' ∧ Hp nz wz S' w' (Lr)
theorem W.z1n (x0 : T38) (r : Int) (h : M.a4q x0 = some r) {nz wz S0 w0 Lr} (u5 u6 u7) (p0 : Hp nz wz S0 w0 (Lr)) (um : Rd kT38 S0 w0 u5 u7 x0.L) (un : x0.L.length = u6) :
  Calls Tg 21 #[(ag (wT29 x0.Op x0.Text u5 u6 u7))] w0 (Rets (Post.z1n nz wz S0 w0 Lr r)) := by
 subst un
 refine Zf Tryz.f21 B21 20 ?_
 refine Gj 21 [(0, (ag (wT29 x0.Op x0.Text u5 x0.L.length u7)))] fun junk => ?_
 delta M.a4q at h
 refine Gn 2 [] (Yt 10 B21 [0, 1] (Ys 11 B21 [])) ?_
 refine Ob 39 0 1 0 ((ag (wT29 x0.Op x0.Text u5 x0.L.length u7))) (wT29 x0.Op x0.Text u5 x0.L.length u7) p0 Xa fun b1 w2 z2 p2 => ?_
 refine Gn 5 [(2, .i 0)] (Yt 1100 B21 [0, 1, 2, 3, 4, 5, 6] (Ys 1101 B21 J7s)) ?_
 refine Xg 39 1 6 39 ⟨b1, 0, none⟩ (wT29 x0.Op x0.Text u5 x0.L.length u7) (p2.pa 0 0) ?_
 refine Gb h fun y3 e4 h => ?_
 refine Gc (.call { callee := .value (.func 63), args := #[6, (.const (.int .i64 8))], argTypes := #[39, 3] }) 7 128 63 _ (W.z1b (x0, 8) y3 e4 _ _ _ p2 (um.ext z2) rfl) ?_
 rintro _ w3 ⟨S3, rfl, z3, p3⟩
 refine Gm 11 [([5], .tuple #[.i y3.1, .i y3.2]), ([8, 3, 10], .i y3.1), ([9, 4], .i y3.2), ([11, 12], .bool (decide (y3.1 > 8)))] (Zr Q60 [3, 4, 5, 6, 7, 8, 9, 10] J7v) ?_
 refine Gi h (fun h5 h => ?_) fun h5 h => ?_
 ·
  rw [dt h5]
  refine Gm 14 [([13, 14, 17, 18, 19], undef), ([15, 16, 20], .bool true), ([2], .i 2)] J7x ?_
  obtain rfl := sj h
  have p3 := p3.dp 0
  exact Xd Tryz.f21 (.i 2) ⟨_, rfl, (z2.t z3), p3⟩
 ·
  rw [df h5]
  refine Gm 4 [([13], .i y3.2), ([14, 15, 16], .bool (decide (y3.2 > 4096)))] (Zr Q60 [7, 8, 9, 10] J7v) ?_
  refine Gi h (fun h6 h => ?_) fun h6 h => ?_
  ·
   rw [dt h6]
   refine Gm 10 [([17, 18, 19], undef), ([20], .bool true), ([2], .i 2)] J7x ?_
   obtain rfl := sj h
   have p3 := p3.dp 0
   exact Xd Tryz.f21 (.i 2) ⟨_, rfl, (z2.t z3), p3⟩
  ·
   rw [df h6]
   refine Xg 39 1 17 39 ⟨b1, 0, none⟩ (wT29 x0.Op x0.Text u5 x0.L.length u7) (p3.pa 0 0) ?_
   refine Gb h fun y7 e8 h => ?_
   refine Gc (kc 64 [17] #[39]) 18 4 64 _ (W.z1g x0 y7 e8 _ _ _ p3 (um.ext (z2.t z3)) rfl) ?_
   rintro _ w4 ⟨S4, rfl, z4, p4⟩
   have p4 := p4.dp 0
   refine Gm 3 [([19, 20], .bool (!y7))] J7v ?_
   refine Gi h (fun h9 h => ?_) fun h9 h => ?_
   ·
    rw [h9]
    refine Gn 6 [(2, .i 0)] (Ys 1111 B21 []) ?_
    obtain rfl := sj h
    exact Xd Tryz.f21 (.i 0) ⟨_, rfl, ((z2.t z3).t z4), p4⟩
   ·
    rw [bf h9]
    refine Gn 5 [(2, .i 2)] J7x ?_
    obtain rfl := sj h
    exact Xd Tryz.f21 (.i 2) ⟨_, rfl, ((z2.t z3).t z4), p4⟩
def Q64 := Yq 1110100 B60
def J82 := Zl Q64 (Zb 0 (Ys 1111 B60 []))
def J83 := Zc Q64 J82
def J85 := Zb 1 (Ys 111010011 B60 J82)
def Q67 := Yq 11101001001000 B60
def J88 := Zl Q67 (Zb 2 (Ys 111010010011 B60 J85))
def J89 := Zc Q67 J88
def J8b := Ys 1110100100100001 B60 (Ys 111010010010001 B60 J88)
def J8c := Ys 1110100100111 B60 J85
def J8d := Ys 11101001001101 B60 J8c
def Post.z1o (r : List ByteArray) (v : Value) (w' : World) : Prop :=
 ∃ S' Gq nq cq csq, v = .slice (Gp Gq) nq cq ∧ Ext S0 w0 S' w' ∧ Hp nz wz S' w' ((Gq, .row 9 csq (cq * kStr.size) 0) :: Lr) ∧ Els kStr S' w' csq r ∧ r.length = nq
def L.z1p : (List ByteArray) × (List ByteArray) × Int → (List ByteArray) → Prop := fun ⟨x0, x3, x4⟩ r => ∀ S1 w1, Ext S0 w0 S1 w1 → ∀ Ax0 nx0 cx0 Gx3 nx3 cx3 u6j (_ : Hp nz wz S1 w1 ((Gx3, .row 9 u6j (cx3 * kStr.size) 0) :: Lr)) (_ : Rd kStr S1 w1 Ax0 cx0 x0) (_ : x0.length = nx0) (_ : Els kStr S1 w1 u6j x3) (_ : x3.length = nx3) (junk : Nat → Value),
 Goes Tg (base 60) J83 ⟨lfr 59 [(0, .slice Ax0 nx0 cx0), (3, .slice (Gp Gx3) nx3 cx3), (4, .i x4)] junk, []⟩ w1 (Done Tg 60 (Rets (Post.z1o nz wz S0 w0 Lr r)))
def L.z1q : (List ByteArray) × (List ByteArray) × Int × Int → (List ByteArray) → Prop := fun ⟨x0, x3, x4, x5⟩ r => ∀ S1 w1, Ext S0 w0 S1 w1 → ∀ Ax0 nx0 cx0 Gx3 nx3 cx3 u6j (_ : Hp nz wz S1 w1 ((Gx3, .row 9 u6j (cx3 * kStr.size) 0) :: Lr)) (_ : Rd kStr S1 w1 Ax0 cx0 x0) (_ : x0.length = nx0) (_ : Els kStr S1 w1 u6j x3) (_ : x3.length = nx3) (junk : Nat → Value),
 Goes Tg (base 60) J89 ⟨lfr 59 [(0, .slice Ax0 nx0 cx0), (3, .slice (Gp Gx3) nx3 cx3), (4, .i x4), (5, .i x5)] junk, []⟩ w1 (Done Tg 60 (Rets (Post.z1o nz wz S0 w0 Lr r)))
def L.z1r : (List ByteArray) × (List ByteArray) × Int × Int × Bool → (List ByteArray) → Prop := fun ⟨x0, x3, x4, x5, x27⟩ r => ∀ S1 w1, Ext S0 w0 S1 w1 → ∀ Ax0 nx0 cx0 Gx3 nx3 cx3 u6j (_ : Hp nz wz S1 w1 ((Gx3, .row 9 u6j (cx3 * kStr.size) 0) :: Lr)) (_ : Rd kStr S1 w1 Ax0 cx0 x0) (_ : x0.length = nx0) (_ : Els kStr S1 w1 u6j x3) (_ : x3.length = nx3) (junk : Nat → Value),
 Goes Tg (base 60) J8b ⟨lfr 59 [(0, .slice Ax0 nx0 cx0), (3, .slice (Gp Gx3) nx3 cx3), (4, .i x4), (5, .i x5), (27, .bool x27)] junk, []⟩ w1 (Done Tg 60 (Rets (Post.z1o nz wz S0 w0 Lr r)))
def L.z1s : (List ByteArray) × (List ByteArray) × Int × Int × Bool → (List ByteArray) → Prop := fun ⟨x0, x3, x4, x5, x44⟩ r => ∀ S1 w1, Ext S0 w0 S1 w1 → ∀ Ax0 nx0 cx0 Gx3 nx3 cx3 u6j (_ : Hp nz wz S1 w1 ((Gx3, .row 9 u6j (cx3 * kStr.size) 0) :: Lr)) (_ : Rd kStr S1 w1 Ax0 cx0 x0) (_ : x0.length = nx0) (_ : Els kStr S1 w1 u6j x3) (_ : x3.length = nx3) (junk : Nat → Value),
 Goes Tg (base 60) J8d ⟨lfr 59 [(0, .slice Ax0 nx0 cx0), (3, .slice (Gp Gx3) nx3 cx3), (4, .i x4), (5, .i x5), (44, .bool x44)] junk, []⟩ w1 (Done Tg 60 (Rets (Post.z1o nz wz S0 w0 Lr r)))
theorem W.z1t {nz wz S0 w0 Lr} : (∀ a r, M.ab a = some r → (L.z1p nz wz S0 w0 Lr) a r) ∧ (∀ a r, M.a3h a = some r → (L.z1q nz wz S0 w0 Lr) a r) ∧ (∀ a r, M.a4r a = some r → (L.z1r nz wz S0 w0 Lr) a r) ∧ (∀ a r, M.a3i a = some r → (L.z1s nz wz S0 w0 Lr) a r) := by
 refine M.ab.mutual_partial_correctness (L.z1p nz wz S0 w0 Lr) (L.z1q nz wz S0 w0 Lr) (L.z1r nz wz S0 w0 Lr) (L.z1s nz wz S0 w0 Lr) ?_ ?_ ?_ ?_
 ·
  intro u6k u6l ⟨x0, x3, x4⟩ r h S1 w1 hx Ax0 nx0 cx0 Gx3 nx3 cx3 u6j p1 fx0 lx0 fx3 lx3 junk
  try dsimp only at h
  subst lx0
  subst lx3
  refine Gn 8 [(7, .i x4), (8, Sl Ax0 x0 cx0), (9, .i (x0.length : Int)), (10, .bool (decide (x4 < (x0.length : Int))))] (Ys 111010001 B60 (Ys 11101001 B60 J82)) ?_
  refine Gi h (fun h5 h => ?_) fun h5 h => ?_
  ·
   rw [dt h5]
   refine Gn 11 [(5, .i 0)] J89 ?_
   exact Gj 59 [(0, Sl Ax0 x0 cx0), (3, Sl (Gp Gx3) x3 cx3), (4, .i x4), (5, .i 0)] (u6l _ _ h _ _ hx _ _ _ _ _ _ _ p1 fx0 rfl fx3 rfl)
  ·
   rw [df h5]
   refine Gm 7 [([58, 2], Sl (Gp Gx3) x3 cx3)] (Ys 11111 B60 []) ?_
   obtain rfl := sj h
   exact Xd Tryz.f60 (Sl (Gp Gx3) x3 cx3) ⟨_, _, _, _, _, rfl, hx, p1, fx3, rfl⟩
 ·
  intro u6m u6n ⟨x0, x3, x4, x5⟩ r h S1 w1 hx Ax0 nx0 cx0 Gx3 nx3 cx3 u6j p1 fx0 lx0 fx3 lx3 junk
  try dsimp only at h
  subst lx0
  subst lx3
  refine Gn 2 [] (Ys 1110100100100000 B60 J8b) ?_
  have z3 : Ext S1 w1 S1 (w1).drew := Xk
  have p3 := p1.draw
  refine Gd [] (Fc S1 (w1).drew ([] ++ (rowCellsO Gx3 u6j ++ []))) 6 15 ?_
  generalize (w1).drew = w3 at z3 p3 ⊢
  refine Xb 0 (.move 5) 13 3 (.i x5) (p3.ro 0 rfl) ?_
  refine Xb 1 (.move 3) 14 43 (Sl (Gp Gx3) x3 cx3) (p3.ro 0 rfl) ?_
  refine Xb 2 (.call { callee := .builtin .len, args := #[14], argTypes := #[43] }) 15 3 (.i (x3.length : Int)) (p3.ro 0 rfl) ?_
  refine Xb 3 (.binOp .lss 3 13 15 3) 16 4 (.bool (decide (x5 < (x3.length : Int)))) (p3.ro 0 rfl) ?_
  refine Xb 4 (.move 16) 17 4 (.bool (decide (x5 < (x3.length : Int)))) (p3.ro 0 rfl) ?_
  refine Gi h (fun h7 h => ?_) fun h7 h => ?_
  ·
   rw [dt h7]
   refine Xb 5 (.move 3) 18 43 (Sl (Gp Gx3) x3 cx3) (p3.ro 0 rfl) ?_
   refine Xb 6 (.move 5) 19 3 (.i x5) (p3.ro 0 rfl) ?_
   refine Gg h fun g8 h => ?_
   refine AnyG.ixO_n (i := 7) 43 18 19 20 0 9 .i64 x5 0 x3.length cx3 (gi x3 x5) rfl rfl p3 rfl (fx3.ext z3) (by kernel_rfl) (by kernel_rfl) (p3.ro 0 rfl) (by kernel_rfl) (by kernel_rfl) (by kernel_rfl) (by kernel_rfl) (by decide) g8 h7 ?_
   rintro b9 _ rfl q11 f13 f10
   obtain rfl := q11
   refine Al 8 9 20 21 9 ⟨b9, (x5 : Int).toNat * kStr.size, none⟩ (.string (gi x3 x5)) (p3.ro 0 rfl) (fun _ h => h.2.right.left.rowAt (f13 0 _ rfl)) ?_
   refine Xb 9 (.move 0) 22 43 (Sl Ax0 x0 cx0) (p3.ro 0 rfl) ?_
   refine Xb 10 (.move 4) 23 3 (.i x4) (p3.ro 0 rfl) ?_
   refine Gg h fun g14 h => ?_
   refine Gg h fun g15 h => ?_
   refine Xn (i := 11) 43 22 23 24 0 9 .i64 x4 (gi x0 x4) rfl rfl (fx0.ext z3) (by kernel_rfl) (by kernel_rfl) (p3.ro 0 rfl) (by kernel_rfl) (by kernel_rfl) (by kernel_rfl) (by kernel_rfl) g14 g15 fun a16 _ f17 q18 => ?_
   obtain rfl := q18
   refine Al 12 9 24 25 9 a16 (.string (gi x0 x4)) (p3.ro 0 rfl) (fun _ h => f17.fc h 0 _ rfl) ?_
   refine Xb 13 (.binOp .lss 9 21 25 9) 26 4 (.bool (Op.bytesLess (gi x3 x5).toList (gi x0 x4).toList)) (p3.ro 0 rfl) ?_
   refine Xb 14 (.pick 17 26 (.const (.bool false))) 27 4 (.bool (Op.bytesLess (gi x3 x5).toList (gi x0 x4).toList)) (p3.ro 0 rfl) ?_
   refine Ad ?_
   exact Gj 59 [(0, Sl Ax0 x0 cx0), (3, .slice (Gp (some b9)) x3.length cx3), (4, .i x4), (5, .i x5), (27, .bool (Op.bytesLess (gi x3 x5).toList (gi x0 x4).toList))] (u6n _ _ h _ _ (hx.t z3) _ _ _ (some b9) _ _ _ p3 (fx0.ext z3) rfl (fx3.ext z3) rfl)
  ·
   rw [df h7]
   refine Xf 5 18 (p3.ro 0 rfl) ?_
   refine Xf 6 19 (p3.ro 0 rfl) ?_
   refine Xf 7 20 (p3.ro 0 rfl) ?_
   refine Xf 8 21 (p3.ro 0 rfl) ?_
   refine Xf 9 22 (p3.ro 0 rfl) ?_
   refine Xf 10 23 (p3.ro 0 rfl) ?_
   refine Xf 11 24 (p3.ro 0 rfl) ?_
   refine Xf 12 25 (p3.ro 0 rfl) ?_
   refine Xf 13 26 (p3.ro 0 rfl) ?_
   refine Xb 14 (.pick 17 26 (.const (.bool false))) 27 4 (.bool false) (p3.ro 0 rfl) ?_
   refine Ad ?_
   exact Gj 59 [(0, Sl Ax0 x0 cx0), (3, Sl (Gp Gx3) x3 cx3), (4, .i x4), (5, .i x5), (27, .bool false)] (u6n _ _ h _ _ (hx.t z3) _ _ _ _ _ _ _ p3 (fx0.ext z3) rfl (fx3.ext z3) rfl)
 ·
  intro u6k u6o u6l u6p ⟨x0, x3, x4, x5, x27⟩ r h S1 w1 hx Ax0 nx0 cx0 Gx3 nx3 cx3 u6j p1 fx0 lx0 fx3 lx3 junk
  try dsimp only at h
  subst lx0
  subst lx3
  refine Gi h (fun h20 h => ?_) fun h20 h => ?_
  ·
   rw [h20]
   refine Gm 10 [([28], .i x5), ([29, 5], .i (wr .i64 (x5 + 1)))] J89 ?_
   exact Gj 59 [(0, Sl Ax0 x0 cx0), (3, Sl (Gp Gx3) x3 cx3), (4, .i x4), (5, .i (wr .i64 (x5 + 1)))] (u6l _ _ h _ _ hx _ _ _ _ _ _ _ p1 fx0 rfl fx3 rfl)
  ·
   rw [bf h20]
   refine Gn 4 [] (Ys 11101001001100 B60 J8d) ?_
   have z4 : Ext S1 w1 S1 (w1).drew := Xk
   have p4 := p1.draw
   refine Gd [] (Fc S1 (w1).drew ([] ++ (rowCellsO Gx3 u6j ++ []))) 8 15 ?_
   generalize (w1).drew = w4 at z4 p4 ⊢
   refine Xb 0 (.move 5) 30 3 (.i x5) (p4.ro 0 rfl) ?_
   refine Xb 1 (.move 3) 31 43 (Sl (Gp Gx3) x3 cx3) (p4.ro 0 rfl) ?_
   refine Xb 2 (.call { callee := .builtin .len, args := #[31], argTypes := #[43] }) 32 3 (.i (x3.length : Int)) (p4.ro 0 rfl) ?_
   refine Xb 3 (.binOp .lss 3 30 32 3) 33 4 (.bool (decide (x5 < (x3.length : Int)))) (p4.ro 0 rfl) ?_
   refine Xb 4 (.move 33) 34 4 (.bool (decide (x5 < (x3.length : Int)))) (p4.ro 0 rfl) ?_
   refine Gi h (fun h21 h => ?_) fun h21 h => ?_
   ·
    rw [dt h21]
    refine Xb 5 (.move 3) 35 43 (Sl (Gp Gx3) x3 cx3) (p4.ro 0 rfl) ?_
    refine Xb 6 (.move 5) 36 3 (.i x5) (p4.ro 0 rfl) ?_
    refine Gg h fun g22 h => ?_
    refine AnyG.ixO_n (i := 7) 43 35 36 37 0 9 .i64 x5 0 x3.length cx3 (gi x3 x5) rfl rfl p4 rfl (fx3.ext z4) (by kernel_rfl) (by kernel_rfl) (p4.ro 0 rfl) (by kernel_rfl) (by kernel_rfl) (by kernel_rfl) (by kernel_rfl) (by decide) g22 h21 ?_
    rintro b23 _ rfl q25 f27 f24
    obtain rfl := q25
    refine Al 8 9 37 38 9 ⟨b23, (x5 : Int).toNat * kStr.size, none⟩ (.string (gi x3 x5)) (p4.ro 0 rfl) (fun _ h => h.2.right.left.rowAt (f27 0 _ rfl)) ?_
    refine Xb 9 (.move 0) 39 43 (Sl Ax0 x0 cx0) (p4.ro 0 rfl) ?_
    refine Xb 10 (.move 4) 40 3 (.i x4) (p4.ro 0 rfl) ?_
    refine Gg h fun g28 h => ?_
    refine Gg h fun g29 h => ?_
    refine Xn (i := 11) 43 39 40 41 0 9 .i64 x4 (gi x0 x4) rfl rfl (fx0.ext z4) (by kernel_rfl) (by kernel_rfl) (p4.ro 0 rfl) (by kernel_rfl) (by kernel_rfl) (by kernel_rfl) (by kernel_rfl) g28 g29 fun a30 _ f31 q32 => ?_
    obtain rfl := q32
    refine Al 12 9 41 42 9 a30 (.string (gi x0 x4)) (p4.ro 0 rfl) (fun _ h => f31.fc h 0 _ rfl) ?_
    refine Xb 13 (.binOp .eql 9 38 42 9) 43 4 (.bool ((gi x3 x5).toList == (gi x0 x4).toList)) (p4.ro 0 rfl) ?_
    refine Xb 14 (.pick 34 43 (.const (.bool false))) 44 4 (.bool ((gi x3 x5).toList == (gi x0 x4).toList)) (p4.ro 0 rfl) ?_
    refine Ad ?_
    exact Gj 59 [(0, Sl Ax0 x0 cx0), (3, .slice (Gp (some b23)) x3.length cx3), (4, .i x4), (5, .i x5), (44, .bool ((gi x3 x5).toList == (gi x0 x4).toList))] (u6p _ _ h _ _ (hx.t z4) _ _ _ (some b23) _ _ _ p4 (fx0.ext z4) rfl (fx3.ext z4) rfl)
   ·
    rw [df h21]
    refine Xf 5 35 (p4.ro 0 rfl) ?_
    refine Xf 6 36 (p4.ro 0 rfl) ?_
    refine Xf 7 37 (p4.ro 0 rfl) ?_
    refine Xf 8 38 (p4.ro 0 rfl) ?_
    refine Xf 9 39 (p4.ro 0 rfl) ?_
    refine Xf 10 40 (p4.ro 0 rfl) ?_
    refine Xf 11 41 (p4.ro 0 rfl) ?_
    refine Xf 12 42 (p4.ro 0 rfl) ?_
    refine Xf 13 43 (p4.ro 0 rfl) ?_
    refine Xb 14 (.pick 34 43 (.const (.bool false))) 44 4 (.bool false) (p4.ro 0 rfl) ?_
    refine Ad ?_
    exact Gj 59 [(0, Sl Ax0 x0 cx0), (3, Sl (Gp Gx3) x3 cx3), (4, .i x4), (5, .i x5), (44, .bool false)] (u6p _ _ h _ _ (hx.t z4) _ _ _ _ _ _ _ p4 (fx0.ext z4) rfl (fx3.ext z4) rfl)
 ·
  intro u6q u6r ⟨x0, x3, x4, x5, x44⟩ r h S1 w1 hx Ax0 nx0 cx0 Gx3 nx3 cx3 u6j p1 fx0 lx0 fx3 lx3 junk
  try dsimp only at h
  subst lx0
  subst lx3
  refine Gi h (fun h34 h => ?_) fun h34 h => ?_
  ·
   rw [h34]
   refine Gm 8 [([11], .i x4), ([12, 4], .i (wr .i64 (x4 + 1)))] J83 ?_
   exact Gj 59 [(0, Sl Ax0 x0 cx0), (3, Sl (Gp Gx3) x3 cx3), (4, .i (wr .i64 (x4 + 1)))] (u6r _ _ h _ _ hx _ _ _ _ _ _ _ p1 fx0 rfl fx3 rfl)
  ·
   rw [bf h34]
   refine Gn 2 [] J8c ?_
   have z5 : Ext S1 w1 S1 (w1).drew := Xk
   have p5 := p1.draw
   refine Gd [12] (Fc S1 (w1).drew []) 9 14 ?_
   generalize (w1).drew = w5 at z5 p5 ⊢
   refine Xb 0 (.move 3) 45 43 (Sl (Gp Gx3) x3 cx3) Fc0 ?_
   refine Xb 1 (.move 5) 46 3 (.i x5) Fc0 ?_
   refine Gg h fun g35 h => ?_
   refine Gg h fun g36 h => ?_
   refine AnyG.slP (K := kStr) (i := 2) 43 45 (some 46) 47 43 9 x5 0 rfl p5 rfl (by decide) (fx3.ext z5) (by kernel_rfl) (by kernel_rfl) Fc0 (by kernel_rfl) (by kernel_rfl) (by kernel_rfl) (Xt .i64 (by kernel_rfl)) g35 g36 ?_
   refine Xb 3 (.move 0) 48 43 (Sl Ax0 x0 cx0) Fc0 ?_
   refine Xb 4 (.move 4) 49 3 (.i x4) Fc0 ?_
   refine Gg h fun g37 h => ?_
   refine Gg h fun g38 h => ?_
   refine Xn (i := 5) 43 48 49 50 0 9 .i64 x4 (gi x0 x4) rfl rfl (fx0.ext z5) (by kernel_rfl) (by kernel_rfl) Fc0 (by kernel_rfl) (by kernel_rfl) (by kernel_rfl) (by kernel_rfl) g37 g38 fun a39 _ f40 q41 => ?_
   obtain rfl := q41
   refine Al 6 9 50 51 9 a39 (.string (gi x0 x4)) Fc0 (fun _ h => f40.fc h 0 _ rfl) ?_
   refine Xb 8 (.move 3) 53 43 (Sl (Gp Gx3) x3 cx3) Fc0 ?_
   refine Xb 9 (.move 5) 54 3 (.i x5) Fc0 ?_
   refine AnyG.slV (K := kStr) (i := 10) 43 53 (some 54) none 55 43 9 x5 (x3.length : Int) 0 rfl p5 rfl (by decide) (fx3.ext z5) (by kernel_rfl) (by kernel_rfl) Fc0 (by kernel_rfl) (by kernel_rfl) (by kernel_rfl) (Xt .i64 (by kernel_rfl)) Xv g35 g36 (Int.le_refl _) ?_
   have f43 : Els kStr S1 w5 ([.string (gi x0 x4)] : List Value) [gi x0 x4] := by exact (Els.cons (K := kStr) (vs := [.string (gi x0 x4)]) (x := gi x0 x4) rfl Els.nil)
   refine Om (.buildSlice 43 1 #[(0, 51)]) 52 43 (fun b => .slice (Gp (some b)) 1 1) 9 ([.string (gi x0 x4)] : List Value) (1 * kStr.size) p5 (Av 7) fun b42 w6 z6 p6 => ?_
   refine Xo z6 trivial ?_
   obtain ⟨u6t, f49, f50, f51⟩ := src_winI (K := kStr) p6 (q := 1) rfl rfl (by decide) (fx3.ext (z5.t z6)) g35 g36 (Int.le_refl _)
   refine Gg h fun g52 h => ?_
   refine On (K := kStr) 43 52 55 56 43 9 0 (.string ⟨#[]⟩) 16 1 1 (((x3.length : Int) : Int).toNat - (x5 : Int).toNat) [gi x0 x4] (sl x3 x5 (x3.length : Int)) ([gi x0 x4] ++ (sl x3 x5 (x3.length : Int))) (winA Gx3 (x5 : Int).toNat cx3 kStr.size) (cx3 - (x5 : Int).toNat) rfl f51 rfl p6 rfl (f43.ext z6) (Av 11) f49 f50 g52 fun w7 G53 c54 u6u z7 p7 f56 => ?_
   refine Xo z7 trivial ?_
   obtain ⟨p7, f57⟩ := p7.trunc (K := kStr) 1 rfl (fx3.ext ((z5.t z6).t z7)) ((x5 : Int).toNat)
   refine Gl h fun v61 e62 h => ?_
   refine Gg h fun g63 h => ?_
   refine On (K := kStr) 43 47 56 57 43 9 1 (.string ⟨#[]⟩) 16 ((x5 : Int).toNat) cx3 (([gi x0 x4] ++ (sl x3 x5 (x3.length : Int))).length) (x3.take ((x5 : Int).toNat)) ([gi x0 x4] ++ (sl x3 x5 (x3.length : Int))) v61 (Gp G53) c54 (by have h0 : 0 ≤ (x5 : Int) := g35; have h1 : (x5 : Int) ≤ (x3.length : Int) := g36; have h2 : x3.length = x3.length := rfl; rw [List.length_take, h2]; omega) rfl e62 p7 rfl f57 (Av 12) f56 (src_own p7 (q := 0) rfl) g63 fun w8 G64 c65 u6v z8 p8 f67 => ?_
   refine Xi [] (Fc S1 w8 []) (by decide) ?_
   refine Xb 13 (.assign 57) 3 43 (Sl (Gp G64) v61 c65) Fc0 ?_
   refine Ad ?_
   have p8 := p8.dp 0
   refine Gm 7 [([11], .i x4), ([12, 4], .i (wr .i64 (x4 + 1)))] J83 ?_
   exact Gj 59 [(0, Sl Ax0 x0 cx0), (3, Sl (Gp G64) v61 c65), (4, .i (wr .i64 (x4 + 1)))] (u6r _ _ h _ _ ((((hx.t z5).t z6).t z7).t z8) _ _ _ _ _ _ _ p8 (fx0.ext (((z5.t z6).t z7).t z8)) rfl f67 rfl)
theorem W.z1p {nz wz S0 w0 Lr} : ∀ a r, M.ab a = some r → (L.z1p nz wz S0 w0 Lr) a r := (W.z1t).1
theorem W.z1q {nz wz S0 w0 Lr} : ∀ a r, M.a3h a = some r → (L.z1q nz wz S0 w0 Lr) a r := (W.z1t).2.1
theorem W.z1r {nz wz S0 w0 Lr} : ∀ a r, M.a4r a = some r → (L.z1r nz wz S0 w0 Lr) a r := (W.z1t).2.2.1
theorem W.z1s {nz wz S0 w0 Lr} : ∀ a r, M.a3i a = some r → (L.z1s nz wz S0 w0 Lr) a r := (W.z1t).2.2.2
theorem W.z1o (x0 : List ByteArray) (r : List ByteArray) (h : M.a4s x0 = some r) {nz wz S0 w0 Lr} (Ax0 nx0 cx0) (p0 : Hp nz wz S0 w0 (Lr)) (fx0 : Rd kStr S0 w0 Ax0 cx0 x0) (lx0 : x0.length = nx0) :
  Calls Tg 60 #[.slice Ax0 nx0 cx0] w0 (Rets (Post.z1o nz wz S0 w0 Lr r)) := by
 subst lx0
 refine Zf Tryz.f60 B60 58 ?_
 refine Gj 59 [(0, Sl Ax0 x0 cx0)] fun junk => ?_
 delta M.a4s at h
 refine Gn 6 [(2, Sn)] (Yt 110 B60 [0, 1] (Ys 111 B60 [])) ?_
 have f2 : Els kStr S0 w0 ([] : List Value) ([] : List ByteArray) := by exact Els.nil
 refine Om (.buildSlice 43 0 #[]) 6 43 (fun b => .slice (Gp (some b)) 0 0) 9 ([] : List Value) (0 * kStr.size) p0 Xa fun b1 w2 z2 p2 => ?_
 refine Gn 9 [(3, .slice (Gp (some b1)) 0 0), (4, .i 0)] J83 ?_
 exact Gj 59 [(0, Sl Ax0 x0 cx0), (3, .slice (Gp (some b1)) 0 0), (4, .i 0)] (W.z1p _ _ h _ _ z2 _ _ _ (some b1) 0 0 _ p2 (fx0.ext z2) rfl (f2.ext z2) rfl)
def Q6k := Yq 1110100 B17
def J8n := Zl Q6k (Zb 0 (Ys 1111 B17 []))
def J8o := Zc Q6k J8n
def J8u := Ys 11111 B17 []
def Post.z1u (r : List ByteArray) (v : Value) (w' : World) : Prop :=
 ∃ S' Gq nq cq csq, v = .slice (Gp Gq) nq cq ∧ Ext S0 w0 S' w' ∧ Hp nz wz S' w' ((Gq, .row 9 csq (cq * kStr.size) 0) :: Lr) ∧ Els kStr S' w' csq r ∧ r.length = nq
def L.z1v : ByteArray × (List ByteArray) × Int → (List ByteArray) → Prop := fun ⟨x0, x3, x4⟩ r => ∀ S1 w1, Ext S0 w0 S1 w1 → ∀ Gx3 nx3 cx3 u6j (_ : Hp nz wz S1 w1 ((Gx3, .row 9 u6j (cx3 * kStr.size) 0) :: Lr)) (_ : Els kStr S1 w1 u6j x3) (_ : x3.length = nx3) (junk : Nat → Value),
 Goes Tg (base 17) J8o ⟨lfr 23 [(0, .string x0), (3, .slice (Gp Gx3) nx3 cx3), (4, .i x4)] junk, []⟩ w1 (Done Tg 17 (Rets (Post.z1u nz wz S0 w0 Lr r)))
theorem W.z1v {nz wz S0 w0 Lr} : ∀ a r, M.a3j a = some r → (L.z1v nz wz S0 w0 Lr) a r := by
 refine M.a3j.partial_correctness (motive := (L.z1v nz wz S0 w0 Lr)) ?_
 intro u6w u6x ⟨x0, x3, x4⟩ r h S1 w1 hx Gx3 nx3 cx3 u6j p1 fx3 lx3 junk
 try dsimp only at h
 subst lx3
 refine Gn 9 [(6, .i x4), (7, .i (wr .i64 (x4 + 3))), (8, .string x0), (9, .i (x0.size : Int)), (10, .bool (decide (wr .i64 (x4 + 3) ≤ (x0.size : Int))))] (Ys 111010001 B17 (Ys 11101001 B17 J8n)) ?_
 refine Gi h (fun h5 h => ?_) fun h5 h => ?_
 ·
  rw [dt h5]
  refine Gm 10 [([13], Sl (Gp Gx3) x3 cx3), ([14], .string x0), ([15, 16], .i x4), ([17], .i (wr .i64 (x4 + 3)))] (Yt 1110100100 B17 [5, 6, 7, 8] (Zb 1 (Ys 111010011 B17 J8n))) ?_
  refine Gg h fun g6 h => ?_
  refine Gg h fun g7 h => ?_
  refine Op_.slS_n 9 14 (some 15) (some 17) 18 9 x0 x4 (wr .i64 (x4 + 3)) (ss x0 x4 (wr .i64 (x4 + 3))) rfl Xa (by kernel_rfl) (by kernel_rfl) (Xt .i64 (by kernel_rfl)) (Xt .i64 (by kernel_rfl)) g6 g7 h5 ?_
  have f9 : Els kStr S1 w1 ([.string (ss x0 x4 (wr .i64 (x4 + 3)))] : List Value) [ss x0 x4 (wr .i64 (x4 + 3))] := by exact (Els.cons (K := kStr) (vs := [.string (ss x0 x4 (wr .i64 (x4 + 3)))]) (x := ss x0 x4 (wr .i64 (x4 + 3))) rfl Els.nil)
  refine Om (.buildSlice 43 1 #[(0, 18)]) 19 43 (fun b => .slice (Gp (some b)) 1 1) 9 ([.string (ss x0 x4 (wr .i64 (x4 + 3)))] : List Value) (1 * kStr.size) p1 Xa fun b8 w3 z3 p3 => ?_
  refine Gg h fun g14 h => ?_
  refine On (K := kStr) 43 13 19 20 43 9 1 (.string ⟨#[]⟩) 16 x3.length cx3 1 x3 [ss x0 x4 (wr .i64 (x4 + 3))] (x3 ++ [ss x0 x4 (wr .i64 (x4 + 3))]) (Gp (some b8)) 1 rfl rfl rfl p3 rfl (fx3.ext z3) Xa (f9.ext z3) (src_own p3 (q := 0) rfl) g14 fun w4 G15 c16 u6y z4 p4 f18 => ?_
  refine Gm 9 [([3], .slice (Gp G15) ((x3 ++ [ss x0 x4 (wr .i64 (x4 + 3))]).length) c16), ([11], .i x4), ([12, 4], .i (wr .i64 (x4 + 1)))] J8o ?_
  have p4 := p4.dp 0
  exact Gj 23 [(0, .string x0), (3, .slice (Gp G15) ((x3 ++ [ss x0 x4 (wr .i64 (x4 + 3))]).length) c16), (4, .i (wr .i64 (x4 + 1)))] (u6x _ _ h _ _ ((hx.t z3).t z4) _ _ _ _ p4 f18 rfl)
 ·
  rw [df h5]
  refine Gn 5 [(21, Sl (Gp Gx3) x3 cx3)] (Yt 11110 B17 [1, 2] J8u) ?_
  obtain ⟨S5, z5, p5, f19⟩ := p1.freezeRd 0 rfl fx3 (by decide)
  refine Gb h fun y20 e21 h => ?_
  refine Gc (kc 60 [21] #[43]) 22 43 60 _ (W.z1o x3 y20 e21 _ _ _ p5 f19 rfl) ?_
  rintro _ w6 ⟨S6, u6z, u70, u71, u72, rfl, z6, p6, u73, rfl⟩
  have p6 := p6.dp 1
  refine Gn 2 [(2, Sl (Gp u6z) y20 u71)] J8u ?_
  obtain rfl := sj h
  exact Xd Tryz.f17 (Sl (Gp u6z) y20 u71) ⟨_, _, _, _, _, rfl, ((hx.t z5).t z6), p6, u73, rfl⟩
theorem W.z1u (x0 : ByteArray) (r : List ByteArray) (h : M.a5z x0 = some r) {nz wz S0 w0 Lr} (p0 : Hp nz wz S0 w0 (Lr)) :
  Calls Tg 17 #[.string x0] w0 (Rets (Post.z1u nz wz S0 w0 Lr r)) := by
 refine Zf Tryz.f17 B17 22 ?_
 refine Gj 23 [(0, .string x0)] fun junk => ?_
 delta M.a5z at h
 refine Gn 6 [(2, Sn)] (Yt 110 B17 [0, 1] (Ys 111 B17 [])) ?_
 have f2 : Els kStr S0 w0 ([] : List Value) ([] : List ByteArray) := by exact Els.nil
 refine Om (.buildSlice 43 0 #[]) 5 43 (fun b => .slice (Gp (some b)) 0 0) 9 ([] : List Value) (0 * kStr.size) p0 Xa fun b1 w2 z2 p2 => ?_
 refine Gn 9 [(3, .slice (Gp (some b1)) 0 0), (4, .i 0)] J8o ?_
 exact Gj 23 [(0, .string x0), (3, .slice (Gp (some b1)) 0 0), (4, .i 0)] (W.z1v _ _ h _ _ z2 (some b1) 0 0 _ p2 (f2.ext z2) rfl)
def Q6u := Yq 110100 B139
def J90 := Zl Q6u (Zb 0 (Ys 111 B139 []))
def J91 := Zc Q6u J90
def J95 := Zb 1 (Ys 11010011 B139 J90)
def J96 := Ys 1101001001 B139 J95
def Post.z1w (r : Bool) (v : Value) (w' : World) : Prop :=
 ∃ S', v = .bool r ∧ Ext S0 w0 S' w' ∧ Hp nz wz S' w' (Lr)
def L.z1x : (List ByteArray) × ByteArray × Int → Bool → Prop := fun ⟨x0, x1, x5⟩ r => ∀ S1 w1, Ext S0 w0 S1 w1 → ∀ Ax0 nx0 cx0 (_ : Hp nz wz S1 w1 (Lr)) (_ : Rd kStr S1 w1 Ax0 cx0 x0) (_ : x0.length = nx0) (junk : Nat → Value),
 Goes Tg (base 139) J91 ⟨lfr 18 [(0, .slice Ax0 nx0 cx0), (1, .string x1), (5, .i x5)] junk, []⟩ w1 (Done Tg 139 (Rets (Post.z1w nz wz S0 w0 Lr r)))
theorem W.z1x {nz wz S0 w0 Lr} : ∀ a r, M.a3k a = some r → (L.z1x nz wz S0 w0 Lr) a r := by
 refine M.a3k.partial_correctness (motive := (L.z1x nz wz S0 w0 Lr)) ?_
 intro u74 u75 ⟨x0, x1, x5⟩ r h S1 w1 hx Ax0 nx0 cx0 p1 fx0 lx0 junk
 try dsimp only at h
 subst lx0
 refine Gn 8 [(6, .i x5), (7, Sl Ax0 x0 cx0), (8, .i (x0.length : Int)), (9, .bool (decide (x5 < (x0.length : Int))))] (Ys 11010001 B139 (Ys 1101001 B139 J90)) ?_
 refine Gi h (fun h1 h => ?_) fun h1 h => ?_
 ·
  rw [dt h1]
  refine Gn 8 [(12, Sl Ax0 x0 cx0), (13, .i x5)] (Yt 1101001000 B139 [2, 3, 4, 5] J96) ?_
  refine Gg h fun g2 h => ?_
  refine Oi 43 12 13 14 0 9 .i64 x5 (gi x0 x5) rfl rfl fx0 Xa g2 h1 fun a3 _ f4 q5 => ?_
  obtain rfl := q5
  refine Xc 9 14 15 9 a3 (.string (gi x0 x5)) (f4.cell 0 _ rfl) ?_
  refine Gn 3 [(16, .string x1), (17, .bool ((gi x0 x5).toList == x1.toList))] J96 ?_
  refine Gi h (fun h6 h => ?_) fun h6 h => ?_
  ·
   rw [h6]
   refine Gn 5 [(4, .bool true)] (Ys 110100100101 B139 J95) ?_
   obtain rfl := sj h
   exact Xd Tryz.f139 (.bool true) ⟨_, rfl, hx, p1⟩
  ·
   rw [bf h6]
   refine Gm 9 [([10], .i x5), ([11, 5], .i (wr .i64 (x5 + 1)))] J91 ?_
   exact Gj 18 [(0, Sl Ax0 x0 cx0), (1, .string x1), (5, .i (wr .i64 (x5 + 1)))] (u75 _ _ h _ _ hx _ _ _ p1 fx0 rfl)
 ·
  rw [df h1]
  refine Gn 6 [(4, .bool false)] (Ys 1111 B139 []) ?_
  obtain rfl := sj h
  exact Xd Tryz.f139 (.bool false) ⟨_, rfl, hx, p1⟩
theorem W.z1w (x0 : List ByteArray) (x1 : ByteArray) (r : Bool) (h : M.a60 x0 x1 = some r) {nz wz S0 w0 Lr} (Ax0 nx0 cx0) (p0 : Hp nz wz S0 w0 (Lr)) (fx0 : Rd kStr S0 w0 Ax0 cx0 x0) (lx0 : x0.length = nx0) :
  Calls Tg 139 #[.slice Ax0 nx0 cx0, .string x1] w0 (Rets (Post.z1w nz wz S0 w0 Lr r)) := by
 subst lx0
 refine Zf Tryz.f139 B139 16 ?_
 refine Gj 18 [(0, Sl Ax0 x0 cx0), (1, .string x1)] fun junk => ?_
 delta M.a60 at h
 refine Gn 11 [(4, .bool false), (5, .i 0)] J91 ?_
 exact Gj 18 [(0, Sl Ax0 x0 cx0), (1, .string x1), (5, .i 0)] (W.z1x _ _ h _ _ (Xj S0 w0) _ _ _ p0 fx0 rfl)
def J9a := Ys 111 B75 []
def J9b := Zb 0 J9a
def Q73 := Yq 11010111110100 B75
def J9d := Zl Q73 (Zb 1 J9b)
def J9e := Zc Q73 J9d
def Q75 := Yq 11010111111100100 B75
def J9h := Zl Q75 (Zb 3 (Ys 11010111111101 B75 J9b))
def J9i := Zc Q75 J9h
def J9q := Ys 1101011101 B75 J9b
def J9u := Ys 1111 B75 []
def J9w := Ys 1101011111110010001 B75 (Ys 110101111111001001 B75 J9h)
def J9z := Zb 4 (Ys 1101011111110010011 B75 J9h)
def Ja0 := Ys 110101111111001001001 B75 J9z
def Q7n := Yq 110101111111001001000 B75
def Ja7 := Ys 1101011111010001 B75 (Ys 110101111101001 B75 J9d)
def Jaa := Zb 2 (Ys 1101011111010011 B75 J9d)
def Jab := Ys 110101111101001001 B75 Jaa
def Q7v := Yq 110101111101001000 B75
def Post.z1y (r : Bool) (v : Value) (w' : World) : Prop :=
 ∃ S', v = .bool r ∧ Ext S0 w0 S' w' ∧ Hp nz wz S' w' (Lr)
def LF.z1y : T38 × (List ByteArray) → Bool → Prop := fun ⟨x0, x1⟩ r => ∀ {nz wz S0 w0 Lr} u5 u6 u7 Ax1 nx1 cx1 (_ : Hp nz wz S0 w0 (Lr)) (_ : Rd kT38 S0 w0 u5 u7 x0.L) (_ : x0.L.length = u6) (_ : Rd kStr S0 w0 Ax1 cx1 x1) (_ : x1.length = nx1),
 Calls Tg 75 #[(ag (wT29 x0.Op x0.Text u5 u6 u7)), .slice Ax1 nx1 cx1] w0 (Rets (Post.z1y nz wz S0 w0 Lr r))
def L.z1z : (List ByteArray) × T38 × Int → Bool → Prop := fun ⟨x1, x2v, x5⟩ r => ∀ S1 w1, Ext S0 w0 S1 w1 → ∀ Ax1 nx1 cx1 gx2 u54 u55 u56 (_ : Hp nz wz S1 w1 ((some gx2, .row 39 (wT29 x2v.Op x2v.Text u54 u55 u56) 3 0) :: Lr)) (_ : Rd kStr S1 w1 Ax1 cx1 x1) (_ : x1.length = nx1) (_ : Rd kT38 S1 w1 u54 u56 x2v.L) (_ : x2v.L.length = u55) (junk : Nat → Value),
 Goes Tg (base 75) J9e ⟨lfr 50 [(1, .slice Ax1 nx1 cx1), (2, (pt gx2 0)), (5, .i x5)] junk, []⟩ w1 (Done Tg 75 (Rets (Post.z1y nz wz S0 w0 Lr r)))
def LL.z1z : (List ByteArray) × T38 × Int → Bool → Prop := fun a r => ∀ {nz wz S0 w0 Lr}, L.z1z nz wz S0 w0 Lr a r
def L.z20 : (List ByteArray) × T38 × Int → Bool → Prop := fun ⟨x1, x2v, x6⟩ r => ∀ S1 w1, Ext S0 w0 S1 w1 → ∀ Ax1 nx1 cx1 gx2 u54 u55 u56 (_ : Hp nz wz S1 w1 ((some gx2, .row 39 (wT29 x2v.Op x2v.Text u54 u55 u56) 3 0) :: Lr)) (_ : Rd kStr S1 w1 Ax1 cx1 x1) (_ : x1.length = nx1) (_ : Rd kT38 S1 w1 u54 u56 x2v.L) (_ : x2v.L.length = u55) (junk : Nat → Value),
 Goes Tg (base 75) J9i ⟨lfr 50 [(1, .slice Ax1 nx1 cx1), (2, (pt gx2 0)), (6, .i x6)] junk, []⟩ w1 (Done Tg 75 (Rets (Post.z1y nz wz S0 w0 Lr r)))
def LL.z20 : (List ByteArray) × T38 × Int → Bool → Prop := fun a r => ∀ {nz wz S0 w0 Lr}, L.z20 nz wz S0 w0 Lr a r
theorem W.z21 : (∀ a r, M.al a = some r → LF.z1y a r) ∧ (∀ a r, M.a3m a = some r → LL.z20 a r) ∧ (∀ a r, M.a3l a = some r → LL.z1z a r) := by
 refine M.al.mutual_partial_correctness LF.z1y LL.z20 LL.z1z ?_ ?_ ?_
 ·
  intro u76 u77 u78 u79 ⟨x0, x1⟩ r h nz wz S0 w0 Lr u5 u6 u7 Ax1 nx1 cx1 p0 um un fx1 lx1
  try dsimp only at h
  subst un
  subst lx1
  refine Zf Tryz.f75 B75 48 ?_
  refine Gj 50 [(0, (ag (wT29 x0.Op x0.Text u5 x0.L.length u7))), (1, Sl Ax1 x1 cx1)] fun junk => ?_
  refine Gn 2 [] (Yt 10 B75 [0, 1] (Ys 11 B75 [])) ?_
  refine Ob 39 0 2 0 ((ag (wT29 x0.Op x0.Text u5 x0.L.length u7))) (wT29 x0.Op x0.Text u5 x0.L.length u7) p0 Xa fun b1 w2 z2 p2 => ?_
  refine Gn 6 [(4, .bool false), (7, (pt b1 0))] (Yt 1100 B75 [1] (Ys 1101 B75 J9a)) ?_
  refine Xc 3 7 8 3 ⟨b1, 0, none⟩ (.i x0.Op) (p2.c 0 0) ?_
  refine Gm 7 [([10, 9], .bool (decide (x0.Op = 1)))] (Ys 110101 B75 J9b) ?_
  refine Gi h (fun h3 h => ?_) fun h3 h => ?_
  ·
   rw [dt h3]
   refine Gn 5 [(4, .bool false)] (Ys 11010101 B75 J9b) ?_
   obtain rfl := sj h
   have p2 := p2.dp 0
   exact Xd Tryz.f75 (.bool false) ⟨_, rfl, z2, p2⟩
  ·
   rw [df h3]
   refine Gm 6 [([12, 11], .bool (decide (x0.Op = 2)))] (Ys 11010111 B75 J9b) ?_
   refine Gi h (fun h4 h => ?_) fun h4 h => ?_
   ·
    rw [dt h4]
    refine Gn 5 [(13, Sl Ax1 x1 cx1), (14, (pt b1 1))] (Yt 1101011100 B75 [2, 3, 4] J9q) ?_
    refine Xc 9 14 15 9 ⟨b1, 1, none⟩ (.string x0.Text) (p2.c 0 1) ?_
    refine Gb h fun y5 e6 h => ?_
    refine Gc (kc 139 [13, 15] #[43, 9]) 16 4 139 _ (W.z1w x1 x0.Text y5 e6 _ _ _ p2 (fx1.ext z2) rfl) ?_
    rintro _ w3 ⟨S3, rfl, z3, p3⟩
    have p3 := p3.dp 0
    refine Gn 2 [(4, .bool y5)] J9q ?_
    obtain rfl := sj h
    exact Xd Tryz.f75 (.bool y5) ⟨_, rfl, (z2.t z3), p3⟩
   ·
    rw [df h4]
    refine Gm 6 [([18, 17], .bool (decide (x0.Op = 3)))] (Ys 1101011111 B75 J9b) ?_
    refine Gi h (fun h7 h => ?_) fun h7 h => ?_
    ·
     rw [dt h7]
     refine Gn 7 [(5, .i 0)] J9e ?_
     exact Gj 50 [(1, Sl Ax1 x1 cx1), (2, (pt b1 0)), (5, .i 0)] (u79 _ _ h _ _ z2 _ _ _ _ _ _ _ p2 (fx1.ext z2) rfl (um.ext z2) rfl)
    ·
     rw [df h7]
     refine Gm 6 [([35, 34], .bool (decide (x0.Op = 4)))] (Ys 110101111111 B75 J9b) ?_
     refine Gi h (fun h9 h => ?_) fun h9 h => ?_
     ·
      rw [dt h9]
      refine Gn 8 [(6, .i 0)] J9i ?_
      exact Gj 50 [(1, Sl Ax1 x1 cx1), (2, (pt b1 0)), (6, .i 0)] (u78 _ _ h _ _ z2 _ _ _ _ _ _ _ p2 (fx1.ext z2) rfl (um.ext z2) rfl)
     ·
      rw [df h9]
      refine Gn 7 [(4, .bool true)] J9u ?_
      obtain rfl := sj h
      have p2 := p2.dp 0
      exact Xd Tryz.f75 (.bool true) ⟨_, rfl, z2, p2⟩
 ·
  intro u7a u76 u7b u78 ⟨x1, x2v, x6⟩ r h nz wz S0 w0 Lr S1 w1 hx Ax1 nx1 cx1 gx2 u54 u55 u56 p1 fx1 lx1 u5j u5k junk
  try dsimp only at h
  subst lx1
  subst u5k
  refine Gn 5 [(36, .i x6), (37, (pt gx2 2))] (Yt 1101011111110010000 B75 [2, 3, 4] J9w) ?_
  refine Xc 37 37 38 37 ⟨gx2, 2, none⟩ (Sl u54 x2v.L u56) (p1.c 0 2) ?_
  refine Gn 3 [(39, .i (x2v.L.length : Int)), (40, .bool (decide (x6 < (x2v.L.length : Int))))] J9w ?_
  refine Gi h (fun h23 h => ?_) fun h23 h => ?_
  ·
   rw [dt h23]
   refine Gn 7 [(43, (pt gx2 2))] (Zr Q7n [1, 2, 3, 4, 5, 6] Ja0) ?_
   refine Xc 37 43 44 37 ⟨gx2, 2, none⟩ (Sl u54 x2v.L u56) (p1.c 0 2) ?_
   refine Gn 1 [(45, .i x6)] (Zr Q7n [3, 4, 5, 6] Ja0) ?_
   refine Gg h fun g24 h => ?_
   refine Oi 37 44 45 46 0 39 .i64 x6 (gi x2v.L x6) rfl rfl u5j Xa g24 h23 fun a25 _ f26 q27 => ?_
   have q28 := q27
   obtain ⟨_, _, rfl, rfl, ⟨_, _, rfl, rfl, ⟨A29, c30, rfl, f31⟩⟩⟩ := kT38_open q28
   refine Xg 39 46 47 39 a25 ([.i ((gi x2v.L x6).Op)] ++ ([.string ((gi x2v.L x6).Text)] ++ [.slice A29 (((gi x2v.L x6).L).length) c30])) (f26.cell) ?_
   refine Gn 1 [(48, Sl Ax1 x1 cx1)] (Zr Q7n [6] Ja0) ?_
   refine Gb h fun y32 e33 h => ?_
   refine Gc (kc 75 [47, 48] #[39, 43]) 49 4 75 _ (u7b (gi x2v.L x6, x1) y32 e33 _ _ _ _ _ _ p1 f31 rfl fx1 rfl) ?_
   rintro _ w5 ⟨S5, rfl, z5, p5⟩
   refine Gn 1 [] Ja0 ?_
   refine Gi h (fun h34 h => ?_) fun h34 h => ?_
   ·
    rw [h34]
    refine Gn 5 [(4, .bool true)] (Ys 11010111111100100100101 B75 J9z) ?_
    obtain rfl := sj h
    have p5 := p5.dp 0
    exact Xd Tryz.f75 (.bool true) ⟨_, rfl, (hx.t z5), p5⟩
   ·
    rw [bf h34]
    refine Gm 9 [([41], .i x6), ([42, 6], .i (wr .i64 (x6 + 1)))] J9i ?_
    exact Gj 50 [(1, Sl Ax1 x1 cx1), (2, (pt gx2 0)), (6, .i (wr .i64 (x6 + 1)))] (u78 _ _ h _ _ (hx.t z5) _ _ _ _ _ _ _ p5 (fx1.ext z5) rfl (u5j.ext z5) rfl)
  ·
   rw [df h23]
   refine Gn 6 [(4, .bool false)] (Ys 110101111111011 B75 J9b) ?_
   obtain rfl := sj h
   have p1 := p1.dp 0
   exact Xd Tryz.f75 (.bool false) ⟨_, rfl, hx, p1⟩
 ·
  intro u7a u77 u7b u79 ⟨x1, x2v, x5⟩ r h nz wz S0 w0 Lr S1 w1 hx Ax1 nx1 cx1 gx2 u54 u55 u56 p1 fx1 lx1 u5j u5k junk
  try dsimp only at h
  subst lx1
  subst u5k
  refine Gn 5 [(19, .i x5), (20, (pt gx2 2))] (Yt 1101011111010000 B75 [2, 3, 4] Ja7) ?_
  refine Xc 37 20 21 37 ⟨gx2, 2, none⟩ (Sl u54 x2v.L u56) (p1.c 0 2) ?_
  refine Gn 3 [(22, .i (x2v.L.length : Int)), (23, .bool (decide (x5 < (x2v.L.length : Int))))] Ja7 ?_
  refine Gi h (fun h11 h => ?_) fun h11 h => ?_
  ·
   rw [dt h11]
   refine Gn 7 [(26, (pt gx2 2))] (Zr Q7v [1, 2, 3, 4, 5, 6, 7] Jab) ?_
   refine Xc 37 26 27 37 ⟨gx2, 2, none⟩ (Sl u54 x2v.L u56) (p1.c 0 2) ?_
   refine Gn 1 [(28, .i x5)] (Zr Q7v [3, 4, 5, 6, 7] Jab) ?_
   refine Gg h fun g12 h => ?_
   refine Oi 37 27 28 29 0 39 .i64 x5 (gi x2v.L x5) rfl rfl u5j Xa g12 h11 fun a13 _ f14 q15 => ?_
   have q16 := q15
   obtain ⟨_, _, rfl, rfl, ⟨_, _, rfl, rfl, ⟨A17, c18, rfl, f19⟩⟩⟩ := kT38_open q16
   refine Xg 39 29 30 39 a13 ([.i ((gi x2v.L x5).Op)] ++ ([.string ((gi x2v.L x5).Text)] ++ [.slice A17 (((gi x2v.L x5).L).length) c18])) (f14.cell) ?_
   refine Gn 1 [(31, Sl Ax1 x1 cx1)] (Zr Q7v [6, 7] Jab) ?_
   refine Gb h fun y20 e21 h => ?_
   refine Gc (kc 75 [30, 31] #[39, 43]) 32 4 75 _ (u7b (gi x2v.L x5, x1) y20 e21 _ _ _ _ _ _ p1 f19 rfl fx1 rfl) ?_
   rintro _ w4 ⟨S4, rfl, z4, p4⟩
   refine Gn 2 [(33, .bool (!y20))] Jab ?_
   refine Gi h (fun h22 h => ?_) fun h22 h => ?_
   ·
    rw [h22]
    refine Gm 9 [([24], .i x5), ([25, 5], .i (wr .i64 (x5 + 1)))] J9e ?_
    exact Gj 50 [(1, Sl Ax1 x1 cx1), (2, (pt gx2 0)), (5, .i (wr .i64 (x5 + 1)))] (u79 _ _ h _ _ (hx.t z4) _ _ _ _ _ _ _ p4 (fx1.ext z4) rfl (u5j.ext z4) rfl)
   ·
    rw [bf h22]
    refine Gn 5 [(4, .bool false)] (Ys 11010111110100100101 B75 Jaa) ?_
    obtain rfl := sj h
    have p4 := p4.dp 0
    exact Xd Tryz.f75 (.bool false) ⟨_, rfl, (hx.t z4), p4⟩
  ·
   rw [df h11]
   refine Gn 7 [(4, .bool true)] J9u ?_
   obtain rfl := sj h
   have p1 := p1.dp 0
   exact Xd Tryz.f75 (.bool true) ⟨_, rfl, hx, p1⟩
theorem W.z1y : ∀ a r, M.al a = some r → LF.z1y a r := (W.z21).1
theorem W.z20 : ∀ a r, M.a3m a = some r → LL.z20 a r := (W.z21).2.1
theorem W.z1z : ∀ a r, M.a3l a = some r → LL.z1z a r := (W.z21).2.2
def Jai := Ys 111 B28 []
def Jaj := Ys 1101 B28 Jai
def Post.z22 (r : Bool × Int) (v : Value) (w' : World) : Prop :=
 ∃ S', v = .tuple #[.bool r.1, .i r.2] ∧ Ext S0 w0 S' w' ∧ Hp nz wz S' w' (Lr)
theorem W.z22 (x0 : T38) (x1 : ByteArray) (r : Bool × Int) (h : M.a61 x0 x1 = some r) {nz wz S0 w0 Lr} (u5 u6 u7) (p0 : Hp nz wz S0 w0 (Lr)) (um : Rd kT38 S0 w0 u5 u7 x0.L) (un : x0.L.length = u6) :
  Calls Tg 28 #[(ag (wT29 x0.Op x0.Text u5 u6 u7)), .string x1] w0 (Rets (Post.z22 nz wz S0 w0 Lr r)) := by
 subst un
 refine Zf Tryz.f28 B28 11 ?_
 refine Gj 13 [(0, (ag (wT29 x0.Op x0.Text u5 x0.L.length u7))), (1, .string x1)] fun junk => ?_
 delta M.a61 at h
 refine Gn 2 [] (Yt 10 B28 [0, 1, 2] (Ys 11 B28 [])) ?_
 refine Ob 39 0 2 0 ((ag (wT29 x0.Op x0.Text u5 x0.L.length u7))) (wT29 x0.Op x0.Text u5 x0.L.length u7) p0 Xa fun b1 w2 z2 p2 => ?_
 refine Gn 6 [(4, .bool false), (5, .i 0)] (Yt 1100 B28 [0, 1, 2] Jaj) ?_
 refine Xg 39 2 6 39 ⟨b1, 0, none⟩ (wT29 x0.Op x0.Text u5 x0.L.length u7) (p2.pa 0 0) ?_
 refine Gb h fun y3 e4 h => ?_
 refine Gc (kc 21 [6] #[39]) 7 34 21 _ (W.z1n x0 y3 e4 _ _ _ p2 (um.ext z2) rfl) ?_
 rintro _ w3 ⟨S3, rfl, z3, p3⟩
 refine Gn 2 [(8, .bool (!(decide (y3 = 0))))] Jaj ?_
 refine Gi h (fun h5 h => ?_) fun h5 h => ?_
 ·
  rw [dt h5]
  refine Gn 3 [] (Ys 1110 B28 (Ys 1111 B28 [])) ?_
  have z4 : Ext S3 w3 S3 (w3).drew := Xk
  have p4 := p3.draw
  refine Gd [3] (Fc S3 (w3).drew [(⟨b1, 0, none⟩, .i x0.Op), (⟨b1, 1, none⟩, .string x0.Text), (⟨b1, 2, none⟩, Sl u5 x0.L u7)]) 3 6 ?_
  generalize (w3).drew = w4 at z4 p4 ⊢
  refine Xw (i := 0) 39 2 9 39 ⟨b1, 0, none⟩ (wT29 x0.Op x0.Text u5 x0.L.length u7) (by kernel_rfl) (by kernel_rfl) (p4.k [(0, 0, 3)]) (by kernel_rfl) (by kernel_rfl) (by kernel_rfl) (fun _ h j v hj => by match j, hj with | 0, rfl => exact h.2.at_ 0 rfl | 1, rfl => exact h.2.at_ 1 rfl | 2, rfl => exact h.2.at_ 2 rfl | (j + 3), hj => simp at hj) ?_
  refine Xb 1 (.move 1) 10 9 (.string x1) (p4.k [(0, 0, 3)]) ?_
  refine Gb h fun y6 e7 h => ?_
  refine Oc (kc 17 [10] #[9]) 11 43 17 #[.string x1] (Ac 2) (W.z1u x1 y6 e7  p4 ) ?_
  rintro _ w5 ⟨S5, u4z, u50, u51, u52, rfl, z5, p5, u53, rfl⟩
  refine Xo z5 ⟨(p5.c 1 0), (p5.c 1 1), (p5.c 1 2), trivial⟩ ?_
  obtain ⟨S6, z6, p6, f9⟩ := p5.freezeRd 0 rfl u53 (by decide)
  refine Xz z6 ?_
  refine Gb h fun y10 e11 h => ?_
  refine Oc (kc 75 [9, 11] #[39, 43]) 12 4 75 #[(ag (wT29 x0.Op x0.Text u5 x0.L.length u7)), Sl (Gp u4z) y6 u51] (Ac 3) (W.z1y (x0, y6) y10 e11 _ _ _ _ _ _ p6 (um.ext ((((z2.t z3).t z4).t z5).t z6)) rfl f9 rfl) ?_
  rintro _ w7 ⟨S7, rfl, z7, p7⟩
  refine Xi [] (Fc S7 w7 []) (by decide) ?_
  refine Xb 4 (.assign 12) 4 4 (.bool y10) Fc0 ?_
  refine Xb 5 (.assign (.const (.int .i64 0))) 5 34 (.i 0) Fc0 ?_
  refine Ad ?_
  have p7 := (p7.dp 0).dp 0
  obtain rfl := sj h
  exact Xd Tryz.f28 (.tuple #[.bool y10, .i 0]) ⟨_, rfl, (((((z2.t z3).t z4).t z5).t z6).t z7), p7⟩
 ·
  rw [df h5]
  refine Gn 6 [(4, .bool false), (5, .i 2)] (Ys 110101 B28 Jai) ?_
  obtain rfl := sj h
  have p3 := p3.dp 0
  exact Xd Tryz.f28 (.tuple #[.bool false, .i 2]) ⟨_, rfl, (z2.t z3), p3⟩
def Jao := Ys 111 B29 []
def Q86 := Yq 110 B29
def Post.z23 (r : Nat × (List (List (ByteArray × (List Int))))) (v : Value) (w' : World) : Prop :=
 ∃ S' gq u7d Ee0, v = (pt gq 0) ∧ Ext S0 w0 S' w' ∧ Hp nz wz S' w' ((some gq, .row 158 [.map (some u7d)] 1 0) :: (none, .seg 154 Ee0) :: Lr) ∧ Pa 154 S' r.1 u7d ∧ Pl (oMap Value.string (kSl kU)) S' w' Ee0 r.2
theorem W.z23 (u7e : List (List (ByteArray × (List Int)))) (r : Nat × (List (List (ByteArray × (List Int))))) (h : M.a6w u7e = some r) {nz wz S0 w0 Lr} (u7f) (p0 : Hp nz wz S0 w0 ((none, .seg 154 u7f) :: Lr)) (u7g : Pl (oMap Value.string (kSl kU)) S0 w0 u7f u7e) :
  Calls Tg 29 #[] w0 (Rets (Post.z23 nz wz S0 w0 Lr r)) := by
 refine Zf Tryz.f29 B29 5 ?_
 refine Gj 5 [] fun junk => ?_
 delta M.a6w at h
 refine Gn 6 [(0, .pointer none)] (Zr Q86 [0, 1, 2, 3, 4] Jao) ?_
 refine Op_.mkM 154 1 154 154 0 Value.string (kSl kU) p0 rfl u7g Xa fun g1 S2 w2 E2 z2 p2 a3 f4 => ?_
 refine Gm 2 [([2, 3], .agg #[.map (some g1)])] (Zr Q86 [3, 4] Jao) ?_
 refine Ob 158 3 4 62 (.agg #[.map (some g1)]) [.map (some g1)] p2 Xa fun b5 w3 z3 p3 => ?_
 refine Gn 2 [(0, (pt b5 0))] Jao ?_
 obtain rfl := sj h
 exact Xd Tryz.f29 (pt b5 0) ⟨_, _, _, _, rfl, (z2.t z3), p3, (a3.ext z3), (f4.ext z3)⟩
def Jar := Ys 111 B76 []
def Post.z24 (gx0 : Nat) (u7h : Nat) (u7i : Nat) (r : Unit) (v : Value) (w' : World) : Prop :=
 ∃ S', v = .bool true ∧ Ext S0 w0 S' w' ∧ Hp nz wz S' w' ((some gx0, .row 158 [.map (some u7h)] 1 0) :: Lr)
theorem W.z24 (u7i : Nat) (r : Unit) (h : M.a28 u7i = some r) {nz wz S0 w0 Lr} (gx0 u7h) (p0 : Hp nz wz S0 w0 ((some gx0, .row 158 [.map (some u7h)] 1 0) :: Lr)) (u7j : Pa 154 S0 u7i u7h) :
  Calls Tg 76 #[(pt gx0 0)] w0 (Rets (Post.z24 nz wz S0 w0 Lr gx0 u7h u7i r)) := by
 refine Zf Tryz.f76 B76 12 ?_
 refine Gj 13 [(0, (pt gx0 0))] fun junk => ?_
 delta M.a28 at h
 refine Gm 13 [([2], .bool false), ([3, 6, 7, 8, 9], (pt gx0 0)), ([4, 5], .bool true)] (Yt 110 B76 [7, 8, 9, 10] Jar) ?_
 refine Xc 154 9 10 154 ⟨gx0, 0, none⟩ (.map (some u7h)) (p0.c 0 0) ?_
 refine Gm 4 [([11, 12, 2], .bool true)] Jar ?_
 obtain rfl := sj h
 exact Xd Tryz.f76 (.bool true) ⟨_, rfl, (Xj S0 w0), p0⟩
def Q8a := Yq 110100 B141
def Jav := Zl Q8a (Zb 0 (Ys 111 B141 []))
def Jaw := Zc Q8a Jav
def Jb0 := Zb 1 (Ys 11010011 B141 Jav)
def Post.z25 (r : Bool) (v : Value) (w' : World) : Prop :=
 ∃ S', v = .bool r ∧ Ext S0 w0 S' w' ∧ Hp nz wz S' w' (Lr)
def L.z26 : (List Int) × Int → Bool → Prop := fun ⟨x0, x3⟩ r => ∀ S1 w1, Ext S0 w0 S1 w1 → ∀ Ax0 nx0 cx0 (_ : Hp nz wz S1 w1 (Lr)) (_ : Rd kU S1 w1 Ax0 cx0 x0) (_ : x0.length = nx0) (junk : Nat → Value),
 Goes Tg (base 141) Jaw ⟨lfr 20 [(0, .slice Ax0 nx0 cx0), (3, .i x3)] junk, []⟩ w1 (Done Tg 141 (Rets (Post.z25 nz wz S0 w0 Lr r)))
theorem W.z26 {nz wz S0 w0 Lr} : ∀ a r, M.am a = some r → (L.z26 nz wz S0 w0 Lr) a r := by
 refine M.am.partial_correctness (motive := (L.z26 nz wz S0 w0 Lr)) ?_
 intro u7k u7l ⟨x0, x3⟩ r h S1 w1 hx Ax0 nx0 cx0 p1 fx0 lx0 junk
 try dsimp only at h
 subst lx0
 refine Gn 8 [(4, .i x3), (5, Sl Ax0 x0 cx0), (6, .i (x0.length : Int)), (7, .bool (decide (x3 < (x0.length : Int))))] (Ys 11010001 B141 (Ys 1101001 B141 Jav)) ?_
 refine Gi h (fun h1 h => ?_) fun h1 h => ?_
 ·
  rw [dt h1]
  refine Gn 5 [] (Ys 1101001000 B141 (Ys 1101001001 B141 Jb0)) ?_
  have z2 : Ext S1 w1 S1 (w1).drew := Xk
  have p2 := p1.draw
  refine Gd [] (Fc S1 (w1).drew []) 4 10 ?_
  generalize (w1).drew = w2 at z2 p2 ⊢
  refine Xb 0 (.move 0) 10 60 (Sl Ax0 x0 cx0) Fc0 ?_
  refine Xb 1 (.move 3) 11 3 (.i x3) Fc0 ?_
  refine Xb 2 (.binOp .sub 3 11 (.const (.int .i64 1)) 3) 12 3 (.i (wr .i64 (x3 - 1))) Fc0 ?_
  refine Gg h fun g2 h => ?_
  refine Gg h fun g3 h => ?_
  refine Xn (i := 3) 60 10 12 13 0 22 .i64 (wr .i64 (x3 - 1)) (gi x0 (wr .i64 (x3 - 1))) rfl rfl (fx0.ext z2) (by kernel_rfl) (by kernel_rfl) Fc0 (by kernel_rfl) (by kernel_rfl) (by kernel_rfl) (by kernel_rfl) g2 g3 fun a4 _ f5 q6 => ?_
  obtain rfl := q6
  refine Al 4 22 13 14 22 a4 (.u (gi x0 (wr .i64 (x3 - 1)))) Fc0 (fun _ h => f5.fc h 0 _ rfl) ?_
  refine Xb 5 (.move 0) 15 60 (Sl Ax0 x0 cx0) Fc0 ?_
  refine Xb 6 (.move 3) 16 3 (.i x3) Fc0 ?_
  refine Gg h fun g7 h => ?_
  refine Xn (i := 7) 60 15 16 17 0 22 .i64 x3 (gi x0 x3) rfl rfl (fx0.ext z2) (by kernel_rfl) (by kernel_rfl) Fc0 (by kernel_rfl) (by kernel_rfl) (by kernel_rfl) (by kernel_rfl) g7 h1 fun a8 _ f9 q10 => ?_
  obtain rfl := q10
  refine Al 8 22 17 18 22 a8 (.u (gi x0 x3)) Fc0 (fun _ h => f9.fc h 0 _ rfl) ?_
  refine Xb 9 (.binOp .geq 22 14 18 22) 19 4 (.bool (decide (gi x0 (wr .i64 (x3 - 1)) ≥ gi x0 x3))) Fc0 ?_
  refine Ad ?_
  refine Gi h (fun h11 h => ?_) fun h11 h => ?_
  ·
   rw [dt h11]
   refine Gn 5 [(2, .bool false)] (Ys 110100100101 B141 Jb0) ?_
   obtain rfl := sj h
   exact Xd Tryz.f141 (.bool false) ⟨_, rfl, (hx.t z2), p2⟩
  ·
   rw [df h11]
   refine Gm 9 [([8], .i x3), ([9, 3], .i (wr .i64 (x3 + 1)))] Jaw ?_
   exact Gj 20 [(0, Sl Ax0 x0 cx0), (3, .i (wr .i64 (x3 + 1)))] (u7l _ _ h _ _ (hx.t z2) _ _ _ p2 (fx0.ext z2) rfl)
 ·
  rw [df h1]
  refine Gn 6 [(2, .bool true)] (Ys 1111 B141 []) ?_
  obtain rfl := sj h
  exact Xd Tryz.f141 (.bool true) ⟨_, rfl, hx, p1⟩
theorem W.z25 (x0 : List Int) (r : Bool) (h : M.a62 x0 = some r) {nz wz S0 w0 Lr} (Ax0 nx0 cx0) (p0 : Hp nz wz S0 w0 (Lr)) (fx0 : Rd kU S0 w0 Ax0 cx0 x0) (lx0 : x0.length = nx0) :
  Calls Tg 141 #[.slice Ax0 nx0 cx0] w0 (Rets (Post.z25 nz wz S0 w0 Lr r)) := by
 subst lx0
 refine Zf Tryz.f141 B141 19 ?_
 refine Gj 20 [(0, Sl Ax0 x0 cx0)] fun junk => ?_
 delta M.a62 at h
 refine Gn 11 [(2, .bool false), (3, .i 1)] Jaw ?_
 exact Gj 20 [(0, Sl Ax0 x0 cx0), (3, .i 1)] (W.z26 _ _ h _ _ (Xj S0 w0) _ _ _ p0 fx0 rfl)
def Jb5 := Ys 111 B82 []
def Jb6 := Ys 1101 B82 Jb5
def Post.z27 (r : Int) (v : Value) (w' : World) : Prop :=
 ∃ S', v = .i r ∧ Ext S0 w0 S' w' ∧ Hp nz wz S' w' (Lr)
theorem W.z27 (x0 : List Int) (r : Int) (h : M.a15 x0 = some r) {nz wz S0 w0 Lr} (Ax0 nx0 cx0) (p0 : Hp nz wz S0 w0 (Lr)) (fx0 : Rd kU S0 w0 Ax0 cx0 x0) (lx0 : x0.length = nx0) :
  Calls Tg 82 #[.slice Ax0 nx0 cx0] w0 (Rets (Post.z27 nz wz S0 w0 Lr r)) := by
 subst lx0
 refine Zf Tryz.f82 B82 5 ?_
 refine Gj 6 [(0, Sl Ax0 x0 cx0)] fun junk => ?_
 delta M.a15 at h
 refine Gn 8 [(2, .i 0), (3, Sl Ax0 x0 cx0)] (Yt 1100 B82 [1, 2] Jb6) ?_
 refine Gb h fun y1 e2 h => ?_
 refine Gc (kc 141 [3] #[60]) 4 4 141 _ (W.z25 x0 y1 e2 _ _ _ p0 fx0 rfl) ?_
 rintro _ w2 ⟨S2, rfl, z2, p2⟩
 refine Gn 2 [(5, .bool (!y1))] Jb6 ?_
 refine Gi h (fun h3 h => ?_) fun h3 h => ?_
 ·
  rw [h3]
  refine Gn 6 [(2, .i 0)] (Ys 1111 B82 []) ?_
  obtain rfl := sj h
  exact Xd Tryz.f82 (.i 0) ⟨_, rfl, z2, p2⟩
 ·
  rw [bf h3]
  refine Gn 5 [(2, .i 2)] (Ys 110101 B82 Jb5) ?_
  obtain rfl := sj h
  exact Xd Tryz.f82 (.i 2) ⟨_, rfl, z2, p2⟩
def Jba := Ys 111 B142 []
def Jbe := Ys 1111 B142 []
def Q8s := Yq 1110 B142
def Post.z28 (r : List Int) (v : Value) (w' : World) : Prop :=
 ∃ S' Gq nq cq csq, v = .slice (Gp Gq) nq cq ∧ Ext S0 w0 S' w' ∧ Hp nz wz S' w' ((Gq, .row 22 csq (cq * kU.size) 0) :: Lr) ∧ Els kU S' w' csq r ∧ r.length = nq
theorem W.z28 (x0 : List Int) (r : List Int) (h : M.an x0 = some r) {nz wz S0 w0 Lr} (Ax0 nx0 cx0) (p0 : Hp nz wz S0 w0 (Lr)) (fx0 : Rd kU S0 w0 Ax0 cx0 x0) (lx0 : x0.length = nx0) :
  Calls Tg 142 #[.slice Ax0 nx0 cx0] w0 (Rets (Post.z28 nz wz S0 w0 Lr r)) := by
 subst lx0
 refine Zf Tryz.f142 B142 7 ?_
 refine Gj 8 [(0, Sl Ax0 x0 cx0)] fun junk => ?_
 delta M.an at h
 refine Gn 8 [(2, Sn), (3, Sl Ax0 x0 cx0)] (Yt 1100 B142 [1] (Ys 1101 B142 Jba)) ?_
 rcases Rd.isnil fx0 with ⟨rfl, rfl, rfl⟩ | ⟨a1, rfl⟩
 ·
  replace h : (some ([] : List Int)) = some r := by first | exact h | (simpa using h) | (simp at h ⊢; exact h)
  refine Gn 7 [(4, .bool true), (2, Sn)] (Ys 110101 B142 Jba) ?_
  have p0 : Hp nz wz S0 w0 ((none, .row 22 [] (0 * kU.size) 0) :: Lr) := p0.nilRow' 22
  obtain rfl := sj h
  exact Xd Tryz.f142 (.slice (Gp none) 0 0) ⟨_, _, _, _, _, rfl, (Xj S0 w0), p0, (Els.nil (K := kU)), rfl⟩
 ·
  refine Gn 6 [(4, .bool false)] (Zr Q8s [0, 1, 2, 3] Jbe) ?_
  have f4 : Els kU S0 w0 ([] : List Value) ([] : List Int) := by exact Els.nil
  refine Om (.buildSlice 60 0 #[]) 5 60 (fun b => .slice (Gp (some b)) 0 0) 22 ([] : List Value) (0 * kU.size) p0 Xa fun b3 w2 z2 p2 => ?_
  refine Gn 1 [(6, .slice (some a1) x0.length cx0)] (Zr Q8s [2, 3] Jbe) ?_
  obtain ⟨ns6, f7, f8⟩ := src_rd (fx0.ext z2)
  refine Gg h fun g9 h => ?_
  refine On (K := kU) 60 5 6 7 60 22 0 (.u 0) 8 0 0 x0.length ([] : List Int) x0 x0 (some a1) cx0 rfl rfl (List.nil_append _) p2 rfl (f4.ext z2) Xa f7 f8 g9 fun w3 G10 c11 u7m z3 p3 f13 => ?_
  refine Gn 2 [(2, Sl (Gp G10) x0 c11)] Jbe ?_
  obtain rfl := sj h
  exact Xd Tryz.f142 (Sl (Gp G10) x0 c11) ⟨_, _, _, _, _, rfl, (z2.t z3), p3, f13, rfl⟩
def Post.z29 (r : (List Int) × (List Int)) (v : Value) (w' : World) : Prop :=
 ∃ S' u1z u7n u7o u7p u7q u7r u7s u7t, v = .func (.func 302) #[] #[(pt u1z 0), (pt u7q 0)] ∧ Ext S0 w0 S' w' ∧ Hp nz wz S' w' ((some u1z, .row 60 [.slice u7n u7o u7p] 1 0) :: (some u7q, .row 60 [.slice u7r u7s u7t] 1 0) :: Lr) ∧ Rd kU S' w' u7n u7p r.1 ∧ r.1.length = u7o ∧ Rd kU S' w' u7r u7t r.2 ∧ r.2.length = u7s
theorem W.z29 (x0 : List Int) (x1 : List Int) (r : (List Int) × (List Int)) (h : M.a4t x0 x1 = some r) {nz wz S0 w0 Lr} (Ax0 nx0 cx0 Ax1 nx1 cx1) (p0 : Hp nz wz S0 w0 (Lr)) (fx0 : Rd kU S0 w0 Ax0 cx0 x0) (lx0 : x0.length = nx0) (fx1 : Rd kU S0 w0 Ax1 cx1 x1) (lx1 : x1.length = nx1) :
  Calls Tg 280 #[.slice Ax0 nx0 cx0, .slice Ax1 nx1 cx1] w0 (Rets (Post.z29 nz wz S0 w0 Lr r)) := by
 subst lx0
 subst lx1
 refine Zf Tryz.f280 B280 4 ?_
 refine Gj 6 [(0, Sl Ax0 x0 cx0), (1, Sl Ax1 x1 cx1)] fun junk => ?_
 delta M.a4t at h
 refine Gn 2 [] (Yt 10 B280 [0, 1, 2] (Ys 11 B280 [])) ?_
 refine Ob 60 0 2 0 (Sl Ax0 x0 cx0) [Sl Ax0 x0 cx0] p0 Xa fun b1 w2 z2 p2 => ?_
 refine Ob 60 1 3 0 (Sl Ax1 x1 cx1) [Sl Ax1 x1 cx1] p2 Xa fun b3 w3 z3 p3 => ?_
 refine Gm 7 [([4, 5], .func (.func 302) #[] #[(pt b1 0), (pt b3 0)])] (Ys 111 B280 []) ?_
 obtain rfl := sj h
 have p3 := (p3.fr 0).fr 1
 exact Xd Tryz.f280 (.func (.func 302) #[] #[(pt b1 0), (pt b3 0)]) ⟨_, _, _, _, _, _, _, _, _, rfl, (z2.t z3), p3, (fx0.ext (z2.t z3)), rfl, (fx1.ext (z2.t z3)), rfl⟩
def Post.z2a (r : Bool) (v : Value) (w' : World) : Prop :=
 ∃ S', v = .bool r ∧ Ext S0 w0 S' w' ∧ Hp nz wz S' w' (Lr)
theorem W.z2a (x0 : Int) (r : Bool) (h : M.a6x x0 = some r) {nz wz S0 w0 Lr} (p0 : Hp nz wz S0 w0 (Lr)) :
  Calls Tg 204 #[.i x0] w0 (Rets (Post.z2a nz wz S0 w0 Lr r)) := by
 refine Zf Tryz.f204 B204 4 ?_
 refine Gj 5 [(0, .i x0)] fun junk => ?_
 delta M.a6x at h
 refine Gm 10 [([2, 4], .bool (!(decide (x0 = 0)))), ([3], .i x0)] (Ys 111 B204 []) ?_
 obtain rfl := sj h
 exact Xd Tryz.f204 (.bool (!(decide (x0 = 0)))) ⟨_, rfl, (Xj S0 w0), p0⟩
def Jbl := Ys 111010101 B251 J2w
def Q8y := Yq 111010100 B251
def Jbm := Zr Q8y [0, 1, 2] Jbl
def Jbn := Zr Q8y [2] Jbl
def Q8z := Yq 1110101010 B251
def Jbo := Zr Q8z [0, 1, 2, 3, 4] J2w
def Jbp := Zr Q8z [2, 3, 4] J2w
def Q90 := Yq 111010 B251
def Q91 := Yq 1110101 B251
def Post.z2b (lk : Nat) (rk : Nat) (jkk : Nat → Value) (u7u : Nat) (u7v : Nat) (u7w : Nat) (u7x : Option Addr) (u7y : Nat) (u7z : Nat) (u80 : Nat) (u81 : Option Addr) (u82 : Nat) (u83 : Nat) (u84 : List Int) (u85 : List Int) (r : List Int) (v : Value) (w' : World) : Prop :=
 ∃ S' u86 u87 u88 u89, v = .bool true ∧ Ext S0 w0 S' w' ∧ Hp nz wz S' w' ((some lk, .obj (lpst 251 (lfr 23 [(5, (pt u7u 0)), (7, (pt u7v 0)), (12, .func (.func 302) #[] #[(pt u7w 0), (pt u80 0)])] jkk) #[13, 14] (rfAssign (Q90)) (rfBody (Q90)) rk .ready none)) :: (some u7u, .row 313 [.func (.func 204) #[] #[]] 1 0) :: (some u7v, .row 60 [.slice (Gp u86) u87 u88] 1 0) :: (u86, .row 22 u89 (u88 * kU.size) 0) :: (some u7w, .row 60 [.slice u7x u7y u7z] 1 0) :: (some u80, .row 60 [.slice u81 u82 u83] 1 0) :: Lr) ∧ Els kU S' w' u89 r ∧ r.length = u87
theorem W.z2b (u8a : List Int) (u84 : List Int) (u85 : List Int) (a0 : Int) (a1 : Int) (r : List Int) (h : M.a63 u8a u84 u85 a0 a1 = some r) {nz wz S0 w0 Lr} (lk rk jkk u7u u7v u8b u8c u8d u8e u7w u7x u7y u7z u80 u81 u82 u83) (p0 : Hp nz wz S0 w0 ((some lk, .obj (lpst 251 (lfr 23 [(5, (pt u7u 0)), (7, (pt u7v 0)), (12, .func (.func 302) #[] #[(pt u7w 0), (pt u80 0)])] jkk) #[13, 14] (rfAssign (Q90)) (rfBody (Q90)) rk .ready none)) :: (some u7u, .row 313 [.func (.func 204) #[] #[]] 1 0) :: (some u7v, .row 60 [.slice (Gp u8b) u8c u8d] 1 0) :: (u8b, .row 22 u8e (u8d * kU.size) 0) :: (some u7w, .row 60 [.slice u7x u7y u7z] 1 0) :: (some u80, .row 60 [.slice u81 u82 u83] 1 0) :: Lr)) (u8f : Els kU S0 w0 u8e u8a) (u8g : u8a.length = u8c) (u8h : Rd kU S0 w0 u7x u7z u84) (u8i : u84.length = u7y) (u8j : Rd kU S0 w0 u81 u83 u85) (u8k : u85.length = u82) :
  Goes Tg (rbase 251 lk) [.code (rfAssign (Q90)), .beginRound, .code (rfBody (Q90))] ⟨setp (lfr 23 [(5, (pt u7u 0)), (7, (pt u7v 0)), (12, .func (.func 302) #[] #[(pt u7w 0), (pt u80 0)])] jkk) #[13, 14] #[.u a0, .i a1], []⟩ w0 (DoneR (Post.z2b nz wz S0 w0 Lr lk rk jkk u7u u7v u7w u7x u7y u7z u80 u81 u82 u83 u84 u85 r)) := by
 subst u8g
 subst u8i
 subst u8k
 refine Gj 23 [(5, (pt u7u 0)), (7, (pt u7v 0)), (12, .func (.func 302) #[] #[(pt u7w 0), (pt u80 0)]), (13, .u a0), (14, .i a1)] fun junk => ?_
 delta M.a63 at h
 refine Gn 7 [(8, .u a0), (9, .i a1)] [.beginRound, .code (Q91)] ?_
 refine Goes.beginR 0 rfl p0 rfl fun w2 z2 p2 => ?_
 refine Gn 3 [] Jbm ?_
 refine Xc 313 5 15 313 ⟨u7u, 0, none⟩ (.func (.func 204) #[] #[]) (p2.c 1 0) ?_
 refine Gn 1 [(16, .i a1)] Jbn ?_
 refine Gb h fun y7 e8 h => ?_
 refine Gc (.call { callee := .value 15, args := #[16], argTypes := #[3] }) 17 4 204 _ (W.z2a a1 y7 e8  p2 ) ?_
 rintro _ w3 ⟨S3, rfl, z3, p3⟩
 refine Gn 1 [] Jbl ?_
 refine Gi h (fun h9 h => ?_) fun h9 h => ?_
 ·
  rw [h9]
  refine Gn 2 [] Jbo ?_
  refine Xc 60 7 18 60 ⟨u7v, 0, none⟩ (Sl (Gp u8b) u8a u8d) (p3.c 2 0) ?_
  refine Gn 1 [(19, .u a0)] Jbp ?_
  have f11 : Els kU S3 w3 ([.u a0] : List Value) [a0] := by exact (Els.cons (K := kU) (vs := [.u a0]) (x := a0) rfl Els.nil)
  refine Om (.buildSlice 60 1 #[(0, 19)]) 20 60 (fun b => .slice (Gp (some b)) 1 1) 22 ([.u a0] : List Value) (1 * kU.size) p3 Xa fun b10 w4 z4 p4 => ?_
  refine Gg h fun g16 h => ?_
  refine On (K := kU) 60 18 20 21 60 22 4 (.u 0) 8 u8a.length u8d 1 u8a [a0] (u8a ++ [a0]) (Gp (some b10)) 1 rfl rfl rfl p4 rfl (u8f.ext ((z2.t z3).t z4)) Xa (f11.ext z4) (src_own p4 (q := 0) rfl) g16 fun w5 G17 c18 u8l z5 p5 f20 => ?_
  refine So 60 7 21 0 3 u7v 0 (.slice (Gp G17) ((u8a ++ [a0]).length) c18) [.slice (Gp G17) ((u8a ++ [a0]).length) c18] p5 rfl Xe fun w6 z6 p6 => ?_
  refine Gn 2 [] [] ?_
  have p6 := p6.dp 0
  obtain rfl := sj h
  refine Goes.endR 0 p6 rfl fun w7 z7 p7 => ?_
  exact ⟨S3, G17, (u8a ++ [a0]).length, c18, u8l, rfl, (((((z2.t z3).t z4).t z5).t z6).t z7), p7, (f20.ext (z6.t z7)), rfl⟩
 ·
  rw [bf h9]
  refine Gn 3 [] [] ?_
  obtain rfl := sj h
  refine Goes.endR 0 p3 rfl fun w8 z8 p8 => ?_
  exact ⟨S3, u8b, u8a.length, u8d, u8e, rfl, ((z2.t z3).t z8), p8, (u8f.ext ((z2.t z3).t z8)), rfl⟩
end
end Go.Gx
