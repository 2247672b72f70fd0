import Derived.Test.YtdccklkdakfnaaaGreatMGs
import Derived.Test.YtdccklkdakfnaaaGreatGJ
import Derived.Test.YtdccklkdakfnaaaGreatGG
import Derived.Test.YtdccklkdakfnaaaGreatGK
import Derived.Test.YtdccklkdakfnaaaGreatGL
import Derived.Test.YtdccklkdakfnaaaGreatGV
import Derived.Test.YtdccklkdakfnaaaGreatHI
import Derived.Test.YtdccklkdakfnaaaGreatProg
set_option linter.unusedVariables false
set_option linter.unusedSimpArgs false
set_option maxRecDepth 100000
set_option maxHeartbeats 4000000
namespace Go.Gx
open Go.RowKit Go.Proofs
variable (nz : Nat) (wz : World) (S0 : Fz) (w0 : World) (Lr : List Ent)
noncomputable section
noncomputable def B7 := Tryz.f7.body.getD .skip
noncomputable def B11 := Tryz.f11.body.getD .skip
noncomputable def B13 := Tryz.f13.body.getD .skip
noncomputable def B16 := Tryz.f16.body.getD .skip
noncomputable def B20 := Tryz.f20.body.getD .skip
noncomputable def B22 := Tryz.f22.body.getD .skip
noncomputable def B24 := Tryz.f24.body.getD .skip
noncomputable def B25 := Tryz.f25.body.getD .skip
noncomputable def B27 := Tryz.f27.body.getD .skip
noncomputable def B34 := Tryz.f34.body.getD .skip
noncomputable def B35 := Tryz.f35.body.getD .skip
noncomputable def B52 := Tryz.f52.body.getD .skip
noncomputable def B53 := Tryz.f53.body.getD .skip
noncomputable def B54 := Tryz.f54.body.getD .skip
noncomputable def B58 := Tryz.f58.body.getD .skip
noncomputable def B59 := Tryz.f59.body.getD .skip
noncomputable def B61 := Tryz.f61.body.getD .skip
noncomputable def B62 := Tryz.f62.body.getD .skip
noncomputable def B67 := Tryz.f67.body.getD .skip
noncomputable def B68 := Tryz.f68.body.getD .skip
noncomputable def B69 := Tryz.f69.body.getD .skip
noncomputable def B74 := Tryz.f74.body.getD .skip
noncomputable def B87 := Tryz.f87.body.getD .skip
noncomputable def B88 := Tryz.f88.body.getD .skip
noncomputable def B89 := Tryz.f89.body.getD .skip
noncomputable def B90 := Tryz.f90.body.getD .skip
noncomputable def B91 := Tryz.f91.body.getD .skip
noncomputable def B92 := Tryz.f92.body.getD .skip
noncomputable def B114 := Tryz.f114.body.getD .skip
noncomputable def B115 := Tryz.f115.body.getD .skip
noncomputable def B116 := Tryz.f116.body.getD .skip
noncomputable def B117 := Tryz.f117.body.getD .skip
noncomputable def B118 := Tryz.f118.body.getD .skip
noncomputable def B125 := Tryz.f125.body.getD .skip
noncomputable def B127 := Tryz.f127.body.getD .skip
noncomputable def B128 := Tryz.f128.body.getD .skip
noncomputable def B129 := Tryz.f129.body.getD .skip
noncomputable def B131 := Tryz.f131.body.getD .skip
noncomputable def B132 := Tryz.f132.body.getD .skip
noncomputable def B133 := Tryz.f133.body.getD .skip
noncomputable def B134 := Tryz.f134.body.getD .skip
noncomputable def B136 := Tryz.f136.body.getD .skip
noncomputable def B137 := Tryz.f137.body.getD .skip
noncomputable def B138 := Tryz.f138.body.getD .skip
noncomputable def B146 := Tryz.f146.body.getD .skip
noncomputable def B147 := Tryz.f147.body.getD .skip
noncomputable def B148 := Tryz.f148.body.getD .skip
noncomputable def B149 := Tryz.f149.body.getD .skip
noncomputable def B150 := Tryz.f150.body.getD .skip
noncomputable def B151 := Tryz.f151.body.getD .skip
noncomputable def B152 := Tryz.f152.body.getD .skip
noncomputable def B153 := Tryz.f153.body.getD .skip
noncomputable def B154 := Tryz.f154.body.getD .skip
noncomputable def B155 := Tryz.f155.body.getD .skip
noncomputable def B156 := Tryz.f156.body.getD .skip
noncomputable def B157 := Tryz.f157.body.getD .skip
noncomputable def B158 := Tryz.f158.body.getD .skip
noncomputable def B179 := Tryz.f179.body.getD .skip
noncomputable def B180 := Tryz.f180.body.getD .skip
noncomputable def B181 := Tryz.f181.body.getD .skip
noncomputable def B182 := Tryz.f182.body.getD .skip
noncomputable def B183 := Tryz.f183.body.getD .skip
noncomputable def B184 := Tryz.f184.body.getD .skip
noncomputable def B185 := Tryz.f185.body.getD .skip
noncomputable def B186 := Tryz.f186.body.getD .skip
noncomputable def B187 := Tryz.f187.body.getD .skip
noncomputable def B188 := Tryz.f188.body.getD .skip
noncomputable def B189 := Tryz.f189.body.getD .skip
noncomputable def B190 := Tryz.f190.body.getD .skip
noncomputable def B192 := Tryz.f192.body.getD .skip
noncomputable def B195 := Tryz.f195.body.getD .skip
noncomputable def B197 := Tryz.f197.body.getD .skip
noncomputable def B198 := Tryz.f198.body.getD .skip
noncomputable def B199 := Tryz.f199.body.getD .skip
noncomputable def B201 := Tryz.f201.body.getD .skip
noncomputable def B202 := Tryz.f202.body.getD .skip
noncomputable def B206 := Tryz.f206.body.getD .skip
noncomputable def B207 := Tryz.f207.body.getD .skip
noncomputable def B208 := Tryz.f208.body.getD .skip
noncomputable def B209 := Tryz.f209.body.getD .skip
noncomputable def B210 := Tryz.f210.body.getD .skip
noncomputable def B211 := Tryz.f211.body.getD .skip
noncomputable def B212 := Tryz.f212.body.getD .skip
noncomputable def B213 := Tryz.f213.body.getD .skip
noncomputable def B214 := Tryz.f214.body.getD .skip
noncomputable def B215 := Tryz.f215.body.getD .skip
noncomputable def B216 := Tryz.f216.body.getD .skip
noncomputable def B230 := Tryz.f230.body.getD .skip
noncomputable def B231 := Tryz.f231.body.getD .skip
noncomputable def B232 := Tryz.f232.body.getD .skip
noncomputable def B233 := Tryz.f233.body.getD .skip
noncomputable def B234 := Tryz.f234.body.getD .skip
noncomputable def B235 := Tryz.f235.body.getD .skip
noncomputable def B247 := Tryz.f247.body.getD .skip
noncomputable def B248 := Tryz.f248.body.getD .skip
noncomputable def B250 := Tryz.f250.body.getD .skip
noncomputable def B252 := Tryz.f252.body.getD .skip
noncomputable def B253 := Tryz.f253.body.getD .skip
noncomputable def B254 := Tryz.f254.body.getD .skip
noncomputable def B255 := Tryz.f255.body.getD .skip
noncomputable def B267 := Tryz.f267.body.getD .skip
noncomputable def B273 := Tryz.f273.body.getD .skip
noncomputable def B274 := Tryz.f274.body.getD .skip
noncomputable def B275 := Tryz.f275.body.getD .skip
noncomputable def B276 := Tryz.f276.body.getD .skip
noncomputable def B277 := Tryz.f277.body.getD .skip
noncomputable def B278 := Tryz.f278.body.getD .skip
noncomputable def B279 := Tryz.f279.body.getD .skip
noncomputable def B281 := Tryz.f281.body.getD .skip
noncomputable def B296 := Tryz.f296.body.getD .skip
noncomputable def B297 := Tryz.f297.body.getD .skip
noncomputable def B298 := Tryz.f298.body.getD .skip
noncomputable def B299 := Tryz.f299.body.getD .skip
noncomputable def B300 := Tryz.f300.body.getD .skip
noncomputable def B301 := Tryz.f301.body.getD .skip
noncomputable def B313 := Tryz.f313.body.getD .skip
noncomputable def B314 := Tryz.f314.body.getD .skip
noncomputable def B315 := Tryz.f315.body.getD .skip
noncomputable def B316 := Tryz.f316.body.getD .skip
noncomputable def B322 := Tryz.f322.body.getD .skip
noncomputable def B323 := Tryz.f323.body.getD .skip
noncomputable abbrev Tg : Program := Tryz.prog
theorem Xa : type_of% @Goes.v := @Goes.v
theorem Xb : type_of% @Goes.ld := @Goes.ld
theorem Xc : type_of% @Goes.rt := @Goes.rt
theorem Xd : type_of% @Goes.s := @Goes.s
theorem Xe : type_of% @AnyG.pu := @AnyG.pu
theorem Xf : type_of% @Goes.ldN := @Goes.ldN
theorem Xg : type_of% @Ext.refl := @Ext.refl
theorem Xh : type_of% @Els.len1 := @Els.len1
theorem Xi : type_of% @AnyG.last := @AnyG.last
theorem Xj : type_of% @AnyG.s1 := @AnyG.s1
theorem Xk : type_of% @Cells.app := @Cells.app
theorem Xl : type_of% @AnyG.next := @AnyG.next
theorem Xm : type_of% @Ext.draw := @Ext.draw
theorem Xn : type_of% @Op_.stA := @Op_.stA
theorem Xo : type_of% @Els.one := @Els.one
theorem Xp : type_of% @Op_.ldN := @Op_.ldN
theorem Xq : type_of% @Rd.none_ := @Rd.none_
theorem Xr : type_of% @Goes.end_ := @Goes.end_
theorem Xs : type_of% @Cells.rowO := @Cells.rowO
theorem Xt : type_of% @Op_.ixO_n := @Op_.ixO_n
theorem Xu : type_of% @Goes.ret := @Goes.ret
theorem Xv : type_of% @AnyG.ldN := @AnyG.ldN
abbrev vT26 (x : T26) (a : Option Addr) (b : Nat) (c : Nat) : List Value := .i x.Kind :: U4 x.Set [.slice a b c, .i x.Min, .i x.Max]
abbrev vT134 (x : T134) (a : Value) : List Value := [.string x.s, .i x.at_, .i x.deep, a]
abbrev vT370 (x : T370) : List Value := U4 x.set_ [.int .u8 x.b, .bool x.single]
abbrev vT218 (x : T218) (a : Option Addr) (b : Nat) (c : Nat) : List Value := [.slice a b c, .bool x.known]
abbrev vT29 (x : T29) (a : Option Addr) (b : Nat) (c : Nat) : List Value := [.i x.Op, .string x.Text, .slice a b c]
abbrev vT174 (x : T174) : List Value := .i x.Op :: U4 x.Set [.i x.X, .i x.Y]
def kT26_f (K : Kd T26) : Kd T26 := kMap (fun s => (s.Kind, s.Set, s.L, s.Min, s.Max)) (kProd (kInt .i64) (kProd (kArr 4 (kInt .u64)) (kProd (kSl K) (kProd (kInt .i64) (kInt .i64)))))
theorem kT26_c : Kc kT26_f := Kc.map _ (Kc.prod (Kc.const _) (Kc.prod (Kc.const _) (Kc.prod (Kc.sl Kc.id) (Kc.prod (Kc.const _) (Kc.const _)))))
def kT26 : Kd T26 := kFix kT26_f 8 kT26_c (fun _ => rfl)
theorem kT26_open {S w vs x} (h : kT26.rep S w vs x) : (kT26_f kT26).rep S w vs x := kFix_open kT26_c _ h
theorem kT26_close {S w vs x} (h : (kT26_f kT26).rep S w vs x) : kT26.rep S w vs x := kFix_close kT26_c _ h
def kT138 : Kd T138 := kMap (fun s => s.at_) (kInt .i64)
def kT134 : Kd T134 := kMap (fun s => (s.s, s.at_, s.deep, s.bad)) (kProd kStr (kProd (kInt .i64) (kProd (kInt .i64) (kPtr kT138))))
def kT370 : Kd T370 := kMap (fun s => (s.set_, s.b, s.single)) (kProd (kArr 4 (kInt .u64)) (kProd (kInt .u8) kBool))
def kT218 : Kd T218 := kMap (fun s => (s.l, s.known)) (kProd (kSl kStr) kBool)
def kT29_f (K : Kd T29) : Kd T29 := kMap (fun s => (s.Op, s.Text, s.L)) (kProd (kInt .i64) (kProd kStr (kSl K)))
theorem kT29_c : Kc kT29_f := Kc.map _ (Kc.prod (Kc.const _) (Kc.prod (Kc.const _) (Kc.sl Kc.id)))
def kT29 : Kd T29 := kFix kT29_f 3 kT29_c (fun _ => rfl)
theorem kT29_open {S w vs x} (h : kT29.rep S w vs x) : (kT29_f kT29).rep S w vs x := kFix_open kT29_c _ h
theorem kT29_close {S w vs x} (h : (kT29_f kT29).rep S w vs x) : kT29.rep S w vs x := kFix_close kT29_c _ h
def kT174 : Kd T174 := kMap (fun s => (s.Op, s.Set, s.X, s.Y)) (kProd (kInt .i64) (kProd (kArr 4 (kInt .u64)) (kProd (kInt .i64) (kInt .i64))))
def kT170 : Kd T170 := kMap (fun s => s.l) (kSl kT174)
def kC247 (gw : Nat) : Kd (T26 ⊕ T26 ⊕ (Int × T26)) := (kSum (kFn 206 (kMap (fun (y : T26) => ((), y)) (kProd (kFixW gw) (kBox kT26)))) (kSum (kFn 252 (kMap (fun (y : T26) => ((), y)) (kProd (kFixW gw) (kBox kT26)))) (kFn 253 (kMap (fun (y : Int × T26) => ((), y.1, y.2)) (kProd (kFixW gw) (kProd (kBox (kInt .i64)) (kBox kT26))))) rfl) rfl)
def kT248 (gw : Nat) : Kd T248 := kMap (fun s => (s.n, s.code)) (kProd (kInt .i64) (kC247 gw))
def kT265 : Kd T265 := kMap (fun s => (s.place, s.list)) (kProd (kSl (kInt .i64)) (kSl (kInt .i64)))
def J0 := Ys 111 B197 []
def J1 := Ys 1101 B197 J0
def Post.z0 (gx0 : Nat) (r : Int × T134) (v : Value) (w' : World) : Prop :=
 ∃ S' u0, v = .int .u8 r.1 ∧ Ext S0 w0 S' w' ∧ Hp nz wz S' w' ((some gx0, .row 135 (vT134 r.2 u0) 4 0) :: Lr) ∧ PtO kT138 S' w' u0 r.2.bad
def L.z1 (gx0 : Nat) : Bool × T134 → (Int × T134) → Prop := fun ⟨x19, e0v⟩ r => ∀ S1 w1, Ext S0 w0 S1 w1 → ∀ u0 (_ : Hp nz wz S1 w1 ((some gx0, .row 135 (vT134 e0v u0) 4 0) :: Lr)) (_ : PtO kT138 S1 w1 u0 e0v.bad) (junk : Nat → Value),
 Goes Tg (base 197) J1 ⟨lfr 29 [(0, (pt gx0 0)), (19, .bool x19)] junk, []⟩ w1 (Done Tg 197 (Rets (Post.z0 nz wz S0 w0 Lr gx0 r)))
theorem W.z1 {nz wz S0 w0 Lr} (gx0 : Nat) : ∀ a r, M.a5k a = some r → L.z1 nz wz S0 w0 Lr gx0 a r := by
 intro ⟨x19, e0v⟩ r h S1 w1 hx u0 p1 u1 junk
 rw [M.a5k] at h
 try dsimp only at h
 refine Gi h (fun h9 h => ?_) fun h9 h => ?_
 ·
  rw [h9]
  refine Gn 5 [(2, .int .u8 0)] (Ys 110101 B197 J0) ?_
  obtain rfl := sj h
  exact Xc Tryz.f197 (.int .u8 0) ⟨_, _, rfl, hx, p1, u1⟩
 ·
  rw [bf h9]
  refine Gn 3 [] (Ys 1110 B197 (Ys 1111 B197 [])) ?_
  have z3 : Ext S1 w1 S1 (w1).drew := Xm
  have p3 := p1.draw
  refine Gd [] (Fc S1 (w1).drew [(⟨gx0, 0, none⟩, .string e0v.s), (⟨gx0, 1, none⟩, .i e0v.at_)]) 3 10 ?_
  generalize (w1).drew = w3 at z3 p3 ⊢
  refine Xe 0 (.move 0) 20 132 ((pt gx0 0)) (p3.k [(0, 0, 2)]) ?_
  refine Xe 1 (.nilCheck 20) 21 0 ((pt gx0 0)) (p3.k [(0, 0, 2)]) ?_
  refine Xe 2 (.fieldAddr 135 21 0) 22 0 ((pt gx0 0)) (p3.k [(0, 0, 2)]) ?_
  refine Al 3 9 22 23 9 ⟨gx0, 0, none⟩ (.string e0v.s) (p3.k [(0, 0, 2)]) (fun _ h => h.2.at_ 0 rfl) ?_
  refine Xe 4 (.move 0) 24 132 ((pt gx0 0)) (p3.k [(0, 0, 2)]) ?_
  refine Xe 5 (.nilCheck 24) 25 0 ((pt gx0 0)) (p3.k [(0, 0, 2)]) ?_
  refine Xe 6 (.fieldAddr 135 25 1) 26 0 ((pt gx0 1)) (p3.k [(0, 0, 2)]) ?_
  refine Al 7 3 26 27 3 ⟨gx0, 1, none⟩ (.i e0v.at_) (p3.k [(0, 0, 2)]) (fun _ h => h.2.at_ 1 rfl) ?_
  refine Gg h fun g10 h => ?_
  refine Gg h fun g11 h => ?_
  refine AnyG.ixS (i := 8) 9 23 27 28 5 .i64 e0v.s e0v.at_ (by kernel_rfl) (by kernel_rfl) (p3.k [(0, 0, 2)]) (by kernel_rfl) (by kernel_rfl) (by kernel_rfl) g10 g11 ?_
  refine Xe 9 (.assign 28) 2 5 (.int .u8 (bt e0v.s e0v.at_)) (p3.k [(0, 0, 2)]) ?_
  refine Ad ?_
  obtain rfl := sj h
  exact Xc Tryz.f197 (.int .u8 (bt e0v.s e0v.at_)) ⟨_, _, rfl, (hx.t z3), p3, (u1.ext z3)⟩
theorem W.z0 (x0v : T134) (r : Int × T134) (h : M.a2 x0v = some r) {nz wz S0 w0 Lr} (gx0 u2) (p0 : Hp nz wz S0 w0 ((some gx0, .row 135 (vT134 x0v u2) 4 0) :: Lr)) (u3 : PtO kT138 S0 w0 u2 x0v.bad) :
  Calls Tg 197 #[(pt gx0 0)] w0 (Rets (Post.z0 nz wz S0 w0 Lr gx0 r)) := by
 refine Zf Tryz.f197 B197 28 ?_
 refine Gj 29 [(0, (pt gx0 0))] fun junk => ?_
 delta M.a2 at h
 refine Gn 6 [(2, .int .u8 0)] (Ys 1100 B197 J1) ?_
 have z2 : Ext S0 w0 S0 (w0).drew := Xm
 have p2 := p0.draw
 refine Gd [] (Fc S0 (w0).drew [(⟨gx0, 3, none⟩, u2), (⟨gx0, 1, none⟩, .i x0v.at_), (⟨gx0, 0, none⟩, .string x0v.s)]) 1 17 ?_
 generalize (w0).drew = w2 at z2 p2 ⊢
 refine Xe 0 (.move 0) 3 132 ((pt gx0 0)) (p2.k [(0, 3, 1), (0, 1, 1), (0, 0, 1)]) ?_
 refine Xe 1 (.nilCheck 3) 4 0 ((pt gx0 0)) (p2.k [(0, 3, 1), (0, 1, 1), (0, 0, 1)]) ?_
 refine Xe 2 (.fieldAddr 135 4 3) 5 0 ((pt gx0 3)) (p2.k [(0, 3, 1), (0, 1, 1), (0, 0, 1)]) ?_
 refine Al 3 133 5 6 133 ⟨gx0, 3, none⟩ (u2) (p2.k [(0, 3, 1), (0, 1, 1), (0, 0, 1)]) (fun _ h => h.2.at_ 0 rfl) ?_
 refine Gl h fun v8 h2 h => ?_
 rcases v8 with _ | y3
 ·
  try dsimp only at h
  obtain rfl := PtO.nil (u3.ext z2) h2
  refine Xe 4 (.binOp .neq 133 6 (.const (.pointer none)) 133) 7 4 (.bool false) (p2.k [(0, 3, 1), (0, 1, 1), (0, 0, 1)]) ?_
  refine Xe 5 (.move 7) 8 4 (.bool false) (p2.k [(0, 3, 1), (0, 1, 1), (0, 0, 1)]) ?_
  refine Xe 6 (.move 0) 9 132 ((pt gx0 0)) (p2.k [(0, 3, 1), (0, 1, 1), (0, 0, 1)]) ?_
  refine Xe 7 (.nilCheck 9) 10 0 ((pt gx0 0)) (p2.k [(0, 3, 1), (0, 1, 1), (0, 0, 1)]) ?_
  refine Xe 8 (.fieldAddr 135 10 1) 11 0 ((pt gx0 1)) (p2.k [(0, 3, 1), (0, 1, 1), (0, 0, 1)]) ?_
  refine Al 9 3 11 12 3 ⟨gx0, 1, none⟩ (.i x0v.at_) (p2.k [(0, 3, 1), (0, 1, 1), (0, 0, 1)]) (fun _ h => h.2.at_ 1 rfl) ?_
  refine Xe 10 (.move 0) 13 132 ((pt gx0 0)) (p2.k [(0, 3, 1), (0, 1, 1), (0, 0, 1)]) ?_
  refine Xe 11 (.nilCheck 13) 14 0 ((pt gx0 0)) (p2.k [(0, 3, 1), (0, 1, 1), (0, 0, 1)]) ?_
  refine Xe 12 (.fieldAddr 135 14 0) 15 0 ((pt gx0 0)) (p2.k [(0, 3, 1), (0, 1, 1), (0, 0, 1)]) ?_
  refine Al 13 9 15 16 9 ⟨gx0, 0, none⟩ (.string x0v.s) (p2.k [(0, 3, 1), (0, 1, 1), (0, 0, 1)]) (fun _ h => h.2.at_ 2 rfl) ?_
  refine Xe 14 (.call { callee := .builtin .len, args := #[16], argTypes := #[9] }) 17 3 (.i (x0v.s.size : Int)) (p2.k [(0, 3, 1), (0, 1, 1), (0, 0, 1)]) ?_
  refine Xe 15 (.binOp .geq 3 12 17 3) 18 4 (.bool (decide (x0v.at_ ≥ (x0v.s.size : Int)))) (p2.k [(0, 3, 1), (0, 1, 1), (0, 0, 1)]) ?_
  refine Xe 16 (.pick 8 (.const (.bool true)) 18) 19 4 (.bool (decide (x0v.at_ ≥ (x0v.s.size : Int)))) (p2.k [(0, 3, 1), (0, 1, 1), (0, 0, 1)]) ?_
  refine Ad ?_
  exact Gj 29 [(0, (pt gx0 0)), (19, .bool (decide (x0v.at_ ≥ (x0v.s.size : Int))))] (W.z1 gx0 _ _ h _ _ z2 (.pointer none) p2 rfl)
 ·
  try dsimp only at h
  obtain ⟨a5, _, rfl, -, f6, q7⟩ := PtO.got (u3.ext z2) h2
  obtain rfl := q7
  refine Xe 4 (.binOp .neq 133 6 (.const (.pointer none)) 133) 7 4 (.bool true) (p2.k [(0, 3, 1), (0, 1, 1), (0, 0, 1)]) ?_
  refine Xe 5 (.move 7) 8 4 (.bool true) (p2.k [(0, 3, 1), (0, 1, 1), (0, 0, 1)]) ?_
  refine Xj 6 9 (p2.k [(0, 3, 1), (0, 1, 1), (0, 0, 1)]) ?_
  refine Xj 7 10 (p2.k [(0, 3, 1), (0, 1, 1), (0, 0, 1)]) ?_
  refine Xj 8 11 (p2.k [(0, 3, 1), (0, 1, 1), (0, 0, 1)]) ?_
  refine Xj 9 12 (p2.k [(0, 3, 1), (0, 1, 1), (0, 0, 1)]) ?_
  refine Xj 10 13 (p2.k [(0, 3, 1), (0, 1, 1), (0, 0, 1)]) ?_
  refine Xj 11 14 (p2.k [(0, 3, 1), (0, 1, 1), (0, 0, 1)]) ?_
  refine Xj 12 15 (p2.k [(0, 3, 1), (0, 1, 1), (0, 0, 1)]) ?_
  refine Xj 13 16 (p2.k [(0, 3, 1), (0, 1, 1), (0, 0, 1)]) ?_
  refine Xj 14 17 (p2.k [(0, 3, 1), (0, 1, 1), (0, 0, 1)]) ?_
  refine Xj 15 18 (p2.k [(0, 3, 1), (0, 1, 1), (0, 0, 1)]) ?_
  refine Xe 16 (.pick 8 (.const (.bool true)) 18) 19 4 (.bool true) (p2.k [(0, 3, 1), (0, 1, 1), (0, 0, 1)]) ?_
  refine Ad ?_
  exact Gj 29 [(0, (pt gx0 0)), (19, .bool true)] (W.z1 gx0 _ _ h _ _ z2 _ p2 ⟨_, _, rfl, List.cons_ne_nil _ _, f6, rfl⟩)
def J8 := Ys 111 B69 []
def Qb := Yq 11010 B69
def Jd := Ys 1111 B69 []
def Je := Yt 1110 B69 [1] Jd
def Post.z2 (gx0 : Nat) (r : T26 × T134) (v : Value) (w' : World) : Prop :=
 ∃ S' u4 u5 u6 u0, v = (ag (vT26 r.1 u4 u5 u6)) ∧ Ext S0 w0 S' w' ∧ Hp nz wz S' w' ((some gx0, .row 135 (vT134 r.2 u0) 4 0) :: Lr) ∧ r.1.Set.length = 4 ∧ Rd kT26 S' w' u4 u6 r.1.L ∧ r.1.L.length = u5 ∧ PtO kT138 S' w' u0 r.2.bad
theorem W.z2 (x0v : T134) (x1 : Int) (r : T26 × T134) (h : M.a1 x0v x1 = some r) {nz wz S0 w0 Lr} (gx0 u2) (p0 : Hp nz wz S0 w0 ((some gx0, .row 135 (vT134 x0v u2) 4 0) :: Lr)) (u3 : PtO kT138 S0 w0 u2 x0v.bad) :
  Calls Tg 69 #[(pt gx0 0), .i x1] w0 (Rets (Post.z2 nz wz S0 w0 Lr gx0 r)) := by
 refine Zf Tryz.f69 B69 15 ?_
 refine Gj 17 [(0, (pt gx0 0)), (1, .i x1)] fun junk => ?_
 delta M.a1 at h
 refine Gn 2 [] (Yt 10 B69 [0] (Ys 11 B69 [])) ?_
 refine Oa 27 4 0 (.agg #[.i 0, .u 0, .u 0, .u 0, .u 0, .slice none 0 0, .i 0, .i 0]) [.i 0, .u 0, .u 0, .u 0, .u 0, .slice none 0 0, .i 0, .i 0] p0 Xa fun b2 w2 z2 p2 => ?_
 refine Gm 7 [([5, 6], (pt gx0 0)), ([7], (pt gx0 3))] (Yt 1100 B69 [3, 4] (Ys 1101 B69 J8)) ?_
 refine Xb 133 7 8 133 ⟨gx0, 3, none⟩ (u2) (p2.c 1 3) ?_
 refine Gl h fun v13 h4 h => ?_
 rcases v13 with _ | y5
 ·
  try dsimp only at h
  obtain rfl := PtO.nil (u3.ext z2) h4
  refine Gn 7 [(9, .bool true), (10, (pt gx0 0)), (11, .i x1), (12, .agg #[.i x1])] (Zr Qb [3, 4, 5, 6] J8) ?_
  refine Ob 139 12 13 133 (.agg #[.i x1]) [.i x1] p2 Xa fun b10 w3 z3 p3 => ?_
  refine Gn 2 [(14, (pt gx0 0)), (15, (pt gx0 3))] (Zr Qb [6] J8) ?_
  refine So 133 15 13 0 2 gx0 3 ((pt b10 0)) [(pt b10 0)] p3 rfl Xd fun w4 z4 p4 => ?_
  refine Gn 4 [(16, .agg #[.i 0, .u 0, .u 0, .u 0, .u 0, .slice none 0 0, .i 0, .i 0])] Je ?_
  refine So 27 4 16 0 1 b2 0 (.agg #[.i 0, .u 0, .u 0, .u 0, .u 0, .slice none 0 0, .i 0, .i 0]) [.i 0, .u 0, .u 0, .u 0, .u 0, .slice none 0 0, .i 0, .i 0] p4 rfl Xd fun w5 z5 p5 => ?_
  refine Gn 1 [] Jd ?_
  obtain ⟨S6, z6, p6, f12⟩ := p5.freezeBlk 0 rfl
  obtain rfl := sj h
  exact R1 Tryz.f69 (.cell 4 27) (.agg #[.i 0, .u 0, .u 0, .u 0, .u 0, .slice none 0 0, .i 0, .i 0]) (Rn b2 (p6.pa 0 0)) ⟨_, _, _, _, _, rfl, ((((z2.t z3).t z4).t z5).t z6), p6.drop, rfl, Xq, rfl, ⟨_, _, rfl, List.cons_ne_nil _ _, f12, rfl⟩⟩
 ·
  try dsimp only at h
  obtain ⟨a7, _, rfl, -, f8, q9⟩ := PtO.got (u3.ext z2) h4
  obtain rfl := q9
  refine Gn 7 [(9, .bool false), (16, .agg #[.i 0, .u 0, .u 0, .u 0, .u 0, .slice none 0 0, .i 0, .i 0])] Je ?_
  refine So 27 4 16 0 0 b2 0 (.agg #[.i 0, .u 0, .u 0, .u 0, .u 0, .slice none 0 0, .i 0, .i 0]) [.i 0, .u 0, .u 0, .u 0, .u 0, .slice none 0 0, .i 0, .i 0] p2 rfl Xd fun w7 z7 p7 => ?_
  refine Gn 1 [] Jd ?_
  obtain rfl := sj h
  exact R1 Tryz.f69 (.cell 4 27) (.agg #[.i 0, .u 0, .u 0, .u 0, .u 0, .slice none 0 0, .i 0, .i 0]) (Rn b2 (p7.pa 0 0)) ⟨_, _, _, _, _, rfl, (z2.t z7), p7.drop, rfl, Xq, rfl, ⟨_, _, rfl, List.cons_ne_nil _ _, (f8.ext z7), rfl⟩⟩
def Jf := Ys 111 B132 []
def Jg := Ys 1101 B132 Jf
def Ji := Ys 1111 B132 []
def Qi := Yq 1110 B132
def Post.z3 (gx0 : Nat) (r : Bool × T134) (v : Value) (w' : World) : Prop :=
 ∃ S' u0, v = .bool r.1 ∧ Ext S0 w0 S' w' ∧ Hp nz wz S' w' ((some gx0, .row 135 (vT134 r.2 u0) 4 0) :: Lr) ∧ PtO kT138 S' w' u0 r.2.bad
def L.z4 (gx0 : Nat) : Bool × T134 → (Bool × T134) → Prop := fun ⟨x12, e0v⟩ r => ∀ S1 w1, Ext S0 w0 S1 w1 → ∀ u0 (_ : Hp nz wz S1 w1 ((some gx0, .row 135 (vT134 e0v u0) 4 0) :: Lr)) (_ : PtO kT138 S1 w1 u0 e0v.bad) (junk : Nat → Value),
 Goes Tg (base 132) Jg ⟨lfr 20 [(0, (pt gx0 0)), (12, .bool x12)] junk, []⟩ w1 (Done Tg 132 (Rets (Post.z3 nz wz S0 w0 Lr gx0 r)))
theorem W.z4 {nz wz S0 w0 Lr} (gx0 : Nat) : ∀ a r, M.a5l a = some r → L.z4 nz wz S0 w0 Lr gx0 a r := by
 intro ⟨x12, e0v⟩ r h S1 w1 hx u0 p1 u1 junk
 rw [M.a5l] at h
 try dsimp only at h
 refine Gi h (fun h5 h => ?_) fun h5 h => ?_
 ·
  rw [h5]
  refine Gn 5 [(4, .bool false)] (Ys 110101 B132 Jf) ?_
  obtain rfl := sj h
  exact Xc Tryz.f132 (.bool false) ⟨_, _, rfl, hx, p1, u1⟩
 ·
  rw [bf h5]
  refine Gm 7 [([13, 14], (pt gx0 0)), ([15], (pt gx0 1))] (Zr Qi [3, 4, 5, 6, 7] Ji) ?_
  refine Xb 3 15 16 3 ⟨gx0, 1, none⟩ (.i e0v.at_) (p1.c 0 1) ?_
  refine Gn 3 [(17, .i (wr .i64 (e0v.at_ + 1))), (18, (pt gx0 0)), (19, (pt gx0 1))] (Zr Qi [7] Ji) ?_
  refine So 3 19 17 0 0 gx0 1 (.i (wr .i64 (e0v.at_ + 1))) [.i (wr .i64 (e0v.at_ + 1))] p1 rfl Xd fun w3 z3 p3 => ?_
  refine Gn 5 [(4, .bool true)] (Ys 11111 B132 []) ?_
  obtain rfl := sj h
  exact Xc Tryz.f132 (.bool true) ⟨_, _, rfl, (hx.t z3), p3, (u1.ext z3)⟩
def Qk := Yq 1100 B132
theorem W.z3 (x0v : T134) (x1 : Int) (r : Bool × T134) (h : M.a0 x0v x1 = some r) {nz wz S0 w0 Lr} (gx0 u2) (p0 : Hp nz wz S0 w0 ((some gx0, .row 135 (vT134 x0v u2) 4 0) :: Lr)) (u3 : PtO kT138 S0 w0 u2 x0v.bad) :
  Calls Tg 132 #[(pt gx0 0), .int .u8 x1] w0 (Rets (Post.z3 nz wz S0 w0 Lr gx0 r)) := by
 refine Zf Tryz.f132 B132 18 ?_
 refine Gj 20 [(0, (pt gx0 0)), (1, .int .u8 x1)] fun junk => ?_
 delta M.a0 at h
 refine Gm 10 [([4], .bool false), ([5], .int .u8 x1), ([6, 7], .bool (decide (x1 = 0)))] (Zr Qk [3, 4, 5, 6, 7] Jg) ?_
 refine Gi h (fun h2 h => ?_) fun h2 h => ?_
 ·
  rw [dt h2]
  refine Gm 6 [([8, 9, 10, 11], undef), ([12], .bool true)] Jg ?_
  exact Gj 20 [(0, (pt gx0 0)), (12, .bool true)] (W.z4 gx0 _ _ h _ _ (Xg S0 w0) _ p0 u3)
 ·
  rw [df h2]
  refine Gn 1 [(8, (pt gx0 0))] (Zr Qk [4, 5, 6, 7] Jg) ?_
  refine Gb h fun y3 e4 h => ?_
  refine Gc (kc 197 [8] #[132]) 9 5 197 _ (W.z0 x0v y3 e4 _ _ p0 u3) ?_
  rintro _ w2 ⟨S2, u7, rfl, z2, p2, u8⟩
  refine Gm 4 [([10], .int .u8 x1), ([11, 12], .bool (!(decide (y3.1 = x1))))] Jg ?_
  exact Gj 20 [(0, (pt gx0 0)), (12, .bool (!(decide (y3.1 = x1))))] (W.z4 gx0 _ _ h _ _ z2 _ p2 u8)
def Ju := Ys 11111 B274 []
def Post.z5 (r : List Int) (v : Value) (w' : World) : Prop :=
 ∃ S' vsq, v = .agg vsq.toArray ∧ Ext S0 w0 S' w' ∧ Hp nz wz S' w' (Lr) ∧ Els (kInt .u64) S' w' vsq r ∧ vsq.length = 4
theorem W.z5 (x0 : Int) (r : List Int) (h : M.aj x0 = some r) {nz wz S0 w0 Lr} (p0 : Hp nz wz S0 w0 (Lr)) :
  Calls Tg 274 #[.int .u8 x0] w0 (Rets (Post.z5 nz wz S0 w0 Lr r)) := by
 refine Zf Tryz.f274 B274 10 ?_
 refine Gj 11 [(0, .int .u8 x0)] fun junk => ?_
 delta M.aj at h
 refine Gn 2 [] (Yt 10 B274 [0] (Ys 11 B274 [])) ?_
 refine Oa 24 2 0 (.agg #[.u 0, .u 0, .u 0, .u 0]) [.u 0, .u 0, .u 0, .u 0] p0 Xa fun b1 w2 z2 p2 => ?_
 refine Gn 3 [] (Yt 110 B274 [0] (Ys 111 B274 [])) ?_
 refine Oa 24 3 0 (.agg #[.u 0, .u 0, .u 0, .u 0]) [.u 0, .u 0, .u 0, .u 0] p2 Xa fun b3 w3 z3 p3 => ?_
 refine Gm 7 [([4, 6], .int .u8 x0), ([5], .int .u8 (iquo .u8 x0 64)), ([7], .int .u8 (irem .u8 x0 64))] (Yt 1110 B274 [4, 5, 6] (Ys 1111 B274 [])) ?_
 refine Gg h fun g5 h => ?_
 refine Op_.binshl 22 (.const (.int .u64 1)) 7 5 8 22 .u64 .u8 1 (irem .u8 x0 64) Xa (by kernel_rfl) (by kernel_rfl) g5 ?_
 have f6 : Els (kInt .u64) S0 w3 ([.u 0, .u 0, .u 0, .u 0] : List Value) [0, 0, 0, 0] := (Els.cons (K := (kInt .u64)) (vs := [.u 0]) (x := 0) rfl (Els.cons (K := (kInt .u64)) (vs := [.u 0]) (x := 0) rfl (Els.cons (K := (kInt .u64)) (vs := [.u 0]) (x := 0) rfl (Els.cons (K := (kInt .u64)) (vs := [.u 0]) (x := 0) rfl Els.nil))))
 refine Gg h fun g7 h => ?_
 refine Gg h fun g8 h => ?_
 refine Op_.ixA_n (K := (kInt .u64)) 24 3 5 9 0 22 4 .u8 (iquo .u8 x0 64) 0 (gi [0, 0, 0, 0] (iquo .u8 x0 64)) rfl p3 rfl f6 (Xh f6 rfl rfl) Xa (by kernel_rfl) (by kernel_rfl) (by kernel_rfl) (by kernel_rfl) g7 g8 fun _ q10 f9 => ?_
 obtain rfl := q10
 refine Gl h fun v11 e12 h => ?_
 refine Op_.stE_n (K := (kInt .u64)) 22 9 8 0 0 (iquo .u8 x0 64) (.u (ishl .u64 1 (irem .u8 x0 64))) [.u (ishl .u64 1 (irem .u8 x0 64))] (ishl .u64 1 (irem .u8 x0 64)) v11 4 (Xh f6 rfl rfl) e12 p3 rfl f6 Xd (by kernel_rfl) (by kernel_rfl) (by kernel_rfl) rfl (by kernel_rfl) g7 g8 (Nat.zero_le _) fun w4 u9 z4 p4 f14 l15 => ?_
 have l16 : u9.length = 4 := by rw [f14.length, l15]; rfl
 refine Gn 3 [] (Yt 11110 B274 [0, 1] Ju) ?_
 refine Xp 24 3 10 24 ⟨b3, 0, none⟩ u9 Xa (by kernel_rfl) (by kernel_rfl) (by rw [l16]; kernel_rfl) (At_all (p4.mem 0 rfl)) ?_
 have f17 : Els (kInt .u64) S0 w4 ([.u 0, .u 0, .u 0, .u 0] : List Value) [0, 0, 0, 0] := (Els.cons (K := (kInt .u64)) (vs := [.u 0]) (x := 0) rfl (Els.cons (K := (kInt .u64)) (vs := [.u 0]) (x := 0) rfl (Els.cons (K := (kInt .u64)) (vs := [.u 0]) (x := 0) rfl (Els.cons (K := (kInt .u64)) (vs := [.u 0]) (x := 0) rfl Els.nil))))
 refine Xn 24 2 10 0 1 b1 4 u9 p4 rfl rfl Xd (by kernel_rfl) (by kernel_rfl) (by kernel_rfl) l16 (Xo f14) fun w5 z5 p5 => ?_
 refine Gn 1 [] Ju ?_
 obtain rfl := sj h
 have p5 := p5.dp 0
 exact Xu (fn := Tryz.f274) (by kernel_rfl) (v := .agg u9.toArray) (results_n1 (fn := Tryz.f274) (a := .cell 2 24) (by kernel_rfl) (resV_cell ⟨b1, 0, none⟩ (by kernel_rfl) (run_loadN u9 (by kernel_rfl) (by rw [l16]; kernel_rfl) (At_all (p5.mem 0 rfl))))) ⟨S0, u9, rfl, (((z2.t z3).t z4).t z5), p5.drop, (f14.ext z5), l16⟩
def Qu := Yq 110100 B273
def Jy := Zl Qu (Zb 0 (Ys 111 B273 []))
def Jz := Zc Qu Jy
def J13 := Zb 1 (Ys 110100111 B273 Jy)
def Qy := Yq 11010011001 B273
def J16 := Ys 1111 B273 []
def Post.z6 (r : List Int) (v : Value) (w' : World) : Prop :=
 ∃ S' vsq, v = .agg vsq.toArray ∧ Ext S0 w0 S' w' ∧ Hp nz wz S' w' (Lr) ∧ Els (kInt .u64) S' w' vsq r ∧ vsq.length = 4
def L.z7 : (List Int) × (List Int) × Int → (List Int) → Prop := fun ⟨x1, ua, x4⟩ r => ∀ S1 w1, Ext S0 w0 S1 w1 → ∀ gx1 ub gx2 (_ : Hp nz wz S1 w1 ((some gx1, .row 24 ub 4 0) :: (some gx2, .row 24 (U4 ua []) 4 0) :: Lr)) (_ : Els (kInt .u64) S1 w1 ub x1) (_ : ub.length = 4) (_ : ua.length = 4) (junk : Nat → Value),
 Goes Tg (base 273) Jz ⟨lfr 15 [(1, (pt gx1 0)), (2, (pt gx2 0)), (4, .i x4)] junk, []⟩ w1 (Done Tg 273 (Rets (Post.z6 nz wz S0 w0 Lr r)))
theorem W.z7 {nz wz S0 w0 Lr} : ∀ a r, M.a2s a = some r → (L.z7 nz wz S0 w0 Lr) a r := by
 refine M.a2s.partial_correctness (motive := (L.z7 nz wz S0 w0 Lr)) ?_
 intro uc ud ⟨x1, ua, x4⟩ r h S1 w1 hx gx1 ub gx2 p1 fx1 lx1 ue junk
 try dsimp only at h
 refine Gn 5 [(5, .bool (decide (x4 < 4)))] (Ys 11010010 B273 (Ys 11010011 B273 Jy)) ?_
 refine Gi h (fun h7 h => ?_) fun h7 h => ?_
 ·
  rw [dt h7]
  refine Gm 12 [([6, 3, 7, 8], .i x4)] (Zr Qy [2, 3, 4, 5, 6] J13) ?_
  refine Gg h fun g8 h => ?_
  refine Op_.ixA_n (K := (kInt .u64)) 24 1 8 9 0 22 4 .i64 x4 0 (gi x1 x4) rfl p1 rfl fx1 (Xh fx1 lx1 rfl) Xa (by kernel_rfl) (by kernel_rfl) (by kernel_rfl) (by kernel_rfl) g8 h7 fun _ q10 f9 => ?_
  obtain rfl := q10
  refine Xb 22 9 10 22 ⟨gx1, (x4 : Int).toNat * (kInt .u64).size, none⟩ (.u (gi x1 x4)) (f9 0 _ rfl) ?_
  refine Gn 1 [(11, .u (ixor .u64 18446744073709551615 (gi x1 x4)))] (Zr Qy [5, 6] J13) ?_
  refine Op_.ixA_n (K := (kInt .u64)) 24 1 7 12 0 22 4 .i64 x4 0 (gi x1 x4) rfl p1 rfl fx1 (Xh fx1 lx1 rfl) Xa (by kernel_rfl) (by kernel_rfl) (by kernel_rfl) (by kernel_rfl) g8 h7 fun _ q12 f11 => ?_
  obtain rfl := q12
  refine Gl h fun v13 e14 h => ?_
  refine Op_.stE_n (K := (kInt .u64)) 22 12 11 0 0 x4 (.u (ixor .u64 18446744073709551615 (gi x1 x4))) [.u (ixor .u64 18446744073709551615 (gi x1 x4))] (ixor .u64 18446744073709551615 (gi x1 x4)) v13 4 (Xh fx1 lx1 rfl) e14 p1 rfl fx1 Xd (by kernel_rfl) (by kernel_rfl) (by kernel_rfl) rfl (by kernel_rfl) g8 h7 (Nat.zero_le _) fun w4 uf z4 p4 f16 l17 => ?_
  have l18 : uf.length = 4 := by rw [f16.length, l17]; rfl
  refine Gm 7 [([13, 4], .i (wr .i64 (x4 + 1)))] Jz ?_
  exact Gj 15 [(1, (pt gx1 0)), (2, (pt gx2 0)), (4, .i (wr .i64 (x4 + 1)))] (ud _ _ h _ _ (hx.t z4) _ _ _ p4 f16 l18 ue)
 ·
  rw [df h7]
  refine Gn 4 [] (Yt 1110 B273 [0, 1] J16) ?_
  refine Xp 24 1 14 24 ⟨gx1, 0, none⟩ ub Xa (by kernel_rfl) (by kernel_rfl) (by rw [lx1]; kernel_rfl) (At_all (p1.mem 0 rfl)) ?_
  have f19 : Els (kInt .u64) S1 w1 ((U4 ua []) : List Value) ua := (els_mk4 (k := .u64) ue)
  refine Xn 24 2 14 0 1 gx2 4 ub p1 rfl rfl Xd (by kernel_rfl) (by kernel_rfl) (by kernel_rfl) lx1 (Xo fx1) fun w5 z5 p5 => ?_
  refine Gn 1 [] J16 ?_
  obtain rfl := sj h
  have p5 := p5.dp 0
  exact Xu (fn := Tryz.f273) (by kernel_rfl) (v := .agg ub.toArray) (results_n1 (fn := Tryz.f273) (a := .cell 2 24) (by kernel_rfl) (resV_cell ⟨gx2, 0, none⟩ (by kernel_rfl) (run_loadN ub (by kernel_rfl) (by rw [lx1]; kernel_rfl) (At_all (p5.mem 0 rfl))))) ⟨S1, ub, rfl, (hx.t z5), p5.drop, (fx1.ext z5), lx1⟩
theorem W.z6 (x0 : List Int) (r : List Int) (h : M.a1g x0 = some r) {nz wz S0 w0 Lr} (ug) (p0 : Hp nz wz S0 w0 (Lr)) (fx0 : Els (kInt .u64) S0 w0 ug x0) (lx0 : ug.length = 4) :
  Calls Tg 273 #[.agg ug.toArray] w0 (Rets (Post.z6 nz wz S0 w0 Lr r)) := by
 refine Zf Tryz.f273 B273 14 ?_
 refine Gj 15 [(0, .agg ug.toArray)] fun junk => ?_
 delta M.a1g at h
 refine Gn 2 [] (Yt 10 B273 [0, 1] (Ys 11 B273 [])) ?_
 refine Op_.box 24 0 1 0 (.agg ug.toArray) ug p0 Xa (by kernel_rfl) rfl fun b1 w2 z2 p2 => ?_
 replace p2 : Hp nz wz S0 w2 ((some b1, .row 24 ug 4 0) :: Lr) := by rw [show (ug).length = 4 from lx0] at p2; exact p2
 refine Oa 24 2 0 (.agg #[.u 0, .u 0, .u 0, .u 0]) [.u 0, .u 0, .u 0, .u 0] p2 Xa fun b3 w3 z3 p3 => ?_
 refine Gn 8 [(4, .i 0)] Jz ?_
 have p3 := (p3.fr 0).fr 1
 exact Gj 15 [(1, (pt b1 0)), (2, (pt b3 0)), (4, .i 0)] (W.z7 _ _ h _ _ (z2.t z3) _ _ _ p3 (fx0.ext (z2.t z3)) lx0 rfl)
def Post.z8 (gx0 : Nat) (u2 : Value) (x0v : T134) (r : Unit) (v : Value) (w' : World) : Prop :=
 ∃ S' uh, v = .func (.func 313) #[] #[(pt uh 0)] ∧ Ext S0 w0 S' w' ∧ Hp nz wz S' w' ((some uh, .row 132 [(pt gx0 0)] 1 0) :: (some gx0, .row 135 (vT134 x0v u2) 4 0) :: Lr)
theorem W.z8 (x0v : T134) (r : Unit) (h : M.a5i x0v = some r) {nz wz S0 w0 Lr} (gx0 u2) (p0 : Hp nz wz S0 w0 ((some gx0, .row 135 (vT134 x0v u2) 4 0) :: Lr)) (u3 : PtO kT138 S0 w0 u2 x0v.bad) :
  Calls Tg 296 #[(pt gx0 0)] w0 (Rets (Post.z8 nz wz S0 w0 Lr gx0 u2 x0v r)) := by
 refine Zf Tryz.f296 B296 3 ?_
 refine Gj 4 [(0, (pt gx0 0))] fun junk => ?_
 delta M.a5i at h
 refine Gn 2 [] (Yt 10 B296 [0, 1] (Ys 11 B296 [])) ?_
 refine Ob 132 0 1 0 ((pt gx0 0)) [(pt gx0 0)] p0 Xa fun b2 w2 z2 p2 => ?_
 refine Gm 7 [([2, 3], .func (.func 313) #[] #[(pt b2 0)])] (Ys 111 B296 []) ?_
 obtain rfl := sj h
 exact Xc Tryz.f296 (.func (.func 313) #[] #[(pt b2 0)]) ⟨_, _, rfl, z2, p2⟩
def Q17 := Yq 1110100 B315
def J1f := Zl Q17 (Zb 0 (Ys 1111 B315 []))
def J1g := Zc Q17 J1f
def J1m := Ys 11111 B315 []
def Post.z9 (r : List Int) (v : Value) (w' : World) : Prop :=
 ∃ S' vsq, v = .agg vsq.toArray ∧ Ext S0 w0 S' w' ∧ Hp nz wz S' w' (Lr) ∧ Els (kInt .u64) S' w' vsq r ∧ vsq.length = 4
def L.za : Int × (List Int) × (List Int) × Int → (List Int) → Prop := fun ⟨x1, ui, x5, x6⟩ r => ∀ S1 w1, Ext S0 w0 S1 w1 → ∀ gx4 gx5 uj (_ : Hp nz wz S1 w1 ((some gx4, .row 24 (U4 ui []) 4 0) :: (some gx5, .row 24 uj 4 0) :: Lr)) (_ : ui.length = 4) (_ : Els (kInt .u64) S1 w1 uj x5) (_ : uj.length = 4) (junk : Nat → Value),
 Goes Tg (base 315) J1g ⟨lfr 25 [(1, .int .u8 x1), (4, (pt gx4 0)), (5, (pt gx5 0)), (6, .i x6)] junk, []⟩ w1 (Done Tg 315 (Rets (Post.z9 nz wz S0 w0 Lr r)))
theorem W.za {nz wz S0 w0 Lr} : ∀ a r, M.a2t a = some r → (L.za nz wz S0 w0 Lr) a r := by
 refine M.a2t.partial_correctness (motive := (L.za nz wz S0 w0 Lr)) ?_
 intro uk ul ⟨x1, ui, x5, x6⟩ r h S1 w1 hx gx4 gx5 uj p1 um fx5 lx5 junk
 try dsimp only at h
 refine Gn 8 [(9, .i x6), (10, .int .u8 x1), (11, .i (wr .i64 x1)), (12, .bool (decide (x6 ≤ wr .i64 x1)))] (Ys 111010001 B315 (Ys 11101001 B315 J1f)) ?_
 refine Gi h (fun h8 h => ?_) fun h8 h => ?_
 ·
  rw [dt h8]
  refine Gn 4 [] (Ys 1110100100 B315 (Zb 1 (Ys 111010011 B315 J1f))) ?_
  have z4 : Ext S1 w1 S1 (w1).drew := Xm
  have p4 := p1.draw
  refine Gd [9] (Fc S1 (w1).drew ([] ++ (rowCellsO (some gx5) uj ++ []))) 5 10 ?_
  generalize (w1).drew = w4 at z4 p4 ⊢
  refine Xe 0 (.move 6) 15 3 (.i x6) (p4.ro 1 rfl) ?_
  refine Xe 1 (.binOp .quo 3 15 (.const (.int .i64 64)) 3) 16 3 (.i (iquo .i64 x6 64)) (p4.ro 1 rfl) ?_
  refine Gg h fun g9 h => ?_
  refine Gg h fun g10 h => ?_
  refine AnyG.ixA_n (i := 2) (K := (kInt .u64)) 24 5 16 17 0 22 4 .i64 (iquo .i64 x6 64) 1 (gi x5 (iquo .i64 x6 64)) rfl p4 rfl (fx5.ext z4) (Xh (fx5.ext z4) lx5 rfl) (by kernel_rfl) (by kernel_rfl) (p4.ro 1 rfl) (by kernel_rfl) (by kernel_rfl) (by kernel_rfl) (by kernel_rfl) g9 g10 fun _ q12 f13 f11 => ?_
  obtain rfl := q12
  refine Al 3 22 17 18 22 ⟨gx5, (iquo .i64 x6 64 : Int).toNat * (kInt .u64).size, none⟩ (.u (gi x5 (iquo .i64 x6 64))) (p4.ro 1 rfl) (fun _ h => h.2.right.left.rowAt (f13 0 _ rfl)) ?_
  refine Xe 4 (.move 6) 19 3 (.i x6) (p4.ro 1 rfl) ?_
  refine Xe 5 (.binOp .rem 3 19 (.const (.int .i64 64)) 3) 20 3 (.i (irem .i64 x6 64)) (p4.ro 1 rfl) ?_
  refine Gg h fun g14 h => ?_
  refine AnyG.binshl (i := 6) 22 (.const (.int .u64 1)) 20 3 21 22 .u64 .i64 1 (irem .i64 x6 64) (by kernel_rfl) (by kernel_rfl) (p4.ro 1 rfl) (by kernel_rfl) (by kernel_rfl) g14 ?_
  refine Xe 7 (.binOp .or 22 18 21 22) 22 22 (.u (ior .u64 (gi x5 (iquo .i64 x6 64)) (ishl .u64 1 (irem .i64 x6 64)))) (p4.ro 1 rfl) ?_
  refine AnyG.ixA_n (i := 8) (K := (kInt .u64)) 24 5 16 23 0 22 4 .i64 (iquo .i64 x6 64) 1 (gi x5 (iquo .i64 x6 64)) rfl p4 rfl (fx5.ext z4) (Xh (fx5.ext z4) lx5 rfl) (by kernel_rfl) (by kernel_rfl) (p4.ro 1 rfl) (by kernel_rfl) (by kernel_rfl) (by kernel_rfl) (by kernel_rfl) g9 g10 fun _ q16 f17 f15 => ?_
  obtain rfl := q16
  refine Gl h fun v18 e19 h => ?_
  refine Op_.stE_n (K := (kInt .u64)) 22 23 22 0 1 (iquo .i64 x6 64) (.u (ior .u64 (gi x5 (iquo .i64 x6 64)) (ishl .u64 1 (irem .i64 x6 64)))) [.u (ior .u64 (gi x5 (iquo .i64 x6 64)) (ishl .u64 1 (irem .i64 x6 64)))] (ior .u64 (gi x5 (iquo .i64 x6 64)) (ishl .u64 1 (irem .i64 x6 64))) v18 4 (Xh (fx5.ext z4) lx5 rfl) e19 p4 rfl (fx5.ext z4) (As 9) (by kernel_rfl) (by kernel_rfl) (by kernel_rfl) rfl (by kernel_rfl) g9 g10 (Nat.zero_le _) fun w5 un z5 p5 f21 l22 => ?_
  have l23 : un.length = 4 := by rw [f21.length, l22]; rfl
  refine Xi [] (Fc S1 w5 []) (by decide) ?_
  refine Ad ?_
  refine Gm 7 [([13], .i x6), ([14, 6], .i (wr .i64 (x6 + 1)))] J1g ?_
  exact Gj 25 [(1, .int .u8 x1), (4, (pt gx4 0)), (5, (pt gx5 0)), (6, .i (wr .i64 (x6 + 1)))] (ul _ _ h _ _ ((hx.t z4).t z5) _ _ _ p5 um f21 l23)
 ·
  rw [df h8]
  refine Gn 4 [] (Yt 11110 B315 [0, 1] J1m) ?_
  refine Xp 24 5 24 24 ⟨gx5, 0, none⟩ uj Xa (by kernel_rfl) (by kernel_rfl) (by rw [lx5]; kernel_rfl) (At_all (p1.mem 1 rfl)) ?_
  have f24 : Els (kInt .u64) S1 w1 ((U4 ui []) : List Value) ui := (els_mk4 (k := .u64) um)
  refine Xn 24 4 24 0 0 gx4 4 uj p1 rfl rfl Xd (by kernel_rfl) (by kernel_rfl) (by kernel_rfl) lx5 (Xo fx5) fun w6 z6 p6 => ?_
  refine Gn 1 [] J1m ?_
  obtain rfl := sj h
  have p6 := p6.dp 1
  exact Xu (fn := Tryz.f315) (by kernel_rfl) (v := .agg uj.toArray) (results_n1 (fn := Tryz.f315) (a := .cell 4 24) (by kernel_rfl) (resV_cell ⟨gx4, 0, none⟩ (by kernel_rfl) (run_loadN uj (by kernel_rfl) (by rw [lx5]; kernel_rfl) (At_all (p6.mem 0 rfl))))) ⟨S1, uj, rfl, (hx.t z6), p6.drop, (fx5.ext z6), lx5⟩
theorem W.z9 (x0 : Int) (x1 : Int) (r : List Int) (h : M.ai x0 x1 = some r) {nz wz S0 w0 Lr} (p0 : Hp nz wz S0 w0 (Lr)) :
  Calls Tg 315 #[.int .u8 x0, .int .u8 x1] w0 (Rets (Post.z9 nz wz S0 w0 Lr r)) := by
 refine Zf Tryz.f315 B315 23 ?_
 refine Gj 25 [(0, .int .u8 x0), (1, .int .u8 x1)] fun junk => ?_
 delta M.ai at h
 refine Gn 2 [] (Yt 10 B315 [0] (Ys 11 B315 [])) ?_
 refine Oa 24 4 0 (.agg #[.u 0, .u 0, .u 0, .u 0]) [.u 0, .u 0, .u 0, .u 0] p0 Xa fun b1 w2 z2 p2 => ?_
 refine Gn 3 [] (Yt 110 B315 [0] (Ys 111 B315 [])) ?_
 refine Oa 24 5 0 (.agg #[.u 0, .u 0, .u 0, .u 0]) [.u 0, .u 0, .u 0, .u 0] p2 Xa fun b3 w3 z3 p3 => ?_
 refine Gm 10 [([7], .int .u8 x0), ([8, 6], .i (wr .i64 x0))] J1g ?_
 have f7 : Els (kInt .u64) S0 w3 ([.u 0, .u 0, .u 0, .u 0] : List Value) [0, 0, 0, 0] := (Els.cons (K := (kInt .u64)) (vs := [.u 0]) (x := 0) rfl (Els.cons (K := (kInt .u64)) (vs := [.u 0]) (x := 0) rfl (Els.cons (K := (kInt .u64)) (vs := [.u 0]) (x := 0) rfl (Els.cons (K := (kInt .u64)) (vs := [.u 0]) (x := 0) rfl Els.nil))))
 have p3 := (p3.fr 0).fr 1
 exact Gj 25 [(1, .int .u8 x1), (4, (pt b1 0)), (5, (pt b3 0)), (6, .i (wr .i64 x0))] (W.za _ _ h _ _ (z2.t z3) _ _ _ p3 rfl f7 rfl)
def Q1j := Yq 1110100 B297
def J1u := Zl Q1j (Zb 0 (Ys 1111 B297 []))
def J1v := Zc Q1j J1u
def J1x := Zb 1 (Ys 1110100111 B297 J1u)
def Q1l := Yq 111010011001100 B297
def J1z := Zl Q1l (Zb 2 J1x)
def J20 := Zc Q1l J1z
def J25 := Ys 11111 B297 []
def Post.zb (r : List Int) (v : Value) (w' : World) : Prop :=
 ∃ S' vsq, v = .agg vsq.toArray ∧ Ext S0 w0 S' w' ∧ Hp nz wz S' w' (Lr) ∧ Els (kInt .u64) S' w' vsq r ∧ vsq.length = 4
def L.zc : (List Int) × (List Int) × (List (List Int)) × Int × Int → (List Int) → Prop := fun ⟨ua, x3, x7, x8, x9⟩ r => ∀ S1 w1, Ext S0 w0 S1 w1 → ∀ gx2 gx3 uo Ax7 nx7 cx7 (_ : Hp nz wz S1 w1 ((some gx2, .row 24 (U4 ua []) 4 0) :: (some gx3, .row 24 uo 4 0) :: Lr)) (_ : ua.length = 4) (_ : Els (kInt .u64) S1 w1 uo x3) (_ : uo.length = 4) (_ : Rd (kArr 4 (kInt .u64)) S1 w1 Ax7 cx7 x7) (_ : x7.length = nx7) (junk : Nat → Value),
 Goes Tg (base 297) J1v ⟨lfr 27 [(2, (pt gx2 0)), (3, (pt gx3 0)), (7, .slice Ax7 nx7 cx7), (8, .i x8), (9, .i x9)] junk, []⟩ w1 (Done Tg 297 (Rets (Post.zb nz wz S0 w0 Lr r)))
def L.zd : (List Int) × (List Int) × (List Int) × (List (List Int)) × Int × Int × Int → (List Int) → Prop := fun ⟨ua, x3, x5, x7, x8, x9, x13⟩ r => ∀ S1 w1, Ext S0 w0 S1 w1 → ∀ gx2 gx3 uo gx5 uj Ax7 nx7 cx7 (_ : Hp nz wz S1 w1 ((some gx2, .row 24 (U4 ua []) 4 0) :: (some gx3, .row 24 uo 4 0) :: (some gx5, .row 24 uj 4 0) :: Lr)) (_ : ua.length = 4) (_ : Els (kInt .u64) S1 w1 uo x3) (_ : uo.length = 4) (_ : Els (kInt .u64) S1 w1 uj x5) (_ : uj.length = 4) (_ : Rd (kArr 4 (kInt .u64)) S1 w1 Ax7 cx7 x7) (_ : x7.length = nx7) (junk : Nat → Value),
 Goes Tg (base 297) J20 ⟨lfr 27 [(2, (pt gx2 0)), (3, (pt gx3 0)), (5, (pt gx5 0)), (7, .slice Ax7 nx7 cx7), (8, .i x8), (9, .i x9), (13, .i x13)] junk, []⟩ w1 (Done Tg 297 (Rets (Post.zb nz wz S0 w0 Lr r)))
theorem W.ze {nz wz S0 w0 Lr} : (∀ a r, M.a21 a = some r → (L.zc nz wz S0 w0 Lr) a r) ∧ (∀ a r, M.a2u a = some r → (L.zd nz wz S0 w0 Lr) a r) := by
 refine M.a21.mutual_partial_correctness (L.zc nz wz S0 w0 Lr) (L.zd nz wz S0 w0 Lr) ?_ ?_
 ·
  intro up uq ⟨ua, x3, x7, x8, x9⟩ r h S1 w1 hx gx2 gx3 uo Ax7 nx7 cx7 p1 ue fx3 lx3 fx7 lx7 junk
  try dsimp only at h
  subst lx7
  refine Gn 5 [(10, .bool (decide (x9 < x8)))] (Ys 111010010 B297 (Ys 111010011 B297 J1u)) ?_
  refine Gi h (fun h8 h => ?_) fun h8 h => ?_
  ·
   rw [dt h8]
   refine Gn 6 [] (Yt 111010011000 B297 [0, 1, 2, 3] (Ys 111010011001 B297 J1x)) ?_
   refine Gg h fun g9 h => ?_
   refine Gg h fun g10 h => ?_
   refine Oi 405 7 9 11 0 24 .i64 x9 (gi x7 x9) rfl rfl fx7 Xa g9 g10 fun a11 _ f12 q13 => ?_
   obtain ⟨l14, f15⟩ := q13
   obtain rfl := els_lit4' f15 l14
   refine Xf 24 11 12 24 a11 (U4 (gi x7 x9) []) (f12.cell) ?_
   refine Oa 24 5 0 (.agg #[.u 0, .u 0, .u 0, .u 0]) [.u 0, .u 0, .u 0, .u 0] p1 Xa fun b16 w4 z4 p4 => ?_
   refine So 24 5 12 0 0 b16 0 (ag (U4 (gi x7 x9) [])) (U4 (gi x7 x9) []) p4 rfl Xd fun w5 z5 p5 => ?_
   refine Gn 7 [(13, .i 0)] J20 ?_
   have f21 : Els (kInt .u64) S1 w5 ((U4 (gi x7 x9) []) : List Value) (gi x7 x9) := (els_mk4 (k := .u64) l14)
   have p5 := ((p5.fr 0).fr 2).fr 2
   exact Gj 27 [(2, (pt gx2 0)), (3, (pt gx3 0)), (5, (pt b16 0)), (7, .slice Ax7 x7.length cx7), (8, .i x8), (9, .i x9), (13, .i 0)] (uq _ _ h _ _ ((hx.t z4).t z5) _ _ _ _ _ _ _ _ p5 ue (fx3.ext (z4.t z5)) lx3 f21 rfl (fx7.ext (z4.t z5)) rfl)
  ·
   rw [df h8]
   refine Gn 4 [] (Yt 11110 B297 [0, 1] J25) ?_
   refine Xp 24 3 26 24 ⟨gx3, 0, none⟩ uo Xa (by kernel_rfl) (by kernel_rfl) (by rw [lx3]; kernel_rfl) (At_all (p1.mem 1 rfl)) ?_
   have f22 : Els (kInt .u64) S1 w1 ((U4 ua []) : List Value) ua := (els_mk4 (k := .u64) ue)
   refine Xn 24 2 26 0 0 gx2 4 uo p1 rfl rfl Xd (by kernel_rfl) (by kernel_rfl) (by kernel_rfl) lx3 (Xo fx3) fun w6 z6 p6 => ?_
   refine Gn 1 [] J25 ?_
   obtain rfl := sj h
   have p6 := p6.dp 1
   exact Xu (fn := Tryz.f297) (by kernel_rfl) (v := .agg uo.toArray) (results_n1 (fn := Tryz.f297) (a := .cell 2 24) (by kernel_rfl) (resV_cell ⟨gx2, 0, none⟩ (by kernel_rfl) (run_loadN uo (by kernel_rfl) (by rw [lx3]; kernel_rfl) (At_all (p6.mem 0 rfl))))) ⟨S1, uo, rfl, (hx.t z6), p6.drop, (fx3.ext z6), lx3⟩
 ·
  intro ur up ut uq ⟨ua, x3, x5, x7, x8, x9, x13⟩ r h S1 w1 hx gx2 gx3 uo gx5 uj Ax7 nx7 cx7 p1 ue fx3 lx3 fx5 lx5 fx7 lx7 junk
  try dsimp only at h
  subst lx7
  refine Gn 5 [(14, .bool (decide (x13 < 4)))] (Ys 11101001100110010 B297 (Ys 11101001100110011 B297 J1z)) ?_
  refine Gi h (fun h23 h => ?_) fun h23 h => ?_
  ·
   rw [dt h23]
   refine Gm 9 [([15, 6], .i x13)] (Ys 11101001100110011001 B297 (Zb 3 (Ys 111010011001100111 B297 J1z))) ?_
   have z7 : Ext S1 w1 S1 (w1).drew := Xm
   have p7 := p1.draw
   refine Gd [8] (Fc S1 (w1).drew ([] ++ (rowCellsO (some gx3) uo ++ (rowCellsO (some gx5) uj ++ [])))) 8 9 ?_
   generalize (w1).drew = w7 at z7 p7 ⊢
   refine Xe 0 (.move 6) 16 3 (.i x13) (Fc.here (Xk trivial (Xk (Xs (p7.mem 1 rfl)) (Xk (Xs (p7.mem 2 rfl)) trivial)))) ?_
   refine Gg h fun g24 h => ?_
   refine AnyG.ixA_n (i := 1) (K := (kInt .u64)) 24 3 16 17 0 22 4 .i64 x13 1 (gi x3 x13) rfl p7 rfl (fx3.ext z7) (Xh (fx3.ext z7) lx3 rfl) (by kernel_rfl) (by kernel_rfl) (Fc.here (Xk trivial (Xk (Xs (p7.mem 1 rfl)) (Xk (Xs (p7.mem 2 rfl)) trivial)))) (by kernel_rfl) (by kernel_rfl) (by kernel_rfl) (by kernel_rfl) g24 h23 fun _ q26 f27 f25 => ?_
   obtain rfl := q26
   refine Al 2 22 17 18 22 ⟨gx3, (x13 : Int).toNat * (kInt .u64).size, none⟩ (.u (gi x3 x13)) (Fc.here (Xk trivial (Xk (Xs (p7.mem 1 rfl)) (Xk (Xs (p7.mem 2 rfl)) trivial)))) (fun _ h => h.2.right.left.rowAt (f27 0 _ rfl)) ?_
   refine Xe 3 (.move 6) 19 3 (.i x13) (Fc.here (Xk trivial (Xk (Xs (p7.mem 1 rfl)) (Xk (Xs (p7.mem 2 rfl)) trivial)))) ?_
   refine AnyG.ixA_n (i := 4) (K := (kInt .u64)) 24 5 19 20 0 22 4 .i64 x13 2 (gi x5 x13) rfl p7 rfl (fx5.ext z7) (Xh (fx5.ext z7) lx5 rfl) (by kernel_rfl) (by kernel_rfl) (Fc.here (Xk trivial (Xk (Xs (p7.mem 1 rfl)) (Xk (Xs (p7.mem 2 rfl)) trivial)))) (by kernel_rfl) (by kernel_rfl) (by kernel_rfl) (by kernel_rfl) g24 h23 fun _ q29 f30 f28 => ?_
   obtain rfl := q29
   refine Al 5 22 20 21 22 ⟨gx5, (x13 : Int).toNat * (kInt .u64).size, none⟩ (.u (gi x5 x13)) (Fc.here (Xk trivial (Xk (Xs (p7.mem 1 rfl)) (Xk (Xs (p7.mem 2 rfl)) trivial)))) (fun _ h => h.2.right.right.left.rowAt (f30 0 _ rfl)) ?_
   refine Xe 6 (.binOp .or 22 18 21 22) 22 22 (.u (ior .u64 (gi x3 x13) (gi x5 x13))) (Fc.here (Xk trivial (Xk (Xs (p7.mem 1 rfl)) (Xk (Xs (p7.mem 2 rfl)) trivial)))) ?_
   refine AnyG.ixA_n (i := 7) (K := (kInt .u64)) 24 3 16 23 0 22 4 .i64 x13 1 (gi x3 x13) rfl p7 rfl (fx3.ext z7) (Xh (fx3.ext z7) lx3 rfl) (by kernel_rfl) (by kernel_rfl) (Fc.here (Xk trivial (Xk (Xs (p7.mem 1 rfl)) (Xk (Xs (p7.mem 2 rfl)) trivial)))) (by kernel_rfl) (by kernel_rfl) (by kernel_rfl) (by kernel_rfl) g24 h23 fun _ q32 f33 f31 => ?_
   obtain rfl := q32
   refine Gl h fun v34 e35 h => ?_
   refine Op_.stE_n (K := (kInt .u64)) 22 23 22 0 1 x13 (.u (ior .u64 (gi x3 x13) (gi x5 x13))) [.u (ior .u64 (gi x3 x13) (gi x5 x13))] (ior .u64 (gi x3 x13) (gi x5 x13)) v34 4 (Xh (fx3.ext z7) lx3 rfl) e35 p7 rfl (fx3.ext z7) (As 8) (by kernel_rfl) (by kernel_rfl) (by kernel_rfl) rfl (by kernel_rfl) g24 h23 (Nat.zero_le _) fun w8 uu z8 p8 f37 l38 => ?_
   have l39 : uu.length = 4 := by rw [f37.length, l38]; rfl
   refine Xi [] (Fc S1 w8 []) (by decide) ?_
   refine Ad ?_
   refine Gm 6 [([24, 13], .i (wr .i64 (x13 + 1)))] J20 ?_
   exact Gj 27 [(2, (pt gx2 0)), (3, (pt gx3 0)), (5, (pt gx5 0)), (7, .slice Ax7 x7.length cx7), (8, .i x8), (9, .i x9), (13, .i (wr .i64 (x13 + 1)))] (uq _ _ h _ _ ((hx.t z7).t z8) _ _ _ _ _ _ _ _ p8 ue f37 l39 (fx5.ext (z7.t z8)) lx5 (fx7.ext (z7.t z8)) rfl)
  ·
   rw [df h23]
   refine Gm 8 [([25, 9], .i (wr .i64 (x9 + 1)))] J1v ?_
   have p1 := p1.dp 2
   exact Gj 27 [(2, (pt gx2 0)), (3, (pt gx3 0)), (7, .slice Ax7 x7.length cx7), (8, .i x8), (9, .i (wr .i64 (x9 + 1)))] (ut _ _ h _ _ hx _ _ _ _ _ _ p1 ue fx3 lx3 fx7 rfl)
theorem W.zc {nz wz S0 w0 Lr} : ∀ a r, M.a21 a = some r → (L.zc nz wz S0 w0 Lr) a r := (W.ze).1
theorem W.zd {nz wz S0 w0 Lr} : ∀ a r, M.a2u a = some r → (L.zd nz wz S0 w0 Lr) a r := (W.ze).2
theorem W.zb (x0 : List (List Int)) (r : List Int) (h : M.a1h x0 = some r) {nz wz S0 w0 Lr} (Ax0 nx0 cx0) (p0 : Hp nz wz S0 w0 (Lr)) (fx0 : Rd (kArr 4 (kInt .u64)) S0 w0 Ax0 cx0 x0) (lx0 : x0.length = nx0) :
  Calls Tg 297 #[.slice Ax0 nx0 cx0] w0 (Rets (Post.zb nz wz S0 w0 Lr r)) := by
 subst lx0
 refine Zf Tryz.f297 B297 26 ?_
 refine Gj 27 [(0, .slice Ax0 x0.length cx0)] fun junk => ?_
 delta M.a1h at h
 refine Gn 2 [] (Yt 10 B297 [0] (Ys 11 B297 [])) ?_
 refine Oa 24 2 0 (.agg #[.u 0, .u 0, .u 0, .u 0]) [.u 0, .u 0, .u 0, .u 0] p0 Xa fun b1 w2 z2 p2 => ?_
 refine Gn 3 [] (Yt 110 B297 [0] (Ys 111 B297 [])) ?_
 refine Oa 24 3 0 (.agg #[.u 0, .u 0, .u 0, .u 0]) [.u 0, .u 0, .u 0, .u 0] p2 Xa fun b3 w3 z3 p3 => ?_
 refine Gn 10 [(7, .slice Ax0 x0.length cx0), (8, .i (x0.length : Int)), (9, .i 0)] J1v ?_
 have f7 : Els (kInt .u64) S0 w3 ([.u 0, .u 0, .u 0, .u 0] : List Value) [0, 0, 0, 0] := (Els.cons (K := (kInt .u64)) (vs := [.u 0]) (x := 0) rfl (Els.cons (K := (kInt .u64)) (vs := [.u 0]) (x := 0) rfl (Els.cons (K := (kInt .u64)) (vs := [.u 0]) (x := 0) rfl (Els.cons (K := (kInt .u64)) (vs := [.u 0]) (x := 0) rfl Els.nil))))
 have p3 := (p3.fr 0).fr 1
 exact Gj 27 [(2, (pt b1 0)), (3, (pt b3 0)), (7, .slice Ax0 x0.length cx0), (8, .i (x0.length : Int)), (9, .i 0)] (W.zc _ _ h _ _ (z2.t z3) _ _ _ _ _ _ p3 rfl f7 rfl (fx0.ext (z2.t z3)) rfl)
def J2l := Zb 0 (Ys 1111 B298 [])
def J2n := Zb 4 (Ys 1110101 B298 J2l)
def J2p := Zb 3 (Ys 111010001 B298 J2n)
def J2r := Zb 2 (Ys 11101000001 B298 J2p)
def J2t := Ys 1110100000001 B298 J2r
def J2v := Ys 111010000000001 B298 (Zb 1 J2t)
def J2z := Ys 111010000010 B298 (Ys 111010000011 B298 J2p)
def J30 := Ys 11111 B298 []
def J31 := Ys 111101 B298 J30
def J32 := Yt 1111010 B298 [0, 1, 2] J30
def J33 := Ys 111111 B298 []
def J34 := Yt 111110 B298 [0, 1, 2] J33
def J3b := Ys 111010101 B298 (Ys 11101011 B298 J2l)
def Post.zf (r : (List Int) × Bool) (v : Value) (w' : World) : Prop :=
 ∃ S' uv, v = .tuple #[.agg uv.toArray, .bool r.2] ∧ Ext S0 w0 S' w' ∧ Hp nz wz S' w' (Lr) ∧ Els (kInt .u64) S' w' uv r.1 ∧ uv.length = 4
theorem W.zf (x0 : Int) (r : (List Int) × Bool) (h : M.a4k x0 = some r) {nz wz S0 w0 Lr} (p0 : Hp nz wz S0 w0 (Lr)) :
  Calls Tg 298 #[.int .u8 x0] w0 (Rets (Post.zf nz wz S0 w0 Lr r)) := by
 refine Zf Tryz.f298 B298 34 ?_
 refine Gj 35 [(0, .int .u8 x0)] fun junk => ?_
 delta M.a4k at h
 refine Gn 2 [] (Yt 10 B298 [0, 1] (Ys 11 B298 [])) ?_
 refine Oa 24 2 0 (.agg #[.u 0, .u 0, .u 0, .u 0]) [.u 0, .u 0, .u 0, .u 0] p0 Xa fun b1 w2 z2 p2 => ?_
 refine Gn 4 [(3, .bool false)] (Yt 110 B298 [0] (Ys 111 B298 [])) ?_
 refine Oa 24 4 0 (.agg #[.u 0, .u 0, .u 0, .u 0]) [.u 0, .u 0, .u 0, .u 0] p2 Xa fun b3 w3 z3 p3 => ?_
 refine Gn 14 [(5, .int .u8 x0), (6, .int .u8 (ior .u8 x0 32))] (Ys 111010000000 B298 J2r) ?_
 refine Gm 9 [([8, 7], .bool (decide (ior .u8 x0 32 = 119)))] (Ys 11101000000000001 B298 (Ys 1110100000000001 B298 J2v)) ?_
 refine Gi h (fun h5 h => ?_) fun h5 h => ?_
 ·
  rw [dt h5]
  refine Gn 2 [] J2t ?_
  have z4 : Ext S0 w3 S0 (w3).drew := Xm
  have p4 := p3.draw
  refine Gd [4, 5, 6] (Fc S0 (w3).drew [(⟨b3, 0, none⟩, .u 0), (⟨b3, 1, none⟩, .u 0), (⟨b3, 2, none⟩, .u 0), (⟨b3, 3, none⟩, .u 0)]) 6 7 ?_
  generalize (w3).drew = w4 at z4 p4 ⊢
  refine Xv (i := 0) 24 4 13 24 ⟨b3, 0, none⟩ [.u 0, .u 0, .u 0, .u 0] (by kernel_rfl) (by kernel_rfl) (p4.k [(0, 0, 4)]) (by kernel_rfl) (by kernel_rfl) (by kernel_rfl) (fun _ h j v hj => by match j, hj with | 0, rfl => exact h.2.at_ 0 rfl | 1, rfl => exact h.2.at_ 1 rfl | 2, rfl => exact h.2.at_ 2 rfl | 3, rfl => exact h.2.at_ 3 rfl | (j + 4), hj => simp at hj) ?_
  refine Gb h fun y6 e7 h => ?_
  refine Oc (.call { callee := .value (.func 315), args := #[(.const (.int .u8 97)), (.const (.int .u8 122))], argTypes := #[5, 5] }) 14 24 315 #[.int .u8 97, .int .u8 122] (Ac 1) (W.z9 97 122 y6 e7  p4 ) ?_
  rintro _ w5 ⟨S5, uw, rfl, z5, p5, ux, uy⟩
  refine Xl z5 ⟨(p5.c 0 0), (p5.c 0 1), (p5.c 0 2), (p5.c 0 3), trivial⟩ ?_
  refine Gb h fun y8 e9 h => ?_
  refine Oc (.call { callee := .value (.func 315), args := #[(.const (.int .u8 65)), (.const (.int .u8 90))], argTypes := #[5, 5] }) 15 24 315 #[.int .u8 65, .int .u8 90] (Ac 2) (W.z9 65 90 y8 e9  p5 ) ?_
  rintro _ w6 ⟨S6, uz, rfl, z6, p6, u10, u11⟩
  refine Xl z6 ⟨(p6.c 0 0), (p6.c 0 1), (p6.c 0 2), (p6.c 0 3), trivial⟩ ?_
  refine Gb h fun y10 e11 h => ?_
  refine Oc (.call { callee := .value (.func 274), args := #[(.const (.int .u8 95))], argTypes := #[5] }) 16 24 274 #[.int .u8 95] (Ac 3) (W.z5 95 y10 e11  p6 ) ?_
  rintro _ w7 ⟨S7, u12, rfl, z7, p7, u13, u14⟩
  refine Xl z7 ⟨(p7.c 0 0), (p7.c 0 1), (p7.c 0 2), (p7.c 0 3), trivial⟩ ?_
  have l12 := Xh (ux.ext (z6.t z7)) uy rfl
  obtain rfl := els_lit4 (ux.ext (z6.t z7)) uy
  have l13 := Xh (u10.ext z7) u11 rfl
  obtain rfl := els_lit4 (u10.ext z7) u11
  have l14 := Xh u13 u14 rfl
  obtain rfl := els_lit4 u13 u14
  have f16 : Els (kArr 4 (kInt .u64)) S7 w7 ((.u 0 :: .u 0 :: .u 0 :: .u 0 :: U4 y6 (U4 y8 (U4 y10 []))) : List Value) [[0, 0, 0, 0], y6, y8, y10] := by exact (Els.cons (K := (kArr 4 (kInt .u64))) (vs := [.u 0, .u 0, .u 0, .u 0]) (x := [0, 0, 0, 0]) ⟨rfl, (Els.cons (K := (kInt .u64)) (vs := [.u 0]) (x := 0) rfl (Els.cons (K := (kInt .u64)) (vs := [.u 0]) (x := 0) rfl (Els.cons (K := (kInt .u64)) (vs := [.u 0]) (x := 0) rfl (Els.cons (K := (kInt .u64)) (vs := [.u 0]) (x := 0) rfl Els.nil))))⟩ (Els.cons (K := (kArr 4 (kInt .u64))) (vs := (U4 y6 [])) (x := y6) ⟨l12, els_mk4 l12⟩ (Els.cons (K := (kArr 4 (kInt .u64))) (vs := (U4 y8 [])) (x := y8) ⟨l13, els_mk4 l13⟩ (Els.cons (K := (kArr 4 (kInt .u64))) (vs := (U4 y10 [])) (x := y10) ⟨l14, els_mk4 l14⟩ Els.nil))))
  refine Om (.buildSlice 405 4 #[(0, 13), (1, 14), (2, 15), (3, 16)]) 17 405 (fun b => .slice (Gp (some b)) 4 4) 24 ((.u 0 :: .u 0 :: .u 0 :: .u 0 :: U4 y6 (U4 y8 (U4 y10 []))) : List Value) (4 * (kArr 4 (kInt .u64)).size) p7 (Av 4) fun b15 w8 z8 p8 => ?_
  refine Xi [5, 6] (Fc S7 w8 []) (by decide) ?_
  obtain ⟨S9, z9, p9, f18⟩ := p8.freezeRd 0 rfl (f16.ext z8) (by decide)
  refine AnyG.refz z9 ?_
  refine Gb h fun y19 e20 h => ?_
  refine Oc (kc 297 [17] #[405]) 18 24 297 #[.slice (Gp (some b15)) 4 4] (Ac 5) (W.zb [[0, 0, 0, 0], y6, y8, y10] y19 e20 _ _ _ p9 f18 rfl) ?_
  rintro _ w10 ⟨S10, u15, rfl, z10, p10, u16, u17⟩
  refine Xi [6] (Fc S10 w10 []) (by decide) ?_
  have f21 : Els (kInt .u64) S10 w10 ([.u 0, .u 0, .u 0, .u 0] : List Value) [0, 0, 0, 0] := (Els.cons (K := (kInt .u64)) (vs := [.u 0]) (x := 0) rfl (Els.cons (K := (kInt .u64)) (vs := [.u 0]) (x := 0) rfl (Els.cons (K := (kInt .u64)) (vs := [.u 0]) (x := 0) rfl (Els.cons (K := (kInt .u64)) (vs := [.u 0]) (x := 0) rfl Els.nil))))
  refine Xn 24 4 18 0 1 b3 4 u15 p10 rfl rfl (As 6) (by kernel_rfl) (by kernel_rfl) (by kernel_rfl) u17 (Xo u16) fun w11 z11 p11 => ?_
  refine Xi [] (Fc S10 w11 []) (by decide) ?_
  refine Ad ?_
  have p11 := p11.dp 0
  refine Gn 2 [] J2z ?_
  have z12 : Ext S10 w11 S10 (w11).drew := Xm
  have p12 := p11.draw
  refine Gd [2, 3, 4] (Fc S10 (w11).drew ([] ++ (rowCellsO (some b3) u15 ++ []))) 7 5 ?_
  generalize (w11).drew = w12 at z12 p12 ⊢
  refine Xv (i := 0) 24 4 19 24 ⟨b3, 0, none⟩ u15 (by kernel_rfl) (by kernel_rfl) (p12.ro 0 rfl) (by kernel_rfl) (by kernel_rfl) (by rw [u17]; kernel_rfl) (fun _ h => h.2.right.left.rowsAt (fun q v hq => by rw [Nat.zero_add]; exact hq)) ?_
  refine Gb h fun y22 e23 h => ?_
  refine Oc (.call { callee := .value (.func 315), args := #[(.const (.int .u8 48)), (.const (.int .u8 57))], argTypes := #[5, 5] }) 20 24 315 #[.int .u8 48, .int .u8 57] (Ac 1) (W.z9 48 57 y22 e23  p12 ) ?_
  rintro _ w13 ⟨S13, u18, rfl, z13, p13, u19, u1a⟩
  refine Xl z13 (Xk trivial (Xk (Xs (p13.mem 0 rfl)) trivial)) ?_
  have l24 := Xh (u16.ext ((z11.t z12).t z13)) u17 rfl
  obtain rfl := els_lit4 (u16.ext ((z11.t z12).t z13)) u17
  have l25 := Xh u19 u1a rfl
  obtain rfl := els_lit4 u19 u1a
  have f27 : Els (kArr 4 (kInt .u64)) S13 w13 ((U4 y19 (U4 y22 [])) : List Value) [y19, y22] := by exact (Els.cons (K := (kArr 4 (kInt .u64))) (vs := (U4 y19 [])) (x := y19) ⟨l24, els_mk4 l24⟩ (Els.cons (K := (kArr 4 (kInt .u64))) (vs := (U4 y22 [])) (x := y22) ⟨l25, els_mk4 l25⟩ Els.nil))
  refine Om (.buildSlice 405 2 #[(0, 19), (1, 20)]) 21 405 (fun b => .slice (Gp (some b)) 2 2) 24 ((U4 y19 (U4 y22 [])) : List Value) (2 * (kArr 4 (kInt .u64)).size) p13 (Av 2) fun b26 w14 z14 p14 => ?_
  refine Xi [3, 4] (Fc S13 w14 []) (by decide) ?_
  obtain ⟨S15, z15, p15, f29⟩ := p14.freezeRd 0 rfl (f27.ext z14) (by decide)
  refine AnyG.refz z15 ?_
  refine Gb h fun y30 e31 h => ?_
  refine Oc (kc 297 [21] #[405]) 22 24 297 #[.slice (Gp (some b26)) 2 2] (Ac 3) (W.zb [y19, y22] y30 e31 _ _ _ p15 f29 rfl) ?_
  rintro _ w16 ⟨S16, u1b, rfl, z16, p16, u1c, u1d⟩
  refine Xi [4] (Fc S16 w16 []) (by decide) ?_
  refine Xn 24 4 22 0 1 b3 4 u1b p16 rfl u17 (As 4) (by kernel_rfl) (by kernel_rfl) (by kernel_rfl) u1d (Xo u1c) fun w17 z17 p17 => ?_
  refine Xi [] (Fc S16 w17 []) (by decide) ?_
  refine Ad ?_
  have p17 := p17.dp 0
  refine Gn 8 [(29, .int .u8 x0), (30, .int .u8 (iand .u8 x0 32)), (31, .bool (decide (iand .u8 x0 32 = 0)))] J31 ?_
  refine Gi h (fun h32 h => ?_) fun h32 h => ?_
  ·
   rw [dt h32]
   refine Gn 2 [] J32 ?_
   refine Xp 24 4 32 24 ⟨b3, 0, none⟩ u1b Xa (by kernel_rfl) (by kernel_rfl) (by rw [u1d]; kernel_rfl) (At_all (p17.mem 0 rfl)) ?_
   refine Gb h fun y33 e34 h => ?_
   refine Gc (kc 273 [32] #[24]) 33 24 273 _ (W.z6 y30 y33 e34 _ p17 (u1c.ext z17) u1d) ?_
   rintro _ w18 ⟨S18, u1e, rfl, z18, p18, u1f, u1g⟩
   refine Xn 24 4 33 0 0 b3 4 u1e p18 rfl u1d Xd (by kernel_rfl) (by kernel_rfl) (by kernel_rfl) u1g (Xo u1f) fun w19 z19 p19 => ?_
   refine Gn 3 [] J34 ?_
   refine Xp 24 4 34 24 ⟨b3, 0, none⟩ u1e Xa (by kernel_rfl) (by kernel_rfl) (by rw [u1g]; kernel_rfl) (At_all (p19.mem 0 rfl)) ?_
   have f35 : Els (kInt .u64) S18 w19 ([.u 0, .u 0, .u 0, .u 0] : List Value) [0, 0, 0, 0] := (Els.cons (K := (kInt .u64)) (vs := [.u 0]) (x := 0) rfl (Els.cons (K := (kInt .u64)) (vs := [.u 0]) (x := 0) rfl (Els.cons (K := (kInt .u64)) (vs := [.u 0]) (x := 0) rfl (Els.cons (K := (kInt .u64)) (vs := [.u 0]) (x := 0) rfl Els.nil))))
   refine Xn 24 2 34 0 1 b1 4 u1e p19 rfl rfl Xd (by kernel_rfl) (by kernel_rfl) (by kernel_rfl) u1g (Xo (u1f.ext z19)) fun w20 z20 p20 => ?_
   refine Gn 2 [(3, .bool true)] J33 ?_
   obtain rfl := sj h
   have p20 := p20.dp 0
   exact Xu (fn := Tryz.f298) (by kernel_rfl) (v := .tuple #[.agg u1e.toArray, .bool true]) (results_n2 (fn := Tryz.f298) (a := .cell 2 24) (b := .tmp 3) (by kernel_rfl) (resV_cell ⟨b1, 0, none⟩ (by kernel_rfl) (run_loadN u1e (by kernel_rfl) (by rw [u1g]; kernel_rfl) (At_all (p20.mem 0 rfl)))) (resV_tmp (by kernel_rfl))) ⟨S18, u1e, rfl, ((((((((((((((((((z2.t z3).t z4).t z5).t z6).t z7).t z8).t z9).t z10).t z11).t z12).t z13).t z14).t z15).t z16).t z17).t z18).t z19).t z20), p20.drop, (u1f.ext (z19.t z20)), u1g⟩
  ·
   rw [df h32]
   refine Gn 4 [] J34 ?_
   refine Xp 24 4 34 24 ⟨b3, 0, none⟩ u1b Xa (by kernel_rfl) (by kernel_rfl) (by rw [u1d]; kernel_rfl) (At_all (p17.mem 0 rfl)) ?_
   have f36 : Els (kInt .u64) S16 w17 ([.u 0, .u 0, .u 0, .u 0] : List Value) [0, 0, 0, 0] := (Els.cons (K := (kInt .u64)) (vs := [.u 0]) (x := 0) rfl (Els.cons (K := (kInt .u64)) (vs := [.u 0]) (x := 0) rfl (Els.cons (K := (kInt .u64)) (vs := [.u 0]) (x := 0) rfl (Els.cons (K := (kInt .u64)) (vs := [.u 0]) (x := 0) rfl Els.nil))))
   refine Xn 24 2 34 0 1 b1 4 u1b p17 rfl rfl Xd (by kernel_rfl) (by kernel_rfl) (by kernel_rfl) u1d (Xo (u1c.ext z17)) fun w21 z21 p21 => ?_
   refine Gn 2 [(3, .bool true)] J33 ?_
   obtain rfl := sj h
   have p21 := p21.dp 0
   exact Xu (fn := Tryz.f298) (by kernel_rfl) (v := .tuple #[.agg u1b.toArray, .bool true]) (results_n2 (fn := Tryz.f298) (a := .cell 2 24) (b := .tmp 3) (by kernel_rfl) (resV_cell ⟨b1, 0, none⟩ (by kernel_rfl) (run_loadN u1b (by kernel_rfl) (by rw [u1d]; kernel_rfl) (At_all (p21.mem 0 rfl)))) (resV_tmp (by kernel_rfl))) ⟨S16, u1b, rfl, ((((((((((((((((z2.t z3).t z4).t z5).t z6).t z7).t z8).t z9).t z10).t z11).t z12).t z13).t z14).t z15).t z16).t z17).t z21), p21.drop, (u1c.ext (z17.t z21)), u1d⟩
 ·
  rw [df h5]
  refine Gm 8 [([10, 9], .bool (decide (ior .u8 x0 32 = 100)))] (Ys 111010000000000101 B298 (Ys 11101000000000011 B298 J2v)) ?_
  refine Gi h (fun h37 h => ?_) fun h37 h => ?_
  ·
   rw [dt h37]
   refine Gn 3 [] J2z ?_
   have z22 : Ext S0 w3 S0 (w3).drew := Xm
   have p22 := p3.draw
   refine Gd [2, 3, 4] (Fc S0 (w3).drew [(⟨b3, 0, none⟩, .u 0), (⟨b3, 1, none⟩, .u 0), (⟨b3, 2, none⟩, .u 0), (⟨b3, 3, none⟩, .u 0)]) 7 5 ?_
   generalize (w3).drew = w22 at z22 p22 ⊢
   refine Xv (i := 0) 24 4 19 24 ⟨b3, 0, none⟩ [.u 0, .u 0, .u 0, .u 0] (by kernel_rfl) (by kernel_rfl) (p22.k [(0, 0, 4)]) (by kernel_rfl) (by kernel_rfl) (by kernel_rfl) (fun _ h j v hj => by match j, hj with | 0, rfl => exact h.2.at_ 0 rfl | 1, rfl => exact h.2.at_ 1 rfl | 2, rfl => exact h.2.at_ 2 rfl | 3, rfl => exact h.2.at_ 3 rfl | (j + 4), hj => simp at hj) ?_
   refine Gb h fun y38 e39 h => ?_
   refine Oc (.call { callee := .value (.func 315), args := #[(.const (.int .u8 48)), (.const (.int .u8 57))], argTypes := #[5, 5] }) 20 24 315 #[.int .u8 48, .int .u8 57] (Ac 1) (W.z9 48 57 y38 e39  p22 ) ?_
   rintro _ w23 ⟨S23, u1h, rfl, z23, p23, u1i, u1j⟩
   refine Xl z23 ⟨(p23.c 0 0), (p23.c 0 1), (p23.c 0 2), (p23.c 0 3), trivial⟩ ?_
   have l40 := Xh u1i u1j rfl
   obtain rfl := els_lit4 u1i u1j
   have f42 : Els (kArr 4 (kInt .u64)) S23 w23 ((.u 0 :: .u 0 :: .u 0 :: .u 0 :: U4 y38 []) : List Value) [[0, 0, 0, 0], y38] := by exact (Els.cons (K := (kArr 4 (kInt .u64))) (vs := [.u 0, .u 0, .u 0, .u 0]) (x := [0, 0, 0, 0]) ⟨rfl, (Els.cons (K := (kInt .u64)) (vs := [.u 0]) (x := 0) rfl (Els.cons (K := (kInt .u64)) (vs := [.u 0]) (x := 0) rfl (Els.cons (K := (kInt .u64)) (vs := [.u 0]) (x := 0) rfl (Els.cons (K := (kInt .u64)) (vs := [.u 0]) (x := 0) rfl Els.nil))))⟩ (Els.cons (K := (kArr 4 (kInt .u64))) (vs := (U4 y38 [])) (x := y38) ⟨l40, els_mk4 l40⟩ Els.nil))
   refine Om (.buildSlice 405 2 #[(0, 19), (1, 20)]) 21 405 (fun b => .slice (Gp (some b)) 2 2) 24 ((.u 0 :: .u 0 :: .u 0 :: .u 0 :: U4 y38 []) : List Value) (2 * (kArr 4 (kInt .u64)).size) p23 (Av 2) fun b41 w24 z24 p24 => ?_
   refine Xi [3, 4] (Fc S23 w24 []) (by decide) ?_
   obtain ⟨S25, z25, p25, f44⟩ := p24.freezeRd 0 rfl (f42.ext z24) (by decide)
   refine AnyG.refz z25 ?_
   refine Gb h fun y45 e46 h => ?_
   refine Oc (kc 297 [21] #[405]) 22 24 297 #[.slice (Gp (some b41)) 2 2] (Ac 3) (W.zb [[0, 0, 0, 0], y38] y45 e46 _ _ _ p25 f44 rfl) ?_
   rintro _ w26 ⟨S26, u1k, rfl, z26, p26, u1l, u1m⟩
   refine Xi [4] (Fc S26 w26 []) (by decide) ?_
   have f47 : Els (kInt .u64) S26 w26 ([.u 0, .u 0, .u 0, .u 0] : List Value) [0, 0, 0, 0] := (Els.cons (K := (kInt .u64)) (vs := [.u 0]) (x := 0) rfl (Els.cons (K := (kInt .u64)) (vs := [.u 0]) (x := 0) rfl (Els.cons (K := (kInt .u64)) (vs := [.u 0]) (x := 0) rfl (Els.cons (K := (kInt .u64)) (vs := [.u 0]) (x := 0) rfl Els.nil))))
   refine Xn 24 4 22 0 1 b3 4 u1k p26 rfl rfl (As 4) (by kernel_rfl) (by kernel_rfl) (by kernel_rfl) u1m (Xo u1l) fun w27 z27 p27 => ?_
   refine Xi [] (Fc S26 w27 []) (by decide) ?_
   refine Ad ?_
   have p27 := p27.dp 0
   refine Gn 8 [(29, .int .u8 x0), (30, .int .u8 (iand .u8 x0 32)), (31, .bool (decide (iand .u8 x0 32 = 0)))] J31 ?_
   refine Gi h (fun h48 h => ?_) fun h48 h => ?_
   ·
    rw [dt h48]
    refine Gn 2 [] J32 ?_
    refine Xp 24 4 32 24 ⟨b3, 0, none⟩ u1k Xa (by kernel_rfl) (by kernel_rfl) (by rw [u1m]; kernel_rfl) (At_all (p27.mem 0 rfl)) ?_
    refine Gb h fun y49 e50 h => ?_
    refine Gc (kc 273 [32] #[24]) 33 24 273 _ (W.z6 y45 y49 e50 _ p27 (u1l.ext z27) u1m) ?_
    rintro _ w28 ⟨S28, u1n, rfl, z28, p28, u1o, u1p⟩
    refine Xn 24 4 33 0 0 b3 4 u1n p28 rfl u1m Xd (by kernel_rfl) (by kernel_rfl) (by kernel_rfl) u1p (Xo u1o) fun w29 z29 p29 => ?_
    refine Gn 3 [] J34 ?_
    refine Xp 24 4 34 24 ⟨b3, 0, none⟩ u1n Xa (by kernel_rfl) (by kernel_rfl) (by rw [u1p]; kernel_rfl) (At_all (p29.mem 0 rfl)) ?_
    have f51 : Els (kInt .u64) S28 w29 ([.u 0, .u 0, .u 0, .u 0] : List Value) [0, 0, 0, 0] := (Els.cons (K := (kInt .u64)) (vs := [.u 0]) (x := 0) rfl (Els.cons (K := (kInt .u64)) (vs := [.u 0]) (x := 0) rfl (Els.cons (K := (kInt .u64)) (vs := [.u 0]) (x := 0) rfl (Els.cons (K := (kInt .u64)) (vs := [.u 0]) (x := 0) rfl Els.nil))))
    refine Xn 24 2 34 0 1 b1 4 u1n p29 rfl rfl Xd (by kernel_rfl) (by kernel_rfl) (by kernel_rfl) u1p (Xo (u1o.ext z29)) fun w30 z30 p30 => ?_
    refine Gn 2 [(3, .bool true)] J33 ?_
    obtain rfl := sj h
    have p30 := p30.dp 0
    exact Xu (fn := Tryz.f298) (by kernel_rfl) (v := .tuple #[.agg u1n.toArray, .bool true]) (results_n2 (fn := Tryz.f298) (a := .cell 2 24) (b := .tmp 3) (by kernel_rfl) (resV_cell ⟨b1, 0, none⟩ (by kernel_rfl) (run_loadN u1n (by kernel_rfl) (by rw [u1p]; kernel_rfl) (At_all (p30.mem 0 rfl)))) (resV_tmp (by kernel_rfl))) ⟨S28, u1n, rfl, ((((((((((z2.t z3).t z22).t z23).t z24).t z25).t z26).t z27).t z28).t z29).t z30), p30.drop, (u1o.ext (z29.t z30)), u1p⟩
   ·
    rw [df h48]
    refine Gn 4 [] J34 ?_
    refine Xp 24 4 34 24 ⟨b3, 0, none⟩ u1k Xa (by kernel_rfl) (by kernel_rfl) (by rw [u1m]; kernel_rfl) (At_all (p27.mem 0 rfl)) ?_
    have f52 : Els (kInt .u64) S26 w27 ([.u 0, .u 0, .u 0, .u 0] : List Value) [0, 0, 0, 0] := (Els.cons (K := (kInt .u64)) (vs := [.u 0]) (x := 0) rfl (Els.cons (K := (kInt .u64)) (vs := [.u 0]) (x := 0) rfl (Els.cons (K := (kInt .u64)) (vs := [.u 0]) (x := 0) rfl (Els.cons (K := (kInt .u64)) (vs := [.u 0]) (x := 0) rfl Els.nil))))
    refine Xn 24 2 34 0 1 b1 4 u1k p27 rfl rfl Xd (by kernel_rfl) (by kernel_rfl) (by kernel_rfl) u1m (Xo (u1l.ext z27)) fun w31 z31 p31 => ?_
    refine Gn 2 [(3, .bool true)] J33 ?_
    obtain rfl := sj h
    have p31 := p31.dp 0
    exact Xu (fn := Tryz.f298) (by kernel_rfl) (v := .tuple #[.agg u1k.toArray, .bool true]) (results_n2 (fn := Tryz.f298) (a := .cell 2 24) (b := .tmp 3) (by kernel_rfl) (resV_cell ⟨b1, 0, none⟩ (by kernel_rfl) (run_loadN u1k (by kernel_rfl) (by rw [u1m]; kernel_rfl) (At_all (p31.mem 0 rfl)))) (resV_tmp (by kernel_rfl))) ⟨S26, u1k, rfl, ((((((((z2.t z3).t z22).t z23).t z24).t z25).t z26).t z27).t z31), p31.drop, (u1l.ext (z27.t z31)), u1m⟩
  ·
   rw [df h37]
   refine Gm 7 [([12, 11], .bool (decide (ior .u8 x0 32 = 115)))] (Ys 111010000000000111 B298 J2v) ?_
   refine Gi h (fun h53 h => ?_) fun h53 h => ?_
   ·
    rw [dt h53]
    refine Gn 4 [] (Yt 1110100010 B298 [0, 1, 2, 3, 4, 5] (Ys 1110100011 B298 J2n)) ?_
    refine Gb h fun y54 e55 h => ?_
    refine Gc (.call { callee := .value (.func 315), args := #[(.const (.int .u8 9)), (.const (.int .u8 10))], argTypes := #[5, 5] }) 23 24 315 _ (W.z9 9 10 y54 e55  p3 ) ?_
    rintro _ w32 ⟨S32, u1q, rfl, z32, p32, u1r, u1s⟩
    refine Gb h fun y56 e57 h => ?_
    refine Gc (.call { callee := .value (.func 315), args := #[(.const (.int .u8 12)), (.const (.int .u8 13))], argTypes := #[5, 5] }) 24 24 315 _ (W.z9 12 13 y56 e57  p32 ) ?_
    rintro _ w33 ⟨S33, u1t, rfl, z33, p33, u1u, u1v⟩
    refine Gb h fun y58 e59 h => ?_
    refine Gc (.call { callee := .value (.func 274), args := #[(.const (.int .u8 32))], argTypes := #[5] }) 25 24 274 _ (W.z5 32 y58 e59  p33 ) ?_
    rintro _ w34 ⟨S34, u1w, rfl, z34, p34, u1x, u1y⟩
    have l60 := Xh (u1r.ext (z33.t z34)) u1s rfl
    obtain rfl := els_lit4 (u1r.ext (z33.t z34)) u1s
    have l61 := Xh (u1u.ext z34) u1v rfl
    obtain rfl := els_lit4 (u1u.ext z34) u1v
    have l62 := Xh u1x u1y rfl
    obtain rfl := els_lit4 u1x u1y
    have f64 : Els (kArr 4 (kInt .u64)) S34 w34 ((U4 y54 (U4 y56 (U4 y58 []))) : List Value) [y54, y56, y58] := by exact (Els.cons (K := (kArr 4 (kInt .u64))) (vs := (U4 y54 [])) (x := y54) ⟨l60, els_mk4 l60⟩ (Els.cons (K := (kArr 4 (kInt .u64))) (vs := (U4 y56 [])) (x := y56) ⟨l61, els_mk4 l61⟩ (Els.cons (K := (kArr 4 (kInt .u64))) (vs := (U4 y58 [])) (x := y58) ⟨l62, els_mk4 l62⟩ Els.nil)))
    refine Om (.buildSlice 405 3 #[(0, 23), (1, 24), (2, 25)]) 26 405 (fun b => .slice (Gp (some b)) 3 3) 24 ((U4 y54 (U4 y56 (U4 y58 []))) : List Value) (3 * (kArr 4 (kInt .u64)).size) p34 Xa fun b63 w35 z35 p35 => ?_
    obtain ⟨S36, z36, p36, f66⟩ := p35.freezeRd 0 rfl (f64.ext z35) (by decide)
    refine Gb h fun y67 e68 h => ?_
    refine Gc (kc 297 [26] #[405]) 27 24 297 _ (W.zb [y54, y56, y58] y67 e68 _ _ _ p36 f66 rfl) ?_
    rintro _ w37 ⟨S37, u1z, rfl, z37, p37, u20, u21⟩
    have p37 := p37.dp 0
    have f69 : Els (kInt .u64) S37 w37 ([.u 0, .u 0, .u 0, .u 0] : List Value) [0, 0, 0, 0] := (Els.cons (K := (kInt .u64)) (vs := [.u 0]) (x := 0) rfl (Els.cons (K := (kInt .u64)) (vs := [.u 0]) (x := 0) rfl (Els.cons (K := (kInt .u64)) (vs := [.u 0]) (x := 0) rfl (Els.cons (K := (kInt .u64)) (vs := [.u 0]) (x := 0) rfl Els.nil))))
    refine Xn 24 4 27 0 0 b3 4 u1z p37 rfl rfl Xd (by kernel_rfl) (by kernel_rfl) (by kernel_rfl) u21 (Xo u20) fun w38 z38 p38 => ?_
    refine Gn 9 [(29, .int .u8 x0), (30, .int .u8 (iand .u8 x0 32)), (31, .bool (decide (iand .u8 x0 32 = 0)))] J31 ?_
    refine Gi h (fun h70 h => ?_) fun h70 h => ?_
    ·
     rw [dt h70]
     refine Gn 2 [] J32 ?_
     refine Xp 24 4 32 24 ⟨b3, 0, none⟩ u1z Xa (by kernel_rfl) (by kernel_rfl) (by rw [u21]; kernel_rfl) (At_all (p38.mem 0 rfl)) ?_
     refine Gb h fun y71 e72 h => ?_
     refine Gc (kc 273 [32] #[24]) 33 24 273 _ (W.z6 y67 y71 e72 _ p38 (u20.ext z38) u21) ?_
     rintro _ w39 ⟨S39, u22, rfl, z39, p39, u23, u24⟩
     refine Xn 24 4 33 0 0 b3 4 u22 p39 rfl u21 Xd (by kernel_rfl) (by kernel_rfl) (by kernel_rfl) u24 (Xo u23) fun w40 z40 p40 => ?_
     refine Gn 3 [] J34 ?_
     refine Xp 24 4 34 24 ⟨b3, 0, none⟩ u22 Xa (by kernel_rfl) (by kernel_rfl) (by rw [u24]; kernel_rfl) (At_all (p40.mem 0 rfl)) ?_
     have f73 : Els (kInt .u64) S39 w40 ([.u 0, .u 0, .u 0, .u 0] : List Value) [0, 0, 0, 0] := (Els.cons (K := (kInt .u64)) (vs := [.u 0]) (x := 0) rfl (Els.cons (K := (kInt .u64)) (vs := [.u 0]) (x := 0) rfl (Els.cons (K := (kInt .u64)) (vs := [.u 0]) (x := 0) rfl (Els.cons (K := (kInt .u64)) (vs := [.u 0]) (x := 0) rfl Els.nil))))
     refine Xn 24 2 34 0 1 b1 4 u22 p40 rfl rfl Xd (by kernel_rfl) (by kernel_rfl) (by kernel_rfl) u24 (Xo (u23.ext z40)) fun w41 z41 p41 => ?_
     refine Gn 2 [(3, .bool true)] J33 ?_
     obtain rfl := sj h
     have p41 := p41.dp 0
     exact Xu (fn := Tryz.f298) (by kernel_rfl) (v := .tuple #[.agg u22.toArray, .bool true]) (results_n2 (fn := Tryz.f298) (a := .cell 2 24) (b := .tmp 3) (by kernel_rfl) (resV_cell ⟨b1, 0, none⟩ (by kernel_rfl) (run_loadN u22 (by kernel_rfl) (by rw [u24]; kernel_rfl) (At_all (p41.mem 0 rfl)))) (resV_tmp (by kernel_rfl))) ⟨S39, u22, rfl, (((((((((((z2.t z3).t z32).t z33).t z34).t z35).t z36).t z37).t z38).t z39).t z40).t z41), p41.drop, (u23.ext (z40.t z41)), u24⟩
    ·
     rw [df h70]
     refine Gn 4 [] J34 ?_
     refine Xp 24 4 34 24 ⟨b3, 0, none⟩ u1z Xa (by kernel_rfl) (by kernel_rfl) (by rw [u21]; kernel_rfl) (At_all (p38.mem 0 rfl)) ?_
     have f74 : Els (kInt .u64) S37 w38 ([.u 0, .u 0, .u 0, .u 0] : List Value) [0, 0, 0, 0] := (Els.cons (K := (kInt .u64)) (vs := [.u 0]) (x := 0) rfl (Els.cons (K := (kInt .u64)) (vs := [.u 0]) (x := 0) rfl (Els.cons (K := (kInt .u64)) (vs := [.u 0]) (x := 0) rfl (Els.cons (K := (kInt .u64)) (vs := [.u 0]) (x := 0) rfl Els.nil))))
     refine Xn 24 2 34 0 1 b1 4 u1z p38 rfl rfl Xd (by kernel_rfl) (by kernel_rfl) (by kernel_rfl) u21 (Xo (u20.ext z38)) fun w42 z42 p42 => ?_
     refine Gn 2 [(3, .bool true)] J33 ?_
     obtain rfl := sj h
     have p42 := p42.dp 0
     exact Xu (fn := Tryz.f298) (by kernel_rfl) (v := .tuple #[.agg u1z.toArray, .bool true]) (results_n2 (fn := Tryz.f298) (a := .cell 2 24) (b := .tmp 3) (by kernel_rfl) (resV_cell ⟨b1, 0, none⟩ (by kernel_rfl) (run_loadN u1z (by kernel_rfl) (by rw [u21]; kernel_rfl) (At_all (p42.mem 0 rfl)))) (resV_tmp (by kernel_rfl))) ⟨S37, u1z, rfl, (((((((((z2.t z3).t z32).t z33).t z34).t z35).t z36).t z37).t z38).t z42), p42.drop, (u20.ext (z38.t z42)), u21⟩
   ·
    rw [df h53]
    refine Gn 6 [] (Yt 111010100 B298 [0, 1, 2] J3b) ?_
    refine Xf 24 4 28 24 ⟨b3, 0, none⟩ [.u 0, .u 0, .u 0, .u 0] (p3.pa 0 0) ?_
    refine So 24 2 28 0 1 b1 0 (.agg #[.u 0, .u 0, .u 0, .u 0]) [.u 0, .u 0, .u 0, .u 0] p3 rfl Xd fun w43 z43 p43 => ?_
    refine Gn 2 [(3, .bool false)] J3b ?_
    obtain rfl := sj h
    have p43 := p43.dp 0
    exact R2 Tryz.f298 (.cell 2 24) 3 (.tuple #[.agg #[.u 0, .u 0, .u 0, .u 0], .bool false]) (Rn b1 (p43.pa 0 0)) Rt ⟨_, _, rfl, ((z2.t z3).t z43), p43.drop, (show Els (kInt .u64) S0 w43 ([.u 0, .u 0, .u 0, .u 0] : List Value) _ from (Els.cons (K := (kInt .u64)) (vs := [.u 0]) (x := 0) rfl (Els.cons (K := (kInt .u64)) (vs := [.u 0]) (x := 0) rfl (Els.cons (K := (kInt .u64)) (vs := [.u 0]) (x := 0) rfl (Els.cons (K := (kInt .u64)) (vs := [.u 0]) (x := 0) rfl Els.nil))))), rfl⟩
def J3d := Ys 111 B323 []
def J3e := Ys 1101 B323 J3d
def J3h := Ys 1111 B323 []
def Post.zg (r : Int) (v : Value) (w' : World) : Prop :=
 ∃ S', v = .int .u8 r ∧ Ext S0 w0 S' w' ∧ Hp nz wz S' w' (Lr)
theorem W.zg (x0 : Int) (r : Int) (h : M.a6a x0 = some r) {nz wz S0 w0 Lr} (p0 : Hp nz wz S0 w0 (Lr)) :
  Calls Tg 323 #[.int .u8 x0] w0 (Rets (Post.zg nz wz S0 w0 Lr r)) := by
 refine Zf Tryz.f323 B323 12 ?_
 refine Gj 13 [(0, .int .u8 x0)] fun junk => ?_
 delta M.a6a at h
 refine Gm 10 [([2], .int .u8 0), ([3], .int .u8 x0), ([4, 5], .bool (decide (x0 ≥ 65)))] (Yt 1100 B323 [3, 4, 5] J3e) ?_
 refine Gi h (fun h1 h => ?_) fun h1 h => ?_
 ·
  rw [dt h1]
  refine Gm 4 [([6], .int .u8 x0), ([7, 8], .bool (decide (x0 ≤ 70)))] J3e ?_
  refine Gi h (fun h2 h => ?_) fun h2 h => ?_
  ·
   rw [dt h2]
   refine Gm 8 [([9], .int .u8 x0), ([10], .int .u8 (wr .u8 (x0 + 97))), ([11, 2], .int .u8 (wr .u8 ((wr .u8 (x0 + 97)) - 65)))] (Ys 110101 B323 J3d) ?_
   obtain rfl := sj h
   exact Xc Tryz.f323 (.int .u8 (wr .u8 ((wr .u8 (x0 + 97)) - 65))) ⟨_, rfl, (Xg S0 w0), p0⟩
  ·
   rw [df h2]
   refine Gm 7 [([12, 2], .int .u8 x0)] J3h ?_
   obtain rfl := sj h
   exact Xc Tryz.f323 (.int .u8 x0) ⟨_, rfl, (Xg S0 w0), p0⟩
 ·
  rw [df h1]
  refine Gm 11 [([6, 7], undef), ([8], .bool false), ([12, 2], .int .u8 x0)] J3h ?_
  obtain rfl := sj h
  exact Xc Tryz.f323 (.int .u8 x0) ⟨_, rfl, (Xg S0 w0), p0⟩
def J3i := Ys 111 B199 []
def Post.zh (r : Int) (v : Value) (w' : World) : Prop :=
 ∃ S', v = .i r ∧ Ext S0 w0 S' w' ∧ Hp nz wz S' w' (Lr)
theorem W.zh (x0 : ByteArray) (x1 : Int) (r : Int) (h : M.a6b x0 x1 = some r) {nz wz S0 w0 Lr} (p0 : Hp nz wz S0 w0 (Lr)) :
  Calls Tg 199 #[.string x0, .int .u8 x1] w0 (Rets (Post.zh nz wz S0 w0 Lr r)) := by
 refine Zf Tryz.f199 B199 6 ?_
 refine Gj 8 [(0, .string x0), (1, .int .u8 x1)] fun junk => ?_
 delta M.a6b at h
 refine Gn 8 [(4, .i 0), (5, .string x0), (6, .int .u8 x1)] (Yt 110 B199 [2, 3] J3i) ?_
 refine Op_.ext { callee := .value (.func 249), args := #[5, 6], argTypes := #[9, 5] } 7 3 249 #[.string x0, .int .u8 x1] Tryz.f249 Extern.BytealgIndexByte.indexByte (.i (ixB x0 x1)) Xa (by kernel_rfl) (by kernel_rfl) (by kernel_rfl) (by kernel_rfl) (by kernel_rfl) (by kernel_rfl) (ixB_run _ _) ?_
 refine Gn 2 [(4, .i (ixB x0 x1))] J3i ?_
 obtain rfl := sj h
 exact Xc Tryz.f199 (.i (ixB x0 x1)) ⟨_, rfl, (Xg S0 w0), p0⟩
def J3k := Ys 111 B134 []
def Post.zi (r : Int) (v : Value) (w' : World) : Prop :=
 ∃ S', v = .i r ∧ Ext S0 w0 S' w' ∧ Hp nz wz S' w' (Lr)
theorem W.zi (x0 : ByteArray) (x1 : Int) (r : Int) (h : M.a1i x0 x1 = some r) {nz wz S0 w0 Lr} (p0 : Hp nz wz S0 w0 (Lr)) :
  Calls Tg 134 #[.string x0, .int .u8 x1] w0 (Rets (Post.zi nz wz S0 w0 Lr r)) := by
 refine Zf Tryz.f134 B134 6 ?_
 refine Gj 8 [(0, .string x0), (1, .int .u8 x1)] fun junk => ?_
 delta M.a1i at h
 refine Gn 8 [(4, .i 0), (5, .string x0), (6, .int .u8 x1)] (Yt 110 B134 [2, 3] J3k) ?_
 refine Gb h fun y1 e2 h => ?_
 refine Gc (kc 199 [5, 6] #[9, 5]) 7 3 199 _ (W.zh x0 x1 y1 e2  p0 ) ?_
 rintro _ w2 ⟨S2, rfl, z2, p2⟩
 refine Gn 2 [(4, .i y1)] J3k ?_
 obtain rfl := sj h
 exact Xc Tryz.f134 (.i y1) ⟨_, rfl, z2, p2⟩
def J3m := Ys 111 B316 []
def Post.zj (r : Int) (v : Value) (w' : World) : Prop :=
 ∃ S', v = .i r ∧ Ext S0 w0 S' w' ∧ Hp nz wz S' w' (Lr)
theorem W.zj (x0 : Int) (r : Int) (h : M.a6c x0 = some r) {nz wz S0 w0 Lr} (p0 : Hp nz wz S0 w0 (Lr)) :
  Calls Tg 316 #[.int .u8 x0] w0 (Rets (Post.zj nz wz S0 w0 Lr r)) := by
 refine Zf Tryz.f316 B316 5 ?_
 refine Gj 6 [(0, .int .u8 x0)] fun junk => ?_
 delta M.a6c at h
 refine Gn 7 [(2, .i 0), (3, .int .u8 x0)] (Yt 110 B316 [1, 2, 3] J3m) ?_
 refine Gb h fun y1 e2 h => ?_
 refine Gc (kc 323 [3] #[5]) 4 5 323 _ (W.zg x0 y1 e2  p0 ) ?_
 rintro _ w2 ⟨S2, rfl, z2, p2⟩
 refine Gb h fun y3 e4 h => ?_
 refine Gc (.call { callee := .value (.func 134), args := #[(.const (.string ⟨#[48, 49, 50, 51, 52, 53, 54, 55, 56, 57, 97, 98, 99, 100, 101, 102]⟩)), 4], argTypes := #[9, 5] }) 5 3 134 _ (W.zi (⟨#[48, 49, 50, 51, 52, 53, 54, 55, 56, 57, 97, 98, 99, 100, 101, 102]⟩ : ByteArray) y1 y3 e4  p2 ) ?_
 rintro _ w3 ⟨S3, rfl, z3, p3⟩
 refine Gn 2 [(2, .i y3)] J3m ?_
 obtain rfl := sj h
 exact Xc Tryz.f316 (.i y3) ⟨_, rfl, (z2.t z3), p3⟩
def J3q := Ys 1111 B299 []
def J3v := Ys 11111 B299 []
def Q3b := Yq 11110 B299
def Post.zk (gx0 : Nat) (r : Int × T134) (v : Value) (w' : World) : Prop :=
 ∃ S' u0, v = .int .u8 r.1 ∧ Ext S0 w0 S' w' ∧ Hp nz wz S' w' ((some gx0, .row 135 (vT134 r.2 u0) 4 0) :: Lr) ∧ PtO kT138 S' w' u0 r.2.bad
theorem W.zk (x0v : T134) (r : Int × T134) (h : M.a3m x0v = some r) {nz wz S0 w0 Lr} (gx0 u2) (p0 : Hp nz wz S0 w0 ((some gx0, .row 135 (vT134 x0v u2) 4 0) :: Lr)) (u3 : PtO kT138 S0 w0 u2 x0v.bad) :
  Calls Tg 299 #[(pt gx0 0)] w0 (Rets (Post.zk nz wz S0 w0 Lr gx0 r)) := by
 refine Zf Tryz.f299 B299 23 ?_
 refine Gj 24 [(0, (pt gx0 0))] fun junk => ?_
 delta M.a3m at h
 refine Gn 7 [(2, .int .u8 0), (4, (pt gx0 0))] (Yt 110 B299 [1, 2, 3] (Ys 111 B299 [])) ?_
 refine Gb h fun y2 e3 h => ?_
 refine Gc (kc 197 [4] #[132]) 5 5 197 _ (W.z0 x0v y2 e3 _ _ p0 u3) ?_
 rintro _ w2 ⟨S2, u7, rfl, z2, p2, u8⟩
 refine Gb h fun y4 e5 h => ?_
 refine Gc (kc 316 [5] #[5]) 6 3 316 _ (W.zj y2.1 y4 e5  p2 ) ?_
 rintro _ w3 ⟨S3, rfl, z3, p3⟩
 refine Gm 8 [([3, 7], .i y4), ([8], .bool (decide (y4 < 0)))] (Ys 11101 B299 J3q) ?_
 refine Gi h (fun h6 h => ?_) fun h6 h => ?_
 ·
  rw [dt h6]
  refine Gm 7 [([9, 10, 11], (pt gx0 0)), ([12], (pt gx0 1))] (Yt 1110100 B299 [4, 5] (Ys 1110101 B299 J3q)) ?_
  refine Xb 3 12 13 3 ⟨gx0, 1, none⟩ (.i y2.2.at_) (p3.c 0 1) ?_
  refine Gb h fun y7 e8 h => ?_
  refine Gc (kc 69 [9, 13] #[132, 3]) 14 27 69 _ (W.z2 y2.2 y2.2.at_ y7 e8 _ _ p3 (u8.ext z3)) ?_
  rintro _ w4 ⟨S4, u25, u26, u27, u28, rfl, z4, p4, u29, u2a, rfl, u2b⟩
  refine Gn 5 [(2, .int .u8 0)] (Ys 11101011 B299 J3q) ?_
  obtain rfl := sj h
  exact Xc Tryz.f299 (.int .u8 0) ⟨_, _, rfl, ((z2.t z3).t z4), p4, u2b⟩
 ·
  rw [df h6]
  refine Gm 7 [([15, 16], (pt gx0 0)), ([17], (pt gx0 1))] (Zr Q3b [3, 4, 5, 6, 7] J3v) ?_
  refine Xb 3 17 18 3 ⟨gx0, 1, none⟩ (.i y2.2.at_) (p3.c 0 1) ?_
  refine Gn 3 [(19, .i (wr .i64 (y2.2.at_ + 1))), (20, (pt gx0 0)), (21, (pt gx0 1))] (Zr Q3b [7] J3v) ?_
  refine So 3 21 19 0 0 gx0 1 (.i (wr .i64 (y2.2.at_ + 1))) [.i (wr .i64 (y2.2.at_ + 1))] p3 rfl Xd fun w5 z5 p5 => ?_
  refine Gm 7 [([22], .i y4), ([23, 2], .int .u8 (wr .u8 y4))] (Ys 111111 B299 []) ?_
  obtain rfl := sj h
  exact Xc Tryz.f299 (.int .u8 (wr .u8 y4)) ⟨_, _, rfl, ((z2.t z3).t z5), p5, (u8.ext (z3.t z5))⟩
def J41 := Ys 111 B300 []
def Q3g := Yq 110 B300
def Post.zl (r : T370) (v : Value) (w' : World) : Prop :=
 ∃ S', v = (ag (vT370 r)) ∧ Ext S0 w0 S' w' ∧ Hp nz wz S' w' (Lr) ∧ r.set_.length = 4
theorem W.zl (x0 : Int) (r : T370) (h : M.ar x0 = some r) {nz wz S0 w0 Lr} (p0 : Hp nz wz S0 w0 (Lr)) :
  Calls Tg 300 #[.int .u8 x0] w0 (Rets (Post.zl nz wz S0 w0 Lr r)) := by
 refine Zf Tryz.f300 B300 6 ?_
 refine Gj 7 [(0, .int .u8 x0)] fun junk => ?_
 delta M.ar at h
 refine Gn 2 [] (Yt 10 B300 [0] (Ys 11 B300 [])) ?_
 refine Oa 371 2 0 (.agg #[.u 0, .u 0, .u 0, .u 0, .int .u8 0, .bool false]) [.u 0, .u 0, .u 0, .u 0, .int .u8 0, .bool false] p0 Xa fun b1 w2 z2 p2 => ?_
 refine Gn 4 [(3, .int .u8 x0)] (Zr Q3g [1, 2, 3, 4] J41) ?_
 refine Gb h fun y3 e4 h => ?_
 refine Gc (kc 274 [3] #[5]) 4 24 274 _ (W.z5 x0 y3 e4  p2 ) ?_
 rintro _ w3 ⟨S3, u2c, rfl, z3, p3, u2d, u2e⟩
 refine Gn 1 [(5, .int .u8 x0)] (Zr Q3g [3, 4] J41) ?_
 have l5 := Xh u2d u2e rfl
 obtain rfl := els_lit4 u2d u2e
 refine Gn 1 [(6, (ag (U4 y3 [.int .u8 x0, .bool true])))] (Zr Q3g [4] J41) ?_
 refine So 371 2 6 0 0 b1 0 (ag (U4 y3 [.int .u8 x0, .bool true])) (U4 y3 [.int .u8 x0, .bool true]) p3 rfl Xd fun w4 z4 p4 => ?_
 refine Gn 1 [] J41 ?_
 obtain rfl := sj h
 exact R1 Tryz.f300 (.cell 2 371) (ag (U4 y3 [.int .u8 x0, .bool true])) (Rn b1 (p4.pa 0 0)) ⟨_, rfl, ((z2.t z3).t z4), p4.drop, l5⟩
def J46 := Zb 0 (Ys 11111 B277 [])
def J47 := Ys 1111001111111 B277 J46
def J4a := Ys 1111001111111011 B277 J46
def J4c := Ys 111111 B277 []
def Q3o := Yq 111110 B277
def J4f := Ys 1111111 B277 []
def Post.zm (gx0 : Nat) (r : T370 × T134) (v : Value) (w' : World) : Prop :=
 ∃ S' u0, v = (ag (vT370 r.1)) ∧ Ext S0 w0 S' w' ∧ Hp nz wz S' w' ((some gx0, .row 135 (vT134 r.2 u0) 4 0) :: Lr) ∧ r.1.set_.length = 4 ∧ PtO kT138 S' w' u0 r.2.bad
def L.zn (gx0 : Nat) : T370 × Int × Bool × T134 → (T370 × T134) → Prop := fun ⟨x2v, x3, x66, e0v⟩ r => ∀ S1 w1, Ext S0 w0 S1 w1 → ∀ gx2 u0 (_ : Hp nz wz S1 w1 ((some gx2, .row 371 (vT370 x2v) 6 0) :: (some gx0, .row 135 (vT134 e0v u0) 4 0) :: Lr)) (_ : x2v.set_.length = 4) (_ : PtO kT138 S1 w1 u0 e0v.bad) (junk : Nat → Value),
 Goes Tg (base 277) J47 ⟨lfr 90 [(0, (pt gx0 0)), (2, (pt gx2 0)), (3, .int .u8 x3), (66, .bool x66)] junk, []⟩ w1 (Done Tg 277 (Rets (Post.zm nz wz S0 w0 Lr gx0 r)))
theorem W.zn {nz wz S0 w0 Lr} (gx0 : Nat) : ∀ a r, M.a3n a = some r → L.zn nz wz S0 w0 Lr gx0 a r := by
 intro ⟨x2v, x3, x66, e0v⟩ r h S1 w1 hx gx2 u0 p1 ue u1 junk
 rw [M.a3n] at h
 try dsimp only at h
 refine Gi h (fun h30 h => ?_) fun h30 h => ?_
 ·
  rw [h30]
  refine Gm 7 [([74, 75, 76], (pt gx0 0)), ([77], (pt gx0 1))] (Yt 111100111111100 B277 [4, 5] (Ys 111100111111101 B277 J46)) ?_
  refine Xb 3 77 78 3 ⟨gx0, 1, none⟩ (.i e0v.at_) (p1.c 1 1) ?_
  have p1 := p1.fr 1
  refine Gb h fun y31 e32 h => ?_
  refine Gc (kc 69 [74, 78] #[132, 3]) 79 27 69 _ (W.z2 e0v e0v.at_ y31 e32 _ _ p1 u1) ?_
  rintro _ w21 ⟨S21, u2f, u2g, u2h, u2i, rfl, z21, p21, u2j, u2k, rfl, u2l⟩
  refine Gn 4 [(80, .agg #[.u 0, .u 0, .u 0, .u 0, .int .u8 0, .bool false])] (Yt 1111001111111010 B277 [1] J4a) ?_
  refine So 371 2 80 0 1 gx2 0 (.agg #[.u 0, .u 0, .u 0, .u 0, .int .u8 0, .bool false]) [.u 0, .u 0, .u 0, .u 0, .int .u8 0, .bool false] p21 rfl Xd fun w22 z22 p22 => ?_
  refine Gn 1 [] J4a ?_
  obtain rfl := sj h
  have p22 := (p22.fr 0).fr 1
  exact R1 Tryz.f277 (.cell 2 371) (.agg #[.u 0, .u 0, .u 0, .u 0, .int .u8 0, .bool false]) (Rn gx2 (p22.pa 0 0)) ⟨_, _, rfl, ((hx.t z21).t z22), p22.drop, rfl, (u2l.ext z22)⟩
 ·
  rw [bf h30]
  refine Gm 8 [([81, 82], (pt gx0 0)), ([83], (pt gx0 1))] (Zr Q3o [3, 4, 5, 6, 7] J4c) ?_
  refine Xb 3 83 84 3 ⟨gx0, 1, none⟩ (.i e0v.at_) (p1.c 1 1) ?_
  refine Gn 3 [(85, .i (wr .i64 (e0v.at_ + 1))), (86, (pt gx0 0)), (87, (pt gx0 1))] (Zr Q3o [7] J4c) ?_
  refine So 3 87 85 0 1 gx0 1 (.i (wr .i64 (e0v.at_ + 1))) [.i (wr .i64 (e0v.at_ + 1))] p1 rfl Xd fun w23 z23 p23 => ?_
  refine Gn 4 [(88, .int .u8 x3)] (Yt 1111110 B277 [1, 2] J4f) ?_
  refine Gb h fun y33 e34 h => ?_
  refine Gc (kc 300 [88] #[5]) 89 371 300 _ (W.zl x3 y33 e34  p23 ) ?_
  rintro _ w24 ⟨S24, rfl, z24, p24, u2n⟩
  refine So 371 2 89 0 0 gx2 0 (ag (vT370 y33)) (vT370 y33) p24 rfl Xd fun w25 z25 p25 => ?_
  refine Gn 1 [] J4f ?_
  obtain rfl := sj h
  exact R1 Tryz.f277 (.cell 2 371) (ag (vT370 y33)) (Rn gx2 (p25.pa 0 0)) ⟨_, _, rfl, (((hx.t z23).t z24).t z25), p25.drop, u2n, (u1.ext ((z23.t z24).t z25))⟩
def J4l := Ys 1111 B277 []
def J4m := Ys 11101 B277 J4l
def Q3x := Yq 11100 B277
def J4q := Ys 11101101 B277 J4l
def Q40 := Yq 11101100 B277
def J4t := Ys 111011011 B277 J4l
def Q42 := Yq 111011010 B277
def J4x := Ys 111100101 B277 J46
def Q45 := Yq 111100100 B277
def J54 := Ys 111100101111 B277 J46
def J57 := Ys 11110011101 B277 J46
def Q4e := Yq 11110011100 B277
def J5a := Ys 111100111011 B277 J46
def J5d := Ys 1111001111101 B277 J46
def Q4j := Yq 1111001111100 B277
def J5g := Ys 11110011111011 B277 J46
def Q4m := Yq 1111001111110 B277
theorem W.zm (x0v : T134) (r : T370 × T134) (h : M.a3o x0v = some r) {nz wz S0 w0 Lr} (gx0 u2) (p0 : Hp nz wz S0 w0 ((some gx0, .row 135 (vT134 x0v u2) 4 0) :: Lr)) (u3 : PtO kT138 S0 w0 u2 x0v.bad) :
  Calls Tg 277 #[(pt gx0 0)] w0 (Rets (Post.zm nz wz S0 w0 Lr gx0 r)) := by
 refine Zf Tryz.f277 B277 89 ?_
 refine Gj 90 [(0, (pt gx0 0))] fun junk => ?_
 delta M.a3o at h
 refine Gn 2 [] (Yt 10 B277 [0] (Ys 11 B277 [])) ?_
 refine Oa 371 2 0 (.agg #[.u 0, .u 0, .u 0, .u 0, .int .u8 0, .bool false]) [.u 0, .u 0, .u 0, .u 0, .int .u8 0, .bool false] p0 Xa fun b2 w2 z2 p2 => ?_
 refine Gn 4 [(8, (pt gx0 0))] (Yt 110 B277 [1, 2] (Ys 111 B277 [])) ?_
 have p2 := p2.fr 1
 refine Gb h fun y4 e5 h => ?_
 refine Gc (kc 197 [8] #[132]) 9 5 197 _ (W.z0 x0v y4 e5 _ _ p2 (u3.ext z2)) ?_
 rintro _ w3 ⟨S3, u2o, rfl, z3, p3, u2p⟩
 refine Gm 6 [([3, 11], .int .u8 y4.1)] (Zr Q3x [1, 2, 3, 4, 5, 6, 7] J4m) ?_
 refine Gb h fun y6 e7 h => ?_
 refine Gc (kc 298 [11] #[5]) 12 393 298 _ (W.zf y4.1 y6 e7  p3 ) ?_
 rintro _ w4 ⟨S4, u2q, rfl, z4, p4, u2r, u2s⟩
 refine Gn 3 [(10, .tuple #[.agg u2q.toArray, .bool y6.2]), (13, .agg u2q.toArray), (14, .bool y6.2)] (Zr Q3x [5, 6, 7] J4m) ?_
 refine Oa 24 4 0 (.agg #[.u 0, .u 0, .u 0, .u 0]) [.u 0, .u 0, .u 0, .u 0] p4 Xa fun b8 w5 z5 p5 => ?_
 have f10 : Els (kInt .u64) S4 w5 ([.u 0, .u 0, .u 0, .u 0] : List Value) [0, 0, 0, 0] := (Els.cons (K := (kInt .u64)) (vs := [.u 0]) (x := 0) rfl (Els.cons (K := (kInt .u64)) (vs := [.u 0]) (x := 0) rfl (Els.cons (K := (kInt .u64)) (vs := [.u 0]) (x := 0) rfl (Els.cons (K := (kInt .u64)) (vs := [.u 0]) (x := 0) rfl Els.nil))))
 refine Xn 24 4 13 0 0 b8 4 u2q p5 rfl rfl Xd (by kernel_rfl) (by kernel_rfl) (by kernel_rfl) u2s (Xo (u2r.ext z5)) fun w6 z6 p6 => ?_
 refine Gm 6 [([5, 15], .bool y6.2)] (Ys 111011 B277 J4l) ?_
 refine Gi h (fun h11 h => ?_) fun h11 h => ?_
 ·
  rw [h11]
  refine Gm 6 [([16, 17], (pt gx0 0)), ([18], (pt gx0 1))] (Zr Q40 [3, 4, 5, 6, 7] J4q) ?_
  refine Xb 3 18 19 3 ⟨gx0, 1, none⟩ (.i y4.2.at_) (p6.c 1 1) ?_
  refine Gn 3 [(20, .i (wr .i64 (y4.2.at_ + 1))), (21, (pt gx0 0)), (22, (pt gx0 1))] (Zr Q40 [7] J4q) ?_
  refine So 3 22 20 0 1 gx0 1 (.i (wr .i64 (y4.2.at_ + 1))) [.i (wr .i64 (y4.2.at_ + 1))] p6 rfl Xd fun w7 z7 p7 => ?_
  refine Gn 3 [] (Zr Q42 [0, 1, 2] J4t) ?_
  refine Xp 24 4 23 24 ⟨b8, 0, none⟩ u2q Xa (by kernel_rfl) (by kernel_rfl) (by rw [u2s]; kernel_rfl) (At_all (p7.mem 0 rfl)) ?_
  have l12 := Xh (u2r.ext ((z5.t z6).t z7)) u2s rfl
  obtain rfl := els_lit4 (u2r.ext ((z5.t z6).t z7)) u2s
  refine Gn 1 [(24, (ag (U4 y6.1 [.int .u8 0, .bool false])))] (Zr Q42 [2] J4t) ?_
  refine So 371 2 24 0 2 b2 0 (ag (U4 y6.1 [.int .u8 0, .bool false])) (U4 y6.1 [.int .u8 0, .bool false]) p7 rfl Xd fun w8 z8 p8 => ?_
  refine Gn 1 [] J4t ?_
  obtain rfl := sj h
  have p8 := p8.dp 0
  have p8 := (p8.fr 0).fr 1
  exact R1 Tryz.f277 (.cell 2 371) (ag (U4 y6.1 [.int .u8 0, .bool false])) (Rn b2 (p8.pa 0 0)) ⟨_, _, rfl, ((((((z2.t z3).t z4).t z5).t z6).t z7).t z8), p8.drop, l12, (u2p.ext ((((z4.t z5).t z6).t z7).t z8))⟩
 ·
  rw [bf h11]
  refine Gm 10 [([26], .int .u8 y4.1), ([27, 25], .bool (decide (y4.1 = 120)))] (Ys 1111001 B277 J46) ?_
  refine Gi h (fun h13 h => ?_) fun h13 h => ?_
  ·
   rw [dt h13]
   refine Gm 6 [([28, 29], (pt gx0 0)), ([30], (pt gx0 1))] (Zr Q45 [3, 4, 5, 6, 7] J4x) ?_
   refine Xb 3 30 31 3 ⟨gx0, 1, none⟩ (.i y4.2.at_) (p6.c 1 1) ?_
   refine Gn 3 [(32, .i (wr .i64 (y4.2.at_ + 1))), (33, (pt gx0 0)), (34, (pt gx0 1))] (Zr Q45 [7] J4x) ?_
   refine So 3 34 32 0 1 gx0 1 (.i (wr .i64 (y4.2.at_ + 1))) [.i (wr .i64 (y4.2.at_ + 1))] p6 rfl Xd fun w9 z9 p9 => ?_
   refine Gn 4 [(35, (pt gx0 0))] (Yt 1111001010 B277 [1, 2] (Ys 1111001011 B277 J46)) ?_
   have p9 := p9.fr 1
   refine Gb h fun y14 e15 h => ?_
   refine Gc (kc 299 [35] #[132]) 36 5 299 _ (W.zk (⟨y4.2.s, wr .i64 (y4.2.at_ + 1), y4.2.deep, y4.2.bad⟩ : T134) y14 e15 _ _ p9 (u2p.ext (((z4.t z5).t z6).t z9))) ?_
   rintro _ w10 ⟨S10, u2u, rfl, z10, p10, u2v⟩
   have p10 := p10.dp 1
   refine Gn 5 [(6, .int .u8 y14.1), (37, (pt gx0 0))] (Yt 11110010110 B277 [1, 2] (Ys 11110010111 B277 J46)) ?_
   refine Gb h fun y16 e17 h => ?_
   refine Gc (kc 299 [37] #[132]) 38 5 299 _ (W.zk y14.2 y16 e17 _ _ p10 u2v) ?_
   rintro _ w11 ⟨S11, u2w, rfl, z11, p11, u2x⟩
   refine Gm 8 [([7, 41], .int .u8 y16.1), ([39], .int .u8 y14.1), ([40], .int .u8 (ishl .u8 y14.1 4)), ([42], .int .u8 (ior .u8 (ishl .u8 y14.1 4) y16.1))] (Yt 111100101110 B277 [4, 5] J54) ?_
   refine Gb h fun y18 e19 h => ?_
   refine Gc (kc 300 [42] #[5]) 43 371 300 _ (W.zl (ior .u8 (ishl .u8 y14.1 4) y16.1) y18 e19  p11 ) ?_
   rintro _ w12 ⟨S12, rfl, z12, p12, u2y⟩
   refine So 371 2 43 0 1 b2 0 (ag (vT370 y18)) (vT370 y18) p12 rfl Xd fun w13 z13 p13 => ?_
   refine Gn 1 [] J54 ?_
   obtain rfl := sj h
   have p13 := (p13.fr 0).fr 1
   exact R1 Tryz.f277 (.cell 2 371) (ag (vT370 y18)) (Rn b2 (p13.pa 0 0)) ⟨_, _, rfl, (((((((((z2.t z3).t z4).t z5).t z6).t z9).t z10).t z11).t z12).t z13), p13.drop, u2y, (u2x.ext (z12.t z13))⟩
  ·
   rw [df h13]
   refine Gm 7 [([45], .int .u8 y4.1), ([46, 44], .bool (decide (y4.1 = 110)))] (Ys 111100111 B277 J46) ?_
   refine Gi h (fun h20 h => ?_) fun h20 h => ?_
   ·
    rw [dt h20]
    refine Gm 6 [([47, 48], (pt gx0 0)), ([49], (pt gx0 1))] (Zr Q4e [3, 4, 5, 6, 7] J57) ?_
    refine Xb 3 49 50 3 ⟨gx0, 1, none⟩ (.i y4.2.at_) (p6.c 1 1) ?_
    refine Gn 3 [(51, .i (wr .i64 (y4.2.at_ + 1))), (52, (pt gx0 0)), (53, (pt gx0 1))] (Zr Q4e [7] J57) ?_
    refine So 3 53 51 0 1 gx0 1 (.i (wr .i64 (y4.2.at_ + 1))) [.i (wr .i64 (y4.2.at_ + 1))] p6 rfl Xd fun w14 z14 p14 => ?_
    refine Gn 3 [] (Yt 111100111010 B277 [0, 1] J5a) ?_
    refine Gb h fun y21 e22 h => ?_
    refine Gc (.call { callee := .value (.func 300), args := #[(.const (.int .u8 10))], argTypes := #[5] }) 54 371 300 _ (W.zl 10 y21 e22  p14 ) ?_
    rintro _ w15 ⟨S15, rfl, z15, p15, u2z⟩
    have p15 := p15.dp 0
    refine So 371 2 54 0 1 b2 0 (ag (vT370 y21)) (vT370 y21) p15 rfl Xd fun w16 z16 p16 => ?_
    refine Gn 1 [] J5a ?_
    obtain rfl := sj h
    have p16 := (p16.fr 0).fr 1
    exact R1 Tryz.f277 (.cell 2 371) (ag (vT370 y21)) (Rn b2 (p16.pa 0 0)) ⟨_, _, rfl, (((((((z2.t z3).t z4).t z5).t z6).t z14).t z15).t z16), p16.drop, u2z, (u2p.ext (((((z4.t z5).t z6).t z14).t z15).t z16))⟩
   ·
    rw [df h20]
    refine Gm 7 [([56], .int .u8 y4.1), ([57, 55], .bool (decide (y4.1 = 116)))] (Ys 11110011111 B277 J46) ?_
    refine Gi h (fun h23 h => ?_) fun h23 h => ?_
    ·
     rw [dt h23]
     refine Gm 6 [([58, 59], (pt gx0 0)), ([60], (pt gx0 1))] (Zr Q4j [3, 4, 5, 6, 7] J5d) ?_
     refine Xb 3 60 61 3 ⟨gx0, 1, none⟩ (.i y4.2.at_) (p6.c 1 1) ?_
     refine Gn 3 [(62, .i (wr .i64 (y4.2.at_ + 1))), (63, (pt gx0 0)), (64, (pt gx0 1))] (Zr Q4j [7] J5d) ?_
     refine So 3 64 62 0 1 gx0 1 (.i (wr .i64 (y4.2.at_ + 1))) [.i (wr .i64 (y4.2.at_ + 1))] p6 rfl Xd fun w17 z17 p17 => ?_
     refine Gn 3 [] (Yt 11110011111010 B277 [0, 1] J5g) ?_
     refine Gb h fun y24 e25 h => ?_
     refine Gc (.call { callee := .value (.func 300), args := #[(.const (.int .u8 9))], argTypes := #[5] }) 65 371 300 _ (W.zl 9 y24 e25  p17 ) ?_
     rintro _ w18 ⟨S18, rfl, z18, p18, u30⟩
     have p18 := p18.dp 0
     refine So 371 2 65 0 1 b2 0 (ag (vT370 y24)) (vT370 y24) p18 rfl Xd fun w19 z19 p19 => ?_
     refine Gn 1 [] J5g ?_
     obtain rfl := sj h
     have p19 := (p19.fr 0).fr 1
     exact R1 Tryz.f277 (.cell 2 371) (ag (vT370 y24)) (Rn b2 (p19.pa 0 0)) ⟨_, _, rfl, (((((((z2.t z3).t z4).t z5).t z6).t z17).t z18).t z19), p19.drop, u30, (u2p.ext (((((z4.t z5).t z6).t z17).t z18).t z19))⟩
    ·
     rw [df h23]
     refine Gm 6 [([67], .int .u8 y4.1), ([68, 69], .bool (decide (y4.1 = 0)))] (Zr Q4m [3, 4, 5, 6, 7] J47) ?_
     refine Gi h (fun h26 h => ?_) fun h26 h => ?_
     ·
      rw [dt h26]
      refine Gm 6 [([70, 71, 72], undef), ([73, 66], .bool true)] J47 ?_
      have p6 := p6.dp 0
      have p6 := (p6.fr 0).fr 1
      exact Gj 90 [(0, (pt gx0 0)), (2, (pt b2 0)), (3, .int .u8 y4.1), (66, .bool true)] (W.zn gx0 _ _ h _ _ ((((z2.t z3).t z4).t z5).t z6) _ _ p6 rfl (u2p.ext ((z4.t z5).t z6)))
     ·
      rw [df h26]
      refine Gn 1 [(70, .int .u8 y4.1)] (Zr Q4m [4, 5, 6, 7] J47) ?_
      refine Gb h fun y28 e29 h => ?_
      refine Gc (.call { callee := .value (.func 134), args := #[(.const (.string ⟨#[92, 46, 91, 93, 40, 41, 42, 43, 63, 123, 125, 94, 36, 45, 47, 124]⟩)), 70], argTypes := #[9, 5] }) 71 3 134 _ (W.zi (⟨#[92, 46, 91, 93, 40, 41, 42, 43, 63, 123, 125, 94, 36, 45, 47, 124]⟩ : ByteArray) y4.1 y28 e29  p6 ) ?_
      rintro _ w20 ⟨S20, rfl, z20, p20⟩
      have p20 := p20.dp 0
      refine Gm 4 [([72, 73, 66], .bool (decide (y28 < 0)))] J47 ?_
      have p20 := (p20.fr 0).fr 1
      exact Gj 90 [(0, (pt gx0 0)), (2, (pt b2 0)), (3, .int .u8 y4.1), (66, .bool (decide (y28 < 0)))] (W.zn gx0 _ _ h _ _ (((((z2.t z3).t z4).t z5).t z6).t z20) _ _ p20 rfl (u2p.ext (((z4.t z5).t z6).t z20)))
def J5l := Zb 0 (Ys 1111 B322 [])
def J5m := Ys 11100111 B322 J5l
def J5p := Ys 11100111011 B322 J5l
def J5r := Ys 11111 B322 []
def Q4u := Yq 11110 B322
def J5u := Ys 111111 B322 []
def Post.zo (gx0 : Nat) (r : T370 × T134) (v : Value) (w' : World) : Prop :=
 ∃ S' u0, v = (ag (vT370 r.1)) ∧ Ext S0 w0 S' w' ∧ Hp nz wz S' w' ((some gx0, .row 135 (vT134 r.2 u0) 4 0) :: Lr) ∧ r.1.set_.length = 4 ∧ PtO kT138 S' w' u0 r.2.bad
def L.zp (gx0 : Nat) : T370 × Int × Bool × T134 → (T370 × T134) → Prop := fun ⟨x2v, x3, x11, e0v⟩ r => ∀ S1 w1, Ext S0 w0 S1 w1 → ∀ gx2 u0 (_ : Hp nz wz S1 w1 ((some gx2, .row 371 (vT370 x2v) 6 0) :: (some gx0, .row 135 (vT134 e0v u0) 4 0) :: Lr)) (_ : x2v.set_.length = 4) (_ : PtO kT138 S1 w1 u0 e0v.bad) (junk : Nat → Value),
 Goes Tg (base 322) J5m ⟨lfr 39 [(0, (pt gx0 0)), (2, (pt gx2 0)), (3, .int .u8 x3), (11, .bool x11)] junk, []⟩ w1 (Done Tg 322 (Rets (Post.zo nz wz S0 w0 Lr gx0 r)))
theorem W.zp {nz wz S0 w0 Lr} (gx0 : Nat) : ∀ a r, M.a22 a = some r → L.zp nz wz S0 w0 Lr gx0 a r := by
 intro ⟨x2v, x3, x11, e0v⟩ r h S1 w1 hx gx2 u0 p1 ue u1 junk
 rw [M.a22] at h
 try dsimp only at h
 refine Gi h (fun h16 h => ?_) fun h16 h => ?_
 ·
  rw [h16]
  refine Gm 7 [([23, 24, 25], (pt gx0 0)), ([26], (pt gx0 1))] (Yt 1110011100 B322 [4, 5] (Ys 1110011101 B322 J5l)) ?_
  refine Xb 3 26 27 3 ⟨gx0, 1, none⟩ (.i e0v.at_) (p1.c 1 1) ?_
  have p1 := p1.fr 1
  refine Gb h fun y17 e18 h => ?_
  refine Gc (kc 69 [23, 27] #[132, 3]) 28 27 69 _ (W.z2 e0v e0v.at_ y17 e18 _ _ p1 u1) ?_
  rintro _ w8 ⟨S8, u31, u32, u33, u34, rfl, z8, p8, u35, u36, rfl, u37⟩
  refine Gn 4 [(29, .agg #[.u 0, .u 0, .u 0, .u 0, .int .u8 0, .bool false])] (Yt 11100111010 B322 [1] J5p) ?_
  refine So 371 2 29 0 1 gx2 0 (.agg #[.u 0, .u 0, .u 0, .u 0, .int .u8 0, .bool false]) [.u 0, .u 0, .u 0, .u 0, .int .u8 0, .bool false] p8 rfl Xd fun w9 z9 p9 => ?_
  refine Gn 1 [] J5p ?_
  obtain rfl := sj h
  have p9 := (p9.fr 0).fr 1
  exact R1 Tryz.f322 (.cell 2 371) (.agg #[.u 0, .u 0, .u 0, .u 0, .int .u8 0, .bool false]) (Rn gx2 (p9.pa 0 0)) ⟨_, _, rfl, ((hx.t z8).t z9), p9.drop, rfl, (u37.ext z9)⟩
 ·
  rw [bf h16]
  refine Gm 8 [([30, 31], (pt gx0 0)), ([32], (pt gx0 1))] (Zr Q4u [3, 4, 5, 6, 7] J5r) ?_
  refine Xb 3 32 33 3 ⟨gx0, 1, none⟩ (.i e0v.at_) (p1.c 1 1) ?_
  refine Gn 3 [(34, .i (wr .i64 (e0v.at_ + 1))), (35, (pt gx0 0)), (36, (pt gx0 1))] (Zr Q4u [7] J5r) ?_
  refine So 3 36 34 0 1 gx0 1 (.i (wr .i64 (e0v.at_ + 1))) [.i (wr .i64 (e0v.at_ + 1))] p1 rfl Xd fun w10 z10 p10 => ?_
  refine Gn 4 [(37, .int .u8 x3)] (Yt 111110 B322 [1, 2] J5u) ?_
  refine Gb h fun y19 e20 h => ?_
  refine Gc (kc 300 [37] #[5]) 38 371 300 _ (W.zl x3 y19 e20  p10 ) ?_
  rintro _ w11 ⟨S11, rfl, z11, p11, u39⟩
  refine So 371 2 38 0 0 gx2 0 (ag (vT370 y19)) (vT370 y19) p11 rfl Xd fun w12 z12 p12 => ?_
  refine Gn 1 [] J5u ?_
  obtain rfl := sj h
  exact R1 Tryz.f322 (.cell 2 371) (ag (vT370 y19)) (Rn gx2 (p12.pa 0 0)) ⟨_, _, rfl, (((hx.t z10).t z11).t z12), p12.drop, u39, (u1.ext ((z10.t z11).t z12))⟩
def J60 := Ys 111001 B322 J5l
def J62 := Ys 11100101 B322 J5l
def Q55 := Yq 11100110 B322
theorem W.zo (x0v : T134) (r : T370 × T134) (h : M.a3p x0v = some r) {nz wz S0 w0 Lr} (gx0 u2) (p0 : Hp nz wz S0 w0 ((some gx0, .row 135 (vT134 x0v u2) 4 0) :: Lr)) (u3 : PtO kT138 S0 w0 u2 x0v.bad) :
  Calls Tg 322 #[(pt gx0 0)] w0 (Rets (Post.zo nz wz S0 w0 Lr gx0 r)) := by
 refine Zf Tryz.f322 B322 38 ?_
 refine Gj 39 [(0, (pt gx0 0))] fun junk => ?_
 delta M.a3p at h
 refine Gn 2 [] (Yt 10 B322 [0] (Ys 11 B322 [])) ?_
 refine Oa 371 2 0 (.agg #[.u 0, .u 0, .u 0, .u 0, .int .u8 0, .bool false]) [.u 0, .u 0, .u 0, .u 0, .int .u8 0, .bool false] p0 Xa fun b2 w2 z2 p2 => ?_
 refine Gn 4 [(4, (pt gx0 0))] (Yt 110 B322 [1, 2] (Ys 111 B322 [])) ?_
 have p2 := p2.fr 1
 refine Gb h fun y4 e5 h => ?_
 refine Gc (kc 197 [4] #[132]) 5 5 197 _ (W.z0 x0v y4 e5 _ _ p2 (u3.ext z2)) ?_
 rintro _ w3 ⟨S3, u2o, rfl, z3, p3, u2p⟩
 refine Gn 7 [(3, .int .u8 y4.1), (7, (pt gx0 0))] (Yt 111000 B322 [1, 2] J60) ?_
 refine Gb h fun y6 e7 h => ?_
 refine Gc (.call { callee := .value (.func 132), args := #[7, (.const (.int .u8 92))], argTypes := #[132, 5] }) 8 4 132 _ (W.z3 y4.2 92 y6 e7 _ _ p3 u2p) ?_
 rintro _ w4 ⟨S4, u28, rfl, z4, p4, u2b⟩
 refine Gn 2 [(6, .bool y6.1)] J60 ?_
 refine Gi h (fun h8 h => ?_) fun h8 h => ?_
 ·
  rw [h8]
  refine Gn 4 [(9, (pt gx0 0))] (Yt 11100100 B322 [1, 2] J62) ?_
  refine Gb h fun y9 e10 h => ?_
  refine Gc (kc 277 [9] #[132]) 10 371 277 _ (W.zm y6.2 y9 e10 _ _ p4 u2b) ?_
  rintro _ w5 ⟨S5, u3a, rfl, z5, p5, u3b, u3c⟩
  refine So 371 2 10 0 1 b2 0 (ag (vT370 y9.1)) (vT370 y9.1) p5 rfl Xd fun w6 z6 p6 => ?_
  refine Gn 1 [] J62 ?_
  obtain rfl := sj h
  have p6 := (p6.fr 0).fr 1
  exact R1 Tryz.f322 (.cell 2 371) (ag (vT370 y9.1)) (Rn b2 (p6.pa 0 0)) ⟨_, _, rfl, ((((z2.t z3).t z4).t z5).t z6), p6.drop, u3b, (u3c.ext z6)⟩
 ·
  rw [bf h8]
  refine Gm 6 [([12], .int .u8 y4.1), ([13, 14], .bool (decide (y4.1 < 32)))] (Zr Q55 [3, 4, 5, 6, 7, 8, 9, 10, 11] J5m) ?_
  refine Gi h (fun h11 h => ?_) fun h11 h => ?_
  ·
   rw [dt h11]
   refine Gm 10 [([15, 16, 19, 20, 21], undef), ([17, 18, 22, 11], .bool true)] J5m ?_
   have p4 := (p4.fr 0).fr 1
   exact Gj 39 [(0, (pt gx0 0)), (2, (pt b2 0)), (3, .int .u8 y4.1), (11, .bool true)] (W.zp gx0 _ _ h _ _ ((z2.t z3).t z4) _ _ p4 rfl u2b)
  ·
   rw [df h11]
   refine Gm 4 [([15], .int .u8 y4.1), ([16, 17, 18], .bool (decide (y4.1 > 126)))] (Zr Q55 [7, 8, 9, 10, 11] J5m) ?_
   refine Gi h (fun h13 h => ?_) fun h13 h => ?_
   ·
    rw [dt h13]
    refine Gm 6 [([19, 20, 21], undef), ([22, 11], .bool true)] J5m ?_
    have p4 := (p4.fr 0).fr 1
    exact Gj 39 [(0, (pt gx0 0)), (2, (pt b2 0)), (3, .int .u8 y4.1), (11, .bool true)] (W.zp gx0 _ _ h _ _ ((z2.t z3).t z4) _ _ p4 rfl u2b)
   ·
    rw [df h13]
    refine Gn 1 [(19, .int .u8 y4.1)] (Zr Q55 [8, 9, 10, 11] J5m) ?_
    refine Gb h fun y14 e15 h => ?_
    refine Gc (.call { callee := .value (.func 134), args := #[(.const (.string ⟨#[93, 91, 45]⟩)), 19], argTypes := #[9, 5] }) 20 3 134 _ (W.zi (⟨#[93, 91, 45]⟩ : ByteArray) y4.1 y14 e15  p4 ) ?_
    rintro _ w7 ⟨S7, rfl, z7, p7⟩
    refine Gm 4 [([21, 22, 11], .bool (decide (y14 ≥ 0)))] J5m ?_
    have p7 := (p7.fr 0).fr 1
    exact Gj 39 [(0, (pt gx0 0)), (2, (pt b2 0)), (3, .int .u8 y4.1), (11, .bool (decide (y14 ≥ 0)))] (W.zp gx0 _ _ h _ _ (((z2.t z3).t z4).t z7) _ _ p7 rfl (u2b.ext z7))
def J68 := Zb 0 (Ys 1111111111 B314 [])
def J69 := Ys 111111111001 B314 J68
def J6a := Ys 11111111111 B314 []
def J6b := Yt 11111111110 B314 [1, 2] J6a
def J6c := Ys 11111111100111 B314 J68
def J6e := Ys 1111111110011111 B314 J68
def Q5d := Yq 1111111110011110 B314
def J6i := Ys 111111111001111111 B314 J68
def Q5g := Yq 111111111001111110 B314
def Post.zq (gx0 : Nat) (r : (List Int) × T134) (v : Value) (w' : World) : Prop :=
 ∃ S' vsq u0, v = .agg vsq.toArray ∧ Ext S0 w0 S' w' ∧ Hp nz wz S' w' ((some gx0, .row 135 (vT134 r.2 u0) 4 0) :: Lr) ∧ Els (kInt .u64) S' w' vsq r.1 ∧ vsq.length = 4 ∧ PtO kT138 S' w' u0 r.2.bad
def L.zr (gx0 : Nat) : (List Int) × Int × T370 × Int × T370 × Bool × T134 → ((List Int) × T134) → Prop := fun ⟨ua, x3, x4v, x5, x6v, x47, e0v⟩ r => ∀ S1 w1, Ext S0 w0 S1 w1 → ∀ gx2 gx4 gx6 u0 (_ : Hp nz wz S1 w1 ((some gx2, .row 24 (U4 ua []) 4 0) :: (some gx4, .row 371 (vT370 x4v) 6 0) :: (some gx6, .row 371 (vT370 x6v) 6 0) :: (some gx0, .row 135 (vT134 e0v u0) 4 0) :: Lr)) (_ : ua.length = 4) (_ : x4v.set_.length = 4) (_ : x6v.set_.length = 4) (_ : PtO kT138 S1 w1 u0 e0v.bad) (junk : Nat → Value),
 Goes Tg (base 314) J69 ⟨lfr 72 [(0, (pt gx0 0)), (2, (pt gx2 0)), (3, .i x3), (4, (pt gx4 0)), (5, .i x5), (6, (pt gx6 0)), (47, .bool x47)] junk, []⟩ w1 (Done Tg 314 (Rets (Post.zq nz wz S0 w0 Lr gx0 r)))
theorem W.zr {nz wz S0 w0 Lr} (gx0 : Nat) : ∀ a r, M.a3q a = some r → L.zr nz wz S0 w0 Lr gx0 a r := by
 intro ⟨ua, x3, x4v, x5, x6v, x47, e0v⟩ r h S1 w1 hx gx2 gx4 gx6 u0 p1 ue um u3d u1 junk
 rw [M.a3q] at h
 try dsimp only at h
 refine Gi h (fun h28 h => ?_) fun h28 h => ?_
 ·
  rw [h28]
  refine Gn 6 [(70, (pt gx4 0))] J6b ?_
  refine Xf 24 70 71 24 ⟨gx4, 0, none⟩ (U4 x4v.set_ []) (p1.pa 1 0) ?_
  refine So 24 2 71 0 0 gx2 0 (ag (U4 x4v.set_ [])) (U4 x4v.set_ []) p1 rfl Xd fun w14 z14 p14 => ?_
  refine Gn 1 [] J6a ?_
  obtain rfl := sj h
  have p14 := (p14.dp 1).dp 1
  exact R1 Tryz.f314 (.cell 2 24) (ag (U4 x4v.set_ [])) (Rn gx2 (p14.pa 0 0)) ⟨_, _, _, rfl, (hx.t z14), p14.drop, (els_mk4 (S := S1) (w := w14) (k := .u64) um), rfl, (u1.ext z14)⟩
 ·
  rw [bf h28]
  refine Gn 4 [(54, (pt gx6 5))] (Yt 11111111100110 B314 [1, 2, 3] J6c) ?_
  refine Xb 4 54 55 4 ⟨gx6, 5, none⟩ (.bool x6v.single) (p1.c 2 5) ?_
  refine Gm 3 [([56, 53], .bool (!x6v.single))] J6c ?_
  refine Gi h (fun h29 h => ?_) fun h29 h => ?_
  ·
   rw [h29]
   have p1 : Hp nz wz S1 w1 ((some gx2, .row 24 (U4 ua []) 4 0) :: (some gx4, .row 371 (vT370 x4v) 6 0) :: (some gx6, .row 371 (U4 x6v.set_ [.int .u8 x6v.b, .bool true]) 6 0) :: (some gx0, .row 135 (vT134 e0v u0) 4 0) :: Lr) := by simp only [vT26, vT134, vT370, vT218, vT29, vT174, h29] at p1; exact p1
   refine Gn 4 [(62, (pt gx4 4))] (Zr Q5d [1, 2, 3, 4, 5] J6e) ?_
   refine Xb 5 62 63 5 ⟨gx4, 4, none⟩ (.int .u8 x4v.b) (p1.c 1 4) ?_
   refine Gn 1 [(64, (pt gx6 4))] (Zr Q5d [3, 4, 5] J6e) ?_
   refine Xb 5 64 65 5 ⟨gx6, 4, none⟩ (.int .u8 x6v.b) (p1.c 2 4) ?_
   refine Gm 3 [([66, 61], .bool (decide (x4v.b > x6v.b)))] J6e ?_
   refine Gi h (fun h30 h => ?_) fun h30 h => ?_
   ·
    rw [dt h30]
    refine Gn 4 [(67, (pt gx0 0)), (68, .i x3)] (Yt 11111111100111110 B314 [2] J68) ?_
    have p1 := p1.fr 3
    refine Gb h fun y31 e32 h => ?_
    refine Gc (kc 69 [67, 68] #[132, 3]) 69 27 69 _ (W.z2 e0v x3 y31 e32 _ _ p1 u1) ?_
    rintro _ w15 ⟨S15, u3f, u3g, u3h, u3i, rfl, z15, p15, u3j, u3k, rfl, u3l⟩
    have p15 := p15.dp 3
    refine Gn 5 [(70, (pt gx4 0))] J6b ?_
    refine Xf 24 70 71 24 ⟨gx4, 0, none⟩ (U4 x4v.set_ []) (p15.pa 2 0) ?_
    refine So 24 2 71 0 1 gx2 0 (ag (U4 x4v.set_ [])) (U4 x4v.set_ []) p15 rfl Xd fun w16 z16 p16 => ?_
    refine Gn 1 [] J6a ?_
    obtain rfl := sj h
    have p16 := p16.dp 2
    have p16 := (p16.fr 0).fr 1
    exact R1 Tryz.f314 (.cell 2 24) (ag (U4 x4v.set_ [])) (Rn gx2 (p16.pa 0 0)) ⟨_, _, _, rfl, ((hx.t z15).t z16), p16.drop, (els_mk4 (S := S15) (w := w16) (k := .u64) um), rfl, (u3l.ext z16)⟩
   ·
    rw [df h30]
    refine Gn 4 [(42, (pt gx4 4))] (Zr Q5g [1, 2, 3, 4, 5] J6i) ?_
    refine Xb 5 42 43 5 ⟨gx4, 4, none⟩ (.int .u8 x4v.b) (p1.c 1 4) ?_
    refine Gn 1 [(44, (pt gx6 4))] (Zr Q5g [3, 4, 5] J6i) ?_
    refine Xb 5 44 45 5 ⟨gx6, 4, none⟩ (.int .u8 x6v.b) (p1.c 2 4) ?_
    refine Gb h fun y33 e34 h => ?_
    refine Gc (kc 315 [43, 45] #[5, 5]) 46 24 315 _ (W.z9 x4v.b x6v.b y33 e34  p1 ) ?_
    rintro _ w17 ⟨S17, u3m, rfl, z17, p17, u3n, u3o⟩
    have p17 := (p17.dp 1).dp 1
    have f35 : Els (kInt .u64) S17 w17 ((U4 ua []) : List Value) ua := (els_mk4 (k := .u64) ue)
    refine Xn 24 2 46 0 0 gx2 4 u3m p17 rfl rfl Xd (by kernel_rfl) (by kernel_rfl) (by kernel_rfl) u3o (Xo u3n) fun w18 z18 p18 => ?_
    refine Gn 1 [] J6i ?_
    obtain rfl := sj h
    exact Xu (fn := Tryz.f314) (by kernel_rfl) (v := .agg u3m.toArray) (results_n1 (fn := Tryz.f314) (a := .cell 2 24) (by kernel_rfl) (resV_cell ⟨gx2, 0, none⟩ (by kernel_rfl) (run_loadN u3m (by kernel_rfl) (by rw [u3o]; kernel_rfl) (At_all (p18.mem 0 rfl))))) ⟨S17, u3m, u0, rfl, ((hx.t z17).t z18), p18.drop, (u3n.ext z18), u3o, (u1.ext (z17.t z18))⟩
  ·
   have u3p := bf h29
   rw [u3p]
   have p1 : Hp nz wz S1 w1 ((some gx2, .row 24 (U4 ua []) 4 0) :: (some gx4, .row 371 (vT370 x4v) 6 0) :: (some gx6, .row 371 (U4 x6v.set_ [.int .u8 x6v.b, .bool false]) 6 0) :: (some gx0, .row 135 (vT134 e0v u0) 4 0) :: Lr) := by simp only [vT26, vT134, vT370, vT218, vT29, vT174, u3p] at p1; exact p1
   refine Gn 5 [(57, (pt gx0 0)), (58, .i x5), (59, .i (wr .i64 (x5 + 1)))] (Yt 111111111001110 B314 [3] J68) ?_
   have p1 := p1.fr 3
   refine Gb h fun y36 e37 h => ?_
   refine Gc (kc 69 [57, 59] #[132, 3]) 60 27 69 _ (W.z2 e0v (wr .i64 (x5 + 1)) y36 e37 _ _ p1 u1) ?_
   rintro _ w19 ⟨S19, u3q, u3r, u3s, u3t, rfl, z19, p19, u3u, u3v, rfl, u3w⟩
   have p19 := p19.dp 3
   refine Gn 5 [(70, (pt gx4 0))] J6b ?_
   refine Xf 24 70 71 24 ⟨gx4, 0, none⟩ (U4 x4v.set_ []) (p19.pa 2 0) ?_
   refine So 24 2 71 0 1 gx2 0 (ag (U4 x4v.set_ [])) (U4 x4v.set_ []) p19 rfl Xd fun w20 z20 p20 => ?_
   refine Gn 1 [] J6a ?_
   obtain rfl := sj h
   have p20 := p20.dp 2
   have p20 := (p20.fr 0).fr 1
   exact R1 Tryz.f314 (.cell 2 24) (ag (U4 x4v.set_ [])) (Rn gx2 (p20.pa 0 0)) ⟨_, _, _, rfl, ((hx.t z19).t z20), p20.drop, (els_mk4 (S := S19) (w := w20) (k := .u64) um), rfl, (u3w.ext z20)⟩
def J6s := Ys 11111 B314 []
def J6t := Ys 111101 B314 J6s
def J6v := Ys 111111 B314 []
def J6w := Ys 1111101 B314 J6v
def J6y := Ys 1111111 B314 []
def Q5v := Yq 1111110 B314
def J78 := Ys 1111101011 B314 J6v
def J7a := Ys 11110101 B314 J6s
theorem W.zq (x0v : T134) (r : (List Int) × T134) (h : M.a4l x0v = some r) {nz wz S0 w0 Lr} (gx0 u2) (p0 : Hp nz wz S0 w0 ((some gx0, .row 135 (vT134 x0v u2) 4 0) :: Lr)) (u3 : PtO kT138 S0 w0 u2 x0v.bad) :
  Calls Tg 314 #[(pt gx0 0)] w0 (Rets (Post.zq nz wz S0 w0 Lr gx0 r)) := by
 refine Zf Tryz.f314 B314 71 ?_
 refine Gj 72 [(0, (pt gx0 0))] fun junk => ?_
 delta M.a4l at h
 refine Gn 2 [] (Yt 10 B314 [0] (Ys 11 B314 [])) ?_
 refine Oa 24 2 0 (.agg #[.u 0, .u 0, .u 0, .u 0]) [.u 0, .u 0, .u 0, .u 0] p0 Xa fun b2 w2 z2 p2 => ?_
 refine Gm 6 [([7, 8], (pt gx0 0)), ([9], (pt gx0 1))] (Yt 110 B314 [3, 4] (Ys 111 B314 [])) ?_
 refine Xb 3 9 10 3 ⟨gx0, 1, none⟩ (.i x0v.at_) (p2.c 1 1) ?_
 refine Gn 5 [(3, .i x0v.at_), (11, (pt gx0 0))] (Yt 1110 B314 [1, 2, 3] (Ys 1111 B314 [])) ?_
 have p2 := p2.fr 1
 refine Gb h fun y4 e5 h => ?_
 refine Gc (kc 322 [11] #[132]) 12 371 322 _ (W.zo x0v y4 e5 _ _ p2 (u3.ext z2)) ?_
 rintro _ w3 ⟨S3, u2o, rfl, z3, p3, u3x, u2p⟩
 refine Oa 371 4 0 (.agg #[.u 0, .u 0, .u 0, .u 0, .int .u8 0, .bool false]) [.u 0, .u 0, .u 0, .u 0, .int .u8 0, .bool false] p3 Xa fun b6 w4 z4 p4 => ?_
 refine So 371 4 12 0 0 b6 0 (ag (vT370 y4.1)) (vT370 y4.1) p4 rfl Xd fun w5 z5 p5 => ?_
 refine Gn 5 [(13, (pt gx0 0))] (Yt 111100 B314 [1, 2] J6t) ?_
 have p5 := p5.fr 1
 refine Gb h fun y8 e9 h => ?_
 refine Gc (kc 197 [13] #[132]) 14 5 197 _ (W.z0 y4.2 y8 e9 _ _ p5 (u2p.ext (z4.t z5))) ?_
 rintro _ w6 ⟨S6, u3y, rfl, z6, p6, u3z⟩
 refine Gn 2 [(15, .bool (!(decide (y8.1 = 45))))] J6t ?_
 refine Gi h (fun h10 h => ?_) fun h10 h => ?_
 ·
  rw [dt h10]
  refine Gn 6 [(18, (pt b6 5))] (Yt 1111100 B314 [1, 2] J6w) ?_
  refine Xb 4 18 19 4 ⟨b6, 5, none⟩ (.bool y4.1.single) (p6.c 1 5) ?_
  refine Gn 2 [(20, .bool (!y4.1.single))] J6w ?_
  refine Gi h (fun h11 h => ?_) fun h11 h => ?_
  ·
   rw [h11]
   have p6 : Hp nz wz S6 w6 ((some gx0, .row 135 (vT134 y8.2 u3y) 4 0) :: (some b6, .row 371 (U4 y4.1.set_ [.int .u8 y4.1.b, .bool true]) 6 0) :: (some b2, .row 24 [.u 0, .u 0, .u 0, .u 0] 4 0) :: Lr) := by simp only [vT26, vT134, vT370, vT218, vT29, vT174, h11] at p6; exact p6
   refine Gm 7 [([29, 30], (pt gx0 0)), ([31], (pt gx0 1))] (Zr Q5v [3, 4, 5, 6, 7] J6y) ?_
   refine Xb 3 31 32 3 ⟨gx0, 1, none⟩ (.i y8.2.at_) (p6.c 0 1) ?_
   refine Gn 3 [(33, .i (wr .i64 (y8.2.at_ + 1))), (34, (pt gx0 0)), (35, (pt gx0 1))] (Zr Q5v [7] J6y) ?_
   refine So 3 35 33 0 0 gx0 1 (.i (wr .i64 (y8.2.at_ + 1))) [.i (wr .i64 (y8.2.at_ + 1))] p6 rfl Xd fun w7 z7 p7 => ?_
   refine Gm 6 [([36, 37], (pt gx0 0)), ([38], (pt gx0 1))] (Yt 11111110 B314 [3, 4] (Ys 11111111 B314 [])) ?_
   refine Xb 3 38 39 3 ⟨gx0, 1, none⟩ (.i (wr .i64 (y8.2.at_ + 1))) (p7.c 0 1) ?_
   refine Gn 5 [(5, .i (wr .i64 (y8.2.at_ + 1))), (40, (pt gx0 0))] (Yt 111111110 B314 [1, 2, 3] (Ys 111111111 B314 [])) ?_
   refine Gb h fun y12 e13 h => ?_
   refine Gc (kc 322 [40] #[132]) 41 371 322 _ (W.zo (⟨y8.2.s, wr .i64 (y8.2.at_ + 1), y8.2.deep, y8.2.bad⟩ : T134) y12 e13 _ _ p7 (u3z.ext z7)) ?_
   rintro _ w8 ⟨S8, u34, rfl, z8, p8, u40, u37⟩
   refine Oa 371 6 0 (.agg #[.u 0, .u 0, .u 0, .u 0, .int .u8 0, .bool false]) [.u 0, .u 0, .u 0, .u 0, .int .u8 0, .bool false] p8 Xa fun b14 w9 z9 p9 => ?_
   refine So 371 6 41 0 0 b14 0 (ag (vT370 y12.1)) (vT370 y12.1) p9 rfl Xd fun w10 z10 p10 => ?_
   refine Gm 8 [([48, 49], (pt gx0 0)), ([50], (pt gx0 3))] (Yt 111111111000 B314 [3, 4, 5] J69) ?_
   refine Xb 133 50 51 133 ⟨gx0, 3, none⟩ (u34) (p10.c 1 3) ?_
   refine Gl h fun v25 h16 h => ?_
   rcases v25 with _ | y17
   ·
    try dsimp only at h
    obtain rfl := PtO.nil (u37.ext (z9.t z10)) h16
    refine Gm 3 [([52, 47], .bool false)] J69 ?_
    have p10 := (((p10.fr 1).fr 1).fr 2).fr 3
    exact Gj 72 [(0, (pt gx0 0)), (2, (pt b2 0)), (3, .i x0v.at_), (4, (pt b6 0)), (5, .i (wr .i64 (y8.2.at_ + 1))), (6, (pt b14 0)), (47, .bool false)] (W.zr gx0 _ _ h _ _ ((((((((z2.t z3).t z4).t z5).t z6).t z7).t z8).t z9).t z10) _ _ _ (.pointer none) p10 rfl u3x u40 rfl)
   ·
    try dsimp only at h
    obtain ⟨a19, _, rfl, -, f20, q21⟩ := PtO.got (u37.ext (z9.t z10)) h16
    obtain rfl := q21
    refine Gm 3 [([52, 47], .bool true)] J69 ?_
    have p10 := (((p10.fr 1).fr 1).fr 2).fr 3
    exact Gj 72 [(0, (pt gx0 0)), (2, (pt b2 0)), (3, .i x0v.at_), (4, (pt b6 0)), (5, .i (wr .i64 (y8.2.at_ + 1))), (6, (pt b14 0)), (47, .bool true)] (W.zr gx0 _ _ h _ _ ((((((((z2.t z3).t z4).t z5).t z6).t z7).t z8).t z9).t z10) _ _ _ _ p10 rfl u3x u40 ⟨_, _, rfl, List.cons_ne_nil _ _, f20, rfl⟩)
  ·
   have u2t := bf h11
   rw [u2t]
   have p6 : Hp nz wz S6 w6 ((some gx0, .row 135 (vT134 y8.2 u3y) 4 0) :: (some b6, .row 371 (U4 y4.1.set_ [.int .u8 y4.1.b, .bool false]) 6 0) :: (some b2, .row 24 [.u 0, .u 0, .u 0, .u 0] 4 0) :: Lr) := by simp only [vT26, vT134, vT370, vT218, vT29, vT174, u2t] at p6; exact p6
   refine Gm 7 [([21, 22, 23], (pt gx0 0)), ([24], (pt gx0 1))] (Yt 111110100 B314 [4, 5] (Ys 111110101 B314 J6v)) ?_
   refine Xb 3 24 25 3 ⟨gx0, 1, none⟩ (.i y8.2.at_) (p6.c 0 1) ?_
   refine Gb h fun y26 e27 h => ?_
   refine Gc (kc 69 [21, 25] #[132, 3]) 26 27 69 _ (W.z2 y8.2 y8.2.at_ y26 e27 _ _ p6 u3z) ?_
   rintro _ w11 ⟨S11, u41, u42, u43, u2w, rfl, z11, p11, u44, u45, rfl, u2x⟩
   refine Gn 4 [(27, (pt b6 0))] (Yt 1111101010 B314 [1, 2] J78) ?_
   refine Xf 24 27 28 24 ⟨b6, 0, none⟩ (U4 y4.1.set_ []) (p11.pa 1 0) ?_
   refine So 24 2 28 0 2 b2 0 (ag (U4 y4.1.set_ [])) (U4 y4.1.set_ []) p11 rfl Xd fun w12 z12 p12 => ?_
   refine Gn 1 [] J78 ?_
   obtain rfl := sj h
   have p12 := p12.dp 1
   have p12 := (p12.fr 0).fr 1
   exact R1 Tryz.f314 (.cell 2 24) (ag (U4 y4.1.set_ [])) (Rn b2 (p12.pa 0 0)) ⟨_, _, _, rfl, ((((((z2.t z3).t z4).t z5).t z6).t z11).t z12), p12.drop, (els_mk4 (S := S11) (w := w12) (k := .u64) u3x), rfl, (u2x.ext z12)⟩
 ·
  rw [df h10]
  refine Gn 4 [(16, (pt b6 0))] (Yt 11110100 B314 [1, 2] J7a) ?_
  refine Xf 24 16 17 24 ⟨b6, 0, none⟩ (U4 y4.1.set_ []) (p6.pa 1 0) ?_
  refine So 24 2 17 0 2 b2 0 (ag (U4 y4.1.set_ [])) (U4 y4.1.set_ []) p6 rfl Xd fun w13 z13 p13 => ?_
  refine Gn 1 [] J7a ?_
  obtain rfl := sj h
  have p13 := p13.dp 1
  have p13 := (p13.fr 0).fr 1
  exact R1 Tryz.f314 (.cell 2 24) (ag (U4 y4.1.set_ [])) (Rn b2 (p13.pa 0 0)) ⟨_, _, _, rfl, (((((z2.t z3).t z4).t z5).t z6).t z13), p13.drop, (els_mk4 (S := S6) (w := w13) (k := .u64) u3x), rfl, (u3z.ext z13)⟩
def J7c := Zb 1 []
def Q68 := Yq 1111010 B275
def Q69 := Yq 11110100 B275
def Q6a := Yq 11110101 B275
def Post.zs (lk : Nat) (rk : Nat) (jkk : Nat → Value) (u46 : Nat) (u47 : Option Nat) (u48 : Nat) (u49 : Nat) (u4a : List Value) (u4b : Nat) (u4c : Nat) (u4d : Nat) (u4e : Value) (u4f : T26) (kq3 : Bool) (u4g : T134) (r : List Int) (v : Value) (w' : World) : Prop :=
 ∃ S' u4h, v = .bool true ∧ Ext S0 w0 S' w' ∧ Hp nz wz S' w' ((some lk, .obj (lpst 275 (lfr 20 [(2, (pt u46 0)), (3, .bool kq3), (4, (pt u4b 0)), (9, .func (.func 313) #[] #[(pt u4c 0)])] jkk) #[10] (rfAssign (Q68)) (rfBody (Q68)) rk .ready none)) :: (some u46, .row 27 (vT26 u4f (Gp u47) u48 u49) 8 0) :: (u47, .row 27 u4a (u49 * kT26.size) 0) :: (some u4b, .row 24 u4h 4 0) :: (some u4c, .row 132 [(pt u4d 0)] 1 0) :: (some u4d, .row 135 (vT134 u4g u4e) 4 0) :: Lr) ∧ Els (kInt .u64) S' w' u4h r ∧ u4h.length = 4
theorem W.zs (u4f : T26) (kq3 : Bool) (kq4 : List Int) (u4g : T134) (a0 : List Int) (r : List Int) (h : M.a4m u4f kq3 kq4 u4g a0 = some r) {nz wz S0 w0 Lr} (lk rk jkk u46 u47 u48 u49 u4a u4b u4i u4c u4d u4e u4j) (p0 : Hp nz wz S0 w0 ((some lk, .obj (lpst 275 (lfr 20 [(2, (pt u46 0)), (3, .bool kq3), (4, (pt u4b 0)), (9, .func (.func 313) #[] #[(pt u4c 0)])] jkk) #[10] (rfAssign (Q68)) (rfBody (Q68)) rk .ready none)) :: (some u46, .row 27 (vT26 u4f (Gp u47) u48 u49) 8 0) :: (u47, .row 27 u4a (u49 * kT26.size) 0) :: (some u4b, .row 24 u4i 4 0) :: (some u4c, .row 132 [(pt u4d 0)] 1 0) :: (some u4d, .row 135 (vT134 u4g u4e) 4 0) :: Lr)) (u4k : u4f.Set.length = 4) (u4l : Els kT26 S0 w0 u4a u4f.L) (u4m : u4f.L.length = u48) (u4n : Els (kInt .u64) S0 w0 u4i kq4) (u4o : u4i.length = 4) (u4p : PtO kT138 S0 w0 u4e u4g.bad) (fa0 : Els (kInt .u64) S0 w0 u4j a0) (la0 : u4j.length = 4) :
  Goes Tg (rbase 275 lk) [.code (rfAssign (Q68)), .beginRound, .code (rfBody (Q68))] ⟨setp (lfr 20 [(2, (pt u46 0)), (3, .bool kq3), (4, (pt u4b 0)), (9, .func (.func 313) #[] #[(pt u4c 0)])] jkk) #[10] #[.agg u4j.toArray], []⟩ w0 (DoneR (Post.zs nz wz S0 w0 Lr lk rk jkk u46 u47 u48 u49 u4a u4b u4c u4d u4e u4f kq3 u4g r)) := by
 subst u4m
 refine Gj 20 [(2, (pt u46 0)), (3, .bool kq3), (4, (pt u4b 0)), (9, .func (.func 313) #[] #[(pt u4c 0)]), (10, .agg u4j.toArray)] fun junk => ?_
 delta M.a4m at h
 refine Gn 1 [] [.inRegion (opsOf (Q69)) [0, 1], .beginRound, .code (Q6a)] ?_
 refine Oa 24 5 0 (.agg #[.u 0, .u 0, .u 0, .u 0]) [.u 0, .u 0, .u 0, .u 0] p0 Xa fun b7 w2 z2 p2 => ?_
 have f9 : Els (kInt .u64) S0 w2 ([.u 0, .u 0, .u 0, .u 0] : List Value) [0, 0, 0, 0] := (Els.cons (K := (kInt .u64)) (vs := [.u 0]) (x := 0) rfl (Els.cons (K := (kInt .u64)) (vs := [.u 0]) (x := 0) rfl (Els.cons (K := (kInt .u64)) (vs := [.u 0]) (x := 0) rfl (Els.cons (K := (kInt .u64)) (vs := [.u 0]) (x := 0) rfl Els.nil))))
 refine Xn 24 5 10 0 0 b7 4 u4j p2 rfl rfl Xd (by kernel_rfl) (by kernel_rfl) (by kernel_rfl) la0 (Xo (fa0.ext z2)) fun w3 z3 p3 => ?_
 refine Gn 1 [] [.beginRound, .code (Q6a)] ?_
 refine Goes.beginR 1 rfl p3 rfl fun w4 z4 p4 => ?_
 refine Gn 2 [] (Yt 111101010 B275 [0, 1, 2, 3, 4] J7c) ?_
 refine Xp 24 4 11 24 ⟨u4b, 0, none⟩ u4i Xa (by kernel_rfl) (by kernel_rfl) (by rw [u4o]; kernel_rfl) (At_all (p4.mem 4 rfl)) ?_
 refine Xp 24 5 12 24 ⟨b7, 0, none⟩ u4j Xa (by kernel_rfl) (by kernel_rfl) (by rw [la0]; kernel_rfl) (At_all (p4.mem 0 rfl)) ?_
 have l10 := Xh (u4n.ext ((z2.t z3).t z4)) u4o rfl
 obtain rfl := els_lit4 (u4n.ext ((z2.t z3).t z4)) u4o
 have l11 := Xh (fa0.ext ((z2.t z3).t z4)) la0 rfl
 obtain rfl := els_lit4 (fa0.ext ((z2.t z3).t z4)) la0
 have f13 : Els (kArr 4 (kInt .u64)) S0 w4 ((U4 kq4 (U4 a0 [])) : List Value) [kq4, a0] := by exact (Els.cons (K := (kArr 4 (kInt .u64))) (vs := (U4 kq4 [])) (x := kq4) ⟨l10, els_mk4 l10⟩ (Els.cons (K := (kArr 4 (kInt .u64))) (vs := (U4 a0 [])) (x := a0) ⟨l11, els_mk4 l11⟩ Els.nil))
 refine Om (.buildSlice 405 2 #[(0, 11), (1, 12)]) 13 405 (fun b => .slice (Gp (some b)) 2 2) 24 ((U4 kq4 (U4 a0 [])) : List Value) (2 * (kArr 4 (kInt .u64)).size) p4 Xa fun b12 w5 z5 p5 => ?_
 obtain ⟨S6, z6, p6, f15⟩ := p5.freezeRd 0 rfl (f13.ext z5) (by decide)
 refine Gb h fun y16 e17 h => ?_
 refine Gc (kc 297 [13] #[405]) 14 24 297 _ (W.zb [kq4, a0] y16 e17 _ _ _ p6 f15 rfl) ?_
 rintro _ w7 ⟨S7, u12, rfl, z7, p7, u13, u14⟩
 have p7 := (p7.dp 0).dp 0
 refine Xn 24 4 14 0 3 u4b 4 u12 p7 rfl u4o Xd (by kernel_rfl) (by kernel_rfl) (by kernel_rfl) u14 (Xo u13) fun w8 z8 p8 => ?_
 refine Gn 2 [] [] ?_
 obtain rfl := sj h
 refine Goes.endR 0 p8 rfl fun w9 z9 p9 => ?_
 exact ⟨S7, u12, rfl, (((((((z2.t z3).t z4).t z5).t z6).t z7).t z8).t z9), p9, (u13.ext (z8.t z9)), u14⟩
def J7e := Zb 0 []
def Q6b := Yq 1100 B313
def J7f := Zl Q6b J7e
def J7g := Zc Q6b J7f
def J7i := Ys 110001 B313 (Ys 11001 B313 J7f)
def Q6e := Yq 110000 B313
def J7p := Yt 11001000 B313 [1, 2, 3, 4] (Ys 11001001 B313 (Zb 1 (Ys 110011 B313 J7f)))
def Post.zt (lx0 : Nat) (rx0 : Nat) (u4q : Nat → Value) (u4r : Nat) (u4s : Option Nat) (u4t : Nat) (u4u : Nat) (u4v : List Value) (u4w : Nat) (u4x : Nat) (u4y : Nat) (u4z : T26) (u50 : Bool) (r : (List Int) × T134) (v : Value) (w' : World) : Prop :=
 ∃ S' u4h u51, v = .tuple #[] ∧ Ext S0 w0 S' w' ∧ Hp nz wz S' w' ((some lx0, .obj (lpst 275 (lfr 20 [(2, (pt u4r 0)), (3, .bool u50), (4, (pt u4w 0)), (9, .func (.func 313) #[] #[(pt u4x 0)])] u4q) #[10] (rfAssign (Q68)) (rfBody (Q68)) rx0 .ready none)) :: (some u4r, .row 27 (vT26 u4z (Gp u4s) u4t u4u) 8 0) :: (u4s, .row 27 u4v (u4u * kT26.size) 0) :: (some u4w, .row 24 u4h 4 0) :: (some u4x, .row 132 [(pt u4y 0)] 1 0) :: (some u4y, .row 135 (vT134 r.2 u51) 4 0) :: Lr) ∧ Els (kInt .u64) S' w' u4h r.1 ∧ u4h.length = 4 ∧ PtO kT138 S' w' u51 r.2.bad
def L.zu (lx0 : Nat) (rx0 : Nat) (u4q : Nat → Value) (u4r : Nat) (u4s : Option Nat) (u4t : Nat) (u4u : Nat) (u4v : List Value) (u4w : Nat) (u4x : Nat) (u4y : Nat) : Bool × (List Int) × T134 × T26 × Bool → ((List Int) × T134) → Prop := fun ⟨x3, e2, e4v, u4z, u50⟩ r => ∀ S1 w1, Ext S0 w0 S1 w1 → ∀ u4h u51 (_ : Hp nz wz S1 w1 ((some lx0, .obj (lpst 275 (lfr 20 [(2, (pt u4r 0)), (3, .bool u50), (4, (pt u4w 0)), (9, .func (.func 313) #[] #[(pt u4x 0)])] u4q) #[10] (rfAssign (Q68)) (rfBody (Q68)) rx0 .ready none)) :: (some u4r, .row 27 (vT26 u4z (Gp u4s) u4t u4u) 8 0) :: (u4s, .row 27 u4v (u4u * kT26.size) 0) :: (some u4w, .row 24 u4h 4 0) :: (some u4x, .row 132 [(pt u4y 0)] 1 0) :: (some u4y, .row 135 (vT134 e4v u51) 4 0) :: Lr)) (_ : u4z.Set.length = 4) (_ : Els kT26 S1 w1 u4v u4z.L) (_ : u4z.L.length = u4t) (_ : Els (kInt .u64) S1 w1 u4h e2) (_ : u4h.length = 4) (_ : PtO kT138 S1 w1 u51 e4v.bad) (junk : Nat → Value),
 Goes Tg (base 313) J7g ⟨lfr 22 [(0, yieldV lx0), (1, (pt u4x 0)), (3, .bool x3)] junk, []⟩ w1 (Done Tg 313 (Rets (Post.zt nz wz S0 w0 Lr lx0 rx0 u4q u4r u4s u4t u4u u4v u4w u4x u4y u4z u50 r)))
def L.zv (lx0 : Nat) (rx0 : Nat) (u4q : Nat → Value) (u4r : Nat) (u4s : Option Nat) (u4t : Nat) (u4u : Nat) (u4v : List Value) (u4w : Nat) (u4x : Nat) (u4y : Nat) : Bool × (List Int) × T134 × T26 × Bool → ((List Int) × T134) → Prop := fun ⟨x16, e2, e4v, u4z, u50⟩ r => ∀ S1 w1, Ext S0 w0 S1 w1 → ∀ u4h u51 (_ : Hp nz wz S1 w1 ((some lx0, .obj (lpst 275 (lfr 20 [(2, (pt u4r 0)), (3, .bool u50), (4, (pt u4w 0)), (9, .func (.func 313) #[] #[(pt u4x 0)])] u4q) #[10] (rfAssign (Q68)) (rfBody (Q68)) rx0 .ready none)) :: (some u4r, .row 27 (vT26 u4z (Gp u4s) u4t u4u) 8 0) :: (u4s, .row 27 u4v (u4u * kT26.size) 0) :: (some u4w, .row 24 u4h 4 0) :: (some u4x, .row 132 [(pt u4y 0)] 1 0) :: (some u4y, .row 135 (vT134 e4v u51) 4 0) :: Lr)) (_ : u4z.Set.length = 4) (_ : Els kT26 S1 w1 u4v u4z.L) (_ : u4z.L.length = u4t) (_ : Els (kInt .u64) S1 w1 u4h e2) (_ : u4h.length = 4) (_ : PtO kT138 S1 w1 u51 e4v.bad) (junk : Nat → Value),
 Goes Tg (base 313) J7i ⟨lfr 22 [(0, yieldV lx0), (1, (pt u4x 0)), (16, .bool x16)] junk, []⟩ w1 (Done Tg 313 (Rets (Post.zt nz wz S0 w0 Lr lx0 rx0 u4q u4r u4s u4t u4u u4v u4w u4x u4y u4z u50 r)))
theorem W.zw {nz wz S0 w0 Lr} (lx0 : Nat) (rx0 : Nat) (u4q : Nat → Value) (u4r : Nat) (u4s : Option Nat) (u4t : Nat) (u4u : Nat) (u4v : List Value) (u4w : Nat) (u4x : Nat) (u4y : Nat) : (∀ a r, M.a23 a = some r → (L.zu nz wz S0 w0 Lr lx0 rx0 u4q u4r u4s u4t u4u u4v u4w u4x u4y) a r) ∧ (∀ a r, M.a24 a = some r → (L.zv nz wz S0 w0 Lr lx0 rx0 u4q u4r u4s u4t u4u u4v u4w u4x u4y) a r) := by
 refine M.a23.mutual_partial_correctness (L.zu nz wz S0 w0 Lr lx0 rx0 u4q u4r u4s u4t u4u u4v u4w u4x u4y) (L.zv nz wz S0 w0 Lr lx0 rx0 u4q u4r u4s u4t u4u u4v u4w u4x u4y) ?_ ?_
 ·
  intro u52 u53 ⟨x3, e2, e4v, u4z, u50⟩ r h S1 w1 hx u4h u51 p1 u54 fs1 ls1 fe2 le2 u55 junk
  try dsimp only at h
  subst ls1
  refine Gn 3 [] (Zr Q6e [0, 1, 2, 3, 4, 5, 6, 7, 8, 9, 10, 11, 12] J7i) ?_
  refine Xb 132 1 4 132 ⟨u4x, 0, none⟩ ((pt u4y 0)) (p1.c 4 0) ?_
  refine Gn 2 [(5, (pt u4y 0)), (6, (pt u4y 3))] (Zr Q6e [3, 4, 5, 6, 7, 8, 9, 10, 11, 12] J7i) ?_
  refine Xb 133 6 7 133 ⟨u4y, 3, none⟩ (u51) (p1.c 5 3) ?_
  refine Gl h fun v17 h8 h => ?_
  rcases v17 with _ | y9
  ·
   try dsimp only at h
   obtain rfl := PtO.nil u55 h8
   refine Gm 4 [([8, 9], .bool true), ([10, 11], .bool x3)] (Zr Q6e [8, 9, 10, 11, 12] J7i) ?_
   refine Gi h (fun h14 h => ?_) fun h14 h => ?_
   ·
    rw [h14]
    refine Gm 6 [([12, 13, 14], undef), ([15, 16], .bool true)] J7i ?_
    exact Gj 22 [(0, yieldV lx0), (1, (pt u4x 0)), (16, .bool true)] (u53 _ _ h _ _ hx _ (.pointer none) p1 u54 fs1 rfl fe2 le2 rfl)
   ·
    rw [bf h14]
    refine Xb 132 1 12 132 ⟨u4x, 0, none⟩ ((pt u4y 0)) (p1.c 4 0) ?_
    have p1 := p1.fr 5
    refine Gb h fun y15 e16 h => ?_
    refine Gc (.call { callee := .value (.func 132), args := #[12, (.const (.int .u8 93))], argTypes := #[132, 5] }) 13 4 132 _ (W.z3 (⟨e4v.s, e4v.at_, e4v.deep, none⟩ : T134) 93 y15 e16 _ (.pointer none) p1 rfl) ?_
    rintro _ w2 ⟨S2, u7, rfl, z2, p2, u8⟩
    refine Gm 4 [([14, 15, 16], .bool (!y15.1))] J7i ?_
    have p2 := (((((p2.fr 0).fr 5).fr 5).fr 5).fr 5).fr 5
    exact Gj 22 [(0, yieldV lx0), (1, (pt u4x 0)), (16, .bool (!y15.1))] (u53 _ _ h _ _ (hx.t z2) _ _ p2 u54 (fs1.ext z2) rfl (fe2.ext z2) le2 u8)
  ·
   try dsimp only at h
   obtain ⟨a11, _, rfl, -, f12, q13⟩ := PtO.got u55 h8
   obtain rfl := q13
   refine Gm 10 [([8, 9, 16], .bool false), ([10, 11, 12, 13, 14, 15], undef)] J7i ?_
   exact Gj 22 [(0, yieldV lx0), (1, (pt u4x 0)), (16, .bool false)] (u53 _ _ h _ _ hx _ _ p1 u54 fs1 rfl fe2 le2 ⟨_, _, rfl, List.cons_ne_nil _ _, f12, rfl⟩)
 ·
  intro u57 u58 ⟨x16, e2, e4v, u4z, u50⟩ r h S1 w1 hx u4h u51 p1 u54 fs1 ls1 fe2 le2 u55 junk
  try dsimp only at h
  subst ls1
  refine Gi h (fun h18 h => ?_) fun h18 h => ?_
  ·
   rw [h18]
   refine Gn 7 [(17, yieldV lx0)] J7p ?_
   refine Xb 132 1 18 132 ⟨u4x, 0, none⟩ ((pt u4y 0)) (p1.c 4 0) ?_
   have p1 := p1.fr 5
   refine Gb h fun y19 e20 h => ?_
   refine Gc (kc 314 [18] #[132]) 19 24 314 _ (W.zq e4v y19 e20 _ _ p1 u55) ?_
   rintro _ w3 ⟨S3, u2c, u2o, rfl, z3, p3, u2d, u2e, u2p⟩
   have p3 := (((((p3.fr 0).fr 5).fr 5).fr 5).fr 5).fr 5
   refine Gb h fun y21 e22 h => ?_
   refine Goes.yieldAt (.call { callee := .value 17, args := #[19], argTypes := #[24] }) 20 4 0 lx0 #[.agg u2c.toArray] p3 rfl (by kernel_rfl) rfl (fun _ => by kernel_rfl) rfl (W.zs u4z u50 e2 y19.2 y19.1 y21 e22 _ _ _ _ _ _ _ _ _ _ _ _ _ _ p3 u54 (fs1.ext z3) rfl (fe2.ext z3) le2 u2p u2d u2e) ?_
   rintro _ w4 ⟨S4, u59, rfl, z4, p4, u5a, u5b⟩
   refine Gn 9 [(21, .bool (!true)), (3, .bool false)] J7g ?_
   exact Gj 22 [(0, yieldV lx0), (1, (pt u4x 0)), (3, .bool false)] (u58 _ _ h _ _ ((hx.t z3).t z4) _ _ p4 u54 (fs1.ext (z3.t z4)) rfl u5a u5b (u2p.ext z4))
  ·
   rw [bf h18]
   refine Gn 2 [] [] ?_
   obtain rfl := sj h
   exact Xr (fn := Tryz.f313) (by kernel_rfl) (v := .tuple #[]) (by kernel_rfl) ⟨S1, u4h, u51, rfl, hx, p1, fe2, le2, u55⟩
theorem W.zu {nz wz S0 w0 Lr} (lx0 : Nat) (rx0 : Nat) (u4q : Nat → Value) (u4r : Nat) (u4s : Option Nat) (u4t : Nat) (u4u : Nat) (u4v : List Value) (u4w : Nat) (u4x : Nat) (u4y : Nat) : ∀ a r, M.a23 a = some r → (L.zu nz wz S0 w0 Lr lx0 rx0 u4q u4r u4s u4t u4u u4v u4w u4x u4y) a r := (W.zw lx0 rx0 u4q u4r u4s u4t u4u u4v u4w u4x u4y).1
theorem W.zv {nz wz S0 w0 Lr} (lx0 : Nat) (rx0 : Nat) (u4q : Nat → Value) (u4r : Nat) (u4s : Option Nat) (u4t : Nat) (u4u : Nat) (u4v : List Value) (u4w : Nat) (u4x : Nat) (u4y : Nat) : ∀ a r, M.a24 a = some r → (L.zv nz wz S0 w0 Lr lx0 rx0 u4q u4r u4s u4t u4u u4v u4w u4x u4y) a r := (W.zw lx0 rx0 u4q u4r u4s u4t u4u u4v u4w u4x u4y).2
theorem W.zt (u4z : T26) (u50 : Bool) (u5d : List Int) (u5e : T134) (r : (List Int) × T134) (h : M.a4n u4z u50 u5d u5e = some r) {nz wz S0 w0 Lr} (lx0 rx0 u4q u4r u4s u4t u4u u4v u4w u4x u4y u5f) (p0 : Hp nz wz S0 w0 ((some lx0, .obj (lpst 275 (lfr 20 [(2, (pt u4r 0)), (3, .bool u50), (4, (pt u4w 0)), (9, .func (.func 313) #[] #[(pt u4x 0)])] u4q) #[10] (rfAssign (Q68)) (rfBody (Q68)) rx0 .ready none)) :: (some u4r, .row 27 (vT26 u4z (Gp u4s) u4t u4u) 8 0) :: (u4s, .row 27 u4v (u4u * kT26.size) 0) :: (some u4w, .row 24 (U4 u5d []) 4 0) :: (some u4x, .row 132 [(pt u4y 0)] 1 0) :: (some u4y, .row 135 (vT134 u5e u5f) 4 0) :: Lr)) (u54 : u4z.Set.length = 4) (u5g : Els kT26 S0 w0 u4v u4z.L) (u5h : u4z.L.length = u4t) (u5i : u5d.length = 4) (u5j : PtO kT138 S0 w0 u5f u5e.bad) :
  Calls Tg 313 #[yieldV lx0, (pt u4x 0)] w0 (Rets (Post.zt nz wz S0 w0 Lr lx0 rx0 u4q u4r u4s u4t u4u u4v u4w u4x u4y u4z u50 r)) := by
 subst u5h
 refine Zf Tryz.f313 B313 20 ?_
 refine Gj 22 [(0, yieldV lx0), (1, (pt u4x 0))] fun junk => ?_
 delta M.a4n at h
 refine Gn 6 [(3, .bool true)] J7g ?_
 have f7 : Els (kInt .u64) S0 w0 ((U4 u5d []) : List Value) u5d := (els_mk4 (k := .u64) u5i)
 exact Gj 22 [(0, yieldV lx0), (1, (pt u4x 0)), (3, .bool true)] (W.zu lx0 rx0 u4q u4r u4s u4z.L.length u4u u4v u4w u4x u4y _ _ h _ _ (Xg S0 w0) _ _ p0 u54 u5g rfl f7 rfl u5j)
def J7w := Ys 11111 B275 []
def J7z := Zb 0 J7w
def J81 := Ys 111111 B275 []
def J84 := Ys 1111111 B275 []
def Q6v := Yq 1111110 B275
def J85 := Zr Q6v [0, 1, 2] J84
def J86 := Zr Q6v [2] J84
def Post.zx (gx0 : Nat) (r : T26 × T134) (v : Value) (w' : World) : Prop :=
 ∃ S' u4 u5 u6 u0, v = (ag (vT26 r.1 u4 u5 u6)) ∧ Ext S0 w0 S' w' ∧ Hp nz wz S' w' ((some gx0, .row 135 (vT134 r.2 u0) 4 0) :: Lr) ∧ r.1.Set.length = 4 ∧ Rd kT26 S' w' u4 u6 r.1.L ∧ r.1.L.length = u5 ∧ PtO kT138 S' w' u0 r.2.bad
theorem W.zx (x0v : T134) (r : T26 × T134) (h : M.a4o x0v = some r) {nz wz S0 w0 Lr} (gx0 u2) (p0 : Hp nz wz S0 w0 ((some gx0, .row 135 (vT134 x0v u2) 4 0) :: Lr)) (u3 : PtO kT138 S0 w0 u2 x0v.bad) :
  Calls Tg 275 #[(pt gx0 0)] w0 (Rets (Post.zx nz wz S0 w0 Lr gx0 r)) := by
 refine Zf Tryz.f275 B275 19 ?_
 refine Gj 20 [(0, (pt gx0 0))] fun junk => ?_
 delta M.a4o at h
 refine Gn 2 [] (Yt 10 B275 [0] (Ys 11 B275 [])) ?_
 refine Oa 27 2 0 (.agg #[.i 0, .u 0, .u 0, .u 0, .u 0, .slice none 0 0, .i 0, .i 0]) [.i 0, .u 0, .u 0, .u 0, .u 0, .slice none 0 0, .i 0, .i 0] p0 Xa fun b2 w2 z2 p2 => ?_
 refine Gn 4 [(6, (pt gx0 0))] (Yt 110 B275 [1, 2] (Ys 111 B275 [])) ?_
 have p2 := p2.fr 1
 refine Gb h fun y4 e5 h => ?_
 refine Gc (.call { callee := .value (.func 132), args := #[6, (.const (.int .u8 94))], argTypes := #[132, 5] }) 7 4 132 _ (W.z3 x0v 94 y4 e5 _ _ p2 (u3.ext z2)) ?_
 rintro _ w3 ⟨S3, u2o, rfl, z3, p3, u2p⟩
 refine Gn 4 [(3, .bool y4.1)] (Yt 1110 B275 [0] (Ys 1111 B275 [])) ?_
 refine Oa 24 4 0 (.agg #[.u 0, .u 0, .u 0, .u 0]) [.u 0, .u 0, .u 0, .u 0] p3 Xa fun b6 w4 z4 p4 => ?_
 refine Gn 5 [(8, (pt gx0 0))] (Yt 111100 B275 [1] (Ys 111101 B275 J7w)) ?_
 have p4 := p4.fr 1
 refine Gb h fun y8 e9 h => ?_
 refine Gc (kc 296 [8] #[132]) 9 390 296 _ (W.z8 y4.2 y8 e9 _ _ p4 (u2p.ext z4)) ?_
 rintro _ w5 ⟨S5, u5k, rfl, z5, p5⟩
 refine Gn 2 [] (Zc Q68 J7z) ?_
 refine Gj 20 [(2, (pt b2 0)), (3, .bool y4.1), (4, (pt b6 0)), (9, .func (.func 313) #[] #[(pt u5k 0)])] (fun u5l => ?_)
 refine Goes.rangeF (f := 275) 9 #[10] 313 #[] #[(pt u5k 0)] (by kernel_rfl) (by kernel_rfl) (fun _ => by kernel_rfl) p5 fun r12 l13 w6 z6 p6 => ?_
 have p6 : Hp nz wz S5 w6 ((none, .row 27 [] (0 * kT26.size) 0) :: (some l13, .obj (lpst 275 (lfr 20 [(2, (pt b2 0)), (3, .bool y4.1), (4, (pt b6 0)), (9, .func (.func 313) #[] #[(pt u5k 0)])] u5l) #[10] (rfAssign (Q68)) (rfBody (Q68)) r12 .ready none)) :: (some r12, .obj (.deferred (some []))) :: (some u5k, .row 132 [(pt gx0 0)] 1 0) :: (some gx0, .row 135 (vT134 y4.2 u2o) 4 0) :: (some b6, .row 24 [.u 0, .u 0, .u 0, .u 0] 4 0) :: (some b2, .row 27 [.i 0, .u 0, .u 0, .u 0, .u 0, .slice none 0 0, .i 0, .i 0] 8 0) :: Lr) := p6.nilRow' 27
 have p6 := (((((p6.fr 4).fr 4).fr 5).fr 3).fr 6).fr 5
 refine Gb h fun y17 e18 h => ?_
 refine ⟨_, W.zt (⟨0, [0, 0, 0, 0], ([] : List T26), 0, 0⟩ : T26) y4.1 [0, 0, 0, 0] y4.2 y17 e18 _ _ _ _ none 0 0 [] _ _ _ _ p6 rfl (Els.nil (K := kT26)) rfl rfl (u2p.ext ((z4.t z5).t z6)), ?_⟩
 rintro _ w7 ⟨S7, u5m, u5n, rfl, z7, p7, u5o, u5p, u5q⟩
 refine Goes.endF 0 p7 rfl rfl fun w8 z8 p8 => ?_
 replace p8 : Hp nz wz S7 w8 ((some b2, .row 27 [.i 0, .u 0, .u 0, .u 0, .u 0, .slice (Gp none) 0 0, .i 0, .i 0] 8 0) :: (none, .row 27 [] (0 * kT26.size) 0) :: (some b6, .row 24 u5m 4 0) :: (some u5k, .row 132 [(pt gx0 0)] 1 0) :: (some gx0, .row 135 (vT134 y17.2 u5n) 4 0) :: (some r12, .obj (.deferred (some []))) :: Lr) := (p8.front 0 _ rfl).drop
 show Goes _ _ J7z _ _ _
 refine Gn 6 [(15, .bool y4.1)] (Ys 1111101 B275 J81) ?_
 refine Gi h (fun h19 h => ?_) fun h19 h => ?_
 ·
  rw [h19]
  refine Gn 2 [] (Yt 11111010 B275 [0, 1, 2] J81) ?_
  refine Xp 24 4 16 24 ⟨b6, 0, none⟩ u5m Xa (by kernel_rfl) (by kernel_rfl) (by rw [u5p]; kernel_rfl) (At_all (p8.mem 2 rfl)) ?_
  refine Gb h fun y20 e21 h => ?_
  refine Gc (kc 273 [16] #[24]) 17 24 273 _ (W.z6 y17.1 y20 e21 _ p8 (u5o.ext z8) u5p) ?_
  rintro _ w9 ⟨S9, u5r, rfl, z9, p9, u5s, u5t⟩
  have p9 := p9.dp 3
  refine Xn 24 4 17 0 2 b6 4 u5r p9 rfl u5p Xd (by kernel_rfl) (by kernel_rfl) (by kernel_rfl) u5t (Xo u5s) fun w10 z10 p10 => ?_
  refine Gn 3 [] J85 ?_
  refine Xp 24 4 18 24 ⟨b6, 0, none⟩ u5r Xa (by kernel_rfl) (by kernel_rfl) (by rw [u5t]; kernel_rfl) (At_all (p10.mem 2 rfl)) ?_
  have l22 := Xh (u5s.ext z10) u5t rfl
  obtain rfl := els_lit4 (u5s.ext z10) u5t
  refine Gn 1 [(19, (ag (.i 1 :: U4 y20 [.slice none 0 0, .i 0, .i 0])))] J86 ?_
  refine So 27 2 19 0 0 b2 0 (ag (.i 1 :: U4 y20 [.slice none 0 0, .i 0, .i 0])) (.i 1 :: U4 y20 [.slice none 0 0, .i 0, .i 0]) p10 rfl Xd fun w11 z11 p11 => ?_
  refine Gn 1 [] J84 ?_
  obtain rfl := sj h
  have p11 := (p11.dp 1).dp 1
  have p11 := ((p11.fr 1).fr 1).fr 2
  refine Goes.retL ?_
  refine lvs_mark 0 rfl rfl p11 rfl fun w12 z12 p12 => ?_
  replace p12 : Hp nz wz S9 w12 ((some b2, .row 27 (.i 1 :: U4 y20 [.slice none 0 0, .i 0, .i 0]) 8 0) :: (some gx0, .row 135 (vT134 y17.2 u5n) 4 0) :: Lr) := p12.drop
  exact lvs_done (fn := Tryz.f275) rfl rfl rfl rfl (by kernel_rfl) (v := (ag (.i 1 :: U4 y20 [.slice none 0 0, .i 0, .i 0]))) (results_n1 (fn := Tryz.f275) (a := .cell 2 27) (by kernel_rfl) (resV_cell ⟨b2, 0, none⟩ (by kernel_rfl) (run_loadN (.i 1 :: U4 y20 [.slice none 0 0, .i 0, .i 0]) (by kernel_rfl) (by kernel_rfl) (p12.pa 0 0)))) ⟨S9, none, 0, 0, u5n, rfl, ((((((((((z2.t z3).t z4).t z5).t z6).t z7).t z8).t z9).t z10).t z11).t z12), p12.drop, l22, Xq, rfl, (u5q.ext ((((z8.t z9).t z10).t z11).t z12))⟩
 ·
  rw [bf h19]
  refine Gn 4 [] J85 ?_
  refine Xp 24 4 18 24 ⟨b6, 0, none⟩ u5m Xa (by kernel_rfl) (by kernel_rfl) (by rw [u5p]; kernel_rfl) (At_all (p8.mem 2 rfl)) ?_
  have l23 := Xh (u5o.ext z8) u5p rfl
  obtain rfl := els_lit4 (u5o.ext z8) u5p
  refine Gn 1 [(19, (ag (.i 1 :: U4 y17.1 [.slice none 0 0, .i 0, .i 0])))] J86 ?_
  refine So 27 2 19 0 0 b2 0 (ag (.i 1 :: U4 y17.1 [.slice none 0 0, .i 0, .i 0])) (.i 1 :: U4 y17.1 [.slice none 0 0, .i 0, .i 0]) p8 rfl Xd fun w13 z13 p13 => ?_
  refine Gn 1 [] J84 ?_
  obtain rfl := sj h
  have p13 := ((p13.dp 1).dp 1).dp 1
  have p13 := ((p13.fr 1).fr 1).fr 2
  refine Goes.retL ?_
  refine lvs_mark 0 rfl rfl p13 rfl fun w14 z14 p14 => ?_
  replace p14 : Hp nz wz S7 w14 ((some b2, .row 27 (.i 1 :: U4 y17.1 [.slice none 0 0, .i 0, .i 0]) 8 0) :: (some gx0, .row 135 (vT134 y17.2 u5n) 4 0) :: Lr) := p14.drop
  exact lvs_done (fn := Tryz.f275) rfl rfl rfl rfl (by kernel_rfl) (v := (ag (.i 1 :: U4 y17.1 [.slice none 0 0, .i 0, .i 0]))) (results_n1 (fn := Tryz.f275) (a := .cell 2 27) (by kernel_rfl) (resV_cell ⟨b2, 0, none⟩ (by kernel_rfl) (run_loadN (.i 1 :: U4 y17.1 [.slice none 0 0, .i 0, .i 0]) (by kernel_rfl) (by kernel_rfl) (p14.pa 0 0)))) ⟨S7, none, 0, 0, u5n, rfl, ((((((((z2.t z3).t z4).t z5).t z6).t z7).t z8).t z13).t z14), p14.drop, l23, Xq, rfl, (u5q.ext ((z8.t z13).t z14))⟩
def J87 := Ys 11 B279 []
def Post.zy (gx0 : Nat) (r : T134) (v : Value) (w' : World) : Prop :=
 ∃ S' u0, v = .tuple #[] ∧ Ext S0 w0 S' w' ∧ Hp nz wz S' w' ((some gx0, .row 135 (vT134 r u0) 4 0) :: Lr) ∧ PtO kT138 S' w' u0 r.bad
theorem W.zy (x0v : T134) (x1 : Int) (r : T134) (h : M.a2v x0v x1 = some r) {nz wz S0 w0 Lr} (gx0 u2) (p0 : Hp nz wz S0 w0 ((some gx0, .row 135 (vT134 x0v u2) 4 0) :: Lr)) (u3 : PtO kT138 S0 w0 u2 x0v.bad) :
  Calls Tg 279 #[(pt gx0 0), .int .u8 x1] w0 (Rets (Post.zy nz wz S0 w0 Lr gx0 r)) := by
 refine Zf Tryz.f279 B279 12 ?_
 refine Gj 14 [(0, (pt gx0 0)), (1, .int .u8 x1)] fun junk => ?_
 delta M.a2v at h
 refine Gn 4 [(4, (pt gx0 0)), (5, .int .u8 x1)] (Yt 10 B279 [2, 3] J87) ?_
 refine Gb h fun y2 e3 h => ?_
 refine Gc (kc 132 [4, 5] #[132, 5]) 6 4 132 _ (W.z3 x0v x1 y2 e3 _ _ p0 u3) ?_
 rintro _ w2 ⟨S2, u7, rfl, z2, p2, u8⟩
 refine Gn 2 [(7, .bool (!y2.1))] J87 ?_
 refine Gi h (fun h4 h => ?_) fun h4 h => ?_
 ·
  rw [h4]
  refine Gn 2 [] [] ?_
  obtain rfl := sj h
  exact Xr (fn := Tryz.f279) (by kernel_rfl) (v := .tuple #[]) (by kernel_rfl) ⟨S2, u7, rfl, z2, p2, u8⟩
 ·
  rw [bf h4]
  refine Gm 6 [([8, 9, 10], (pt gx0 0)), ([11], (pt gx0 1))] (Yt 110 B279 [4, 5] []) ?_
  refine Xb 3 11 12 3 ⟨gx0, 1, none⟩ (.i y2.2.at_) (p2.c 0 1) ?_
  refine Gb h fun y5 e6 h => ?_
  refine Gc (kc 69 [8, 12] #[132, 3]) 13 27 69 _ (W.z2 y2.2 y2.2.at_ y5 e6 _ _ p2 u8) ?_
  rintro _ w3 ⟨S3, u5v, u5w, u5x, u2o, rfl, z3, p3, u5y, u5z, rfl, u2p⟩
  refine Gn 1 [] [] ?_
  obtain rfl := sj h
  exact Xr (fn := Tryz.f279) (by kernel_rfl) (v := .tuple #[]) (by kernel_rfl) ⟨S3, u2o, rfl, (z2.t z3), p3, u2p⟩
def J8a := Ys 111 B301 []
def Q70 := Yq 110 B301
def Post.zz (gx0 : Nat) (u60 : Nat) (r : Bool × T134) (v : Value) (w' : World) : Prop :=
 ∃ S' u61, v = .bool r.1 ∧ Ext S0 w0 S' w' ∧ Hp nz wz S' w' ((some gx0, .row 132 [(pt u60 0)] 1 0) :: (some u60, .row 135 (vT134 r.2 u61) 4 0) :: Lr) ∧ PtO kT138 S' w' u61 r.2.bad
theorem W.zz (u62 : T134) (r : Bool × T134) (h : M.a5m u62 = some r) {nz wz S0 w0 Lr} (gx0 u60 u63) (p0 : Hp nz wz S0 w0 ((some gx0, .row 132 [(pt u60 0)] 1 0) :: (some u60, .row 135 (vT134 u62 u63) 4 0) :: Lr)) (u64 : PtO kT138 S0 w0 u63 u62.bad) :
  Calls Tg 301 #[(pt gx0 0)] w0 (Rets (Post.zz nz wz S0 w0 Lr gx0 u60 r)) := by
 refine Zf Tryz.f301 B301 9 ?_
 refine Gj 10 [(0, (pt gx0 0))] fun junk => ?_
 delta M.a5m at h
 refine Gn 6 [(1, .bool false)] (Zr Q70 [0, 1, 2, 3, 4, 5, 6, 7, 8] J8a) ?_
 refine Xb 132 0 2 132 ⟨gx0, 0, none⟩ ((pt u60 0)) (p0.c 0 0) ?_
 have p0 := p0.fr 1
 refine Gb h fun y3 e4 h => ?_
 refine Gc (kc 197 [2] #[132]) 3 5 197 _ (W.z0 u62 y3 e4 _ _ p0 u64) ?_
 rintro _ w2 ⟨S2, u7, rfl, z2, p2, u8⟩
 refine Gm 2 [([4, 5], .bool (decide (y3.1 ≥ 48)))] (Zr Q70 [4, 5, 6, 7, 8] J8a) ?_
 refine Gi h (fun h5 h => ?_) fun h5 h => ?_
 ·
  rw [dt h5]
  refine Xb 132 0 6 132 ⟨gx0, 0, none⟩ ((pt u60 0)) (p2.c 1 0) ?_
  refine Gb h fun y6 e7 h => ?_
  refine Gc (kc 197 [6] #[132]) 7 5 197 _ (W.z0 y3.2 y6 e7 _ _ p2 u8) ?_
  rintro _ w3 ⟨S3, u2o, rfl, z3, p3, u2p⟩
  refine Gm 4 [([8, 9, 1], .bool (decide (y6.1 ≤ 57)))] J8a ?_
  obtain rfl := sj h
  have p3 := (p3.fr 0).fr 1
  exact Xc Tryz.f301 (.bool (decide (y6.1 ≤ 57))) ⟨_, _, rfl, (z2.t z3), p3, u2p⟩
 ·
  rw [df h5]
  refine Gm 6 [([6, 7, 8], undef), ([9, 1], .bool false)] J8a ?_
  obtain rfl := sj h
  have p2 := (p2.fr 0).fr 1
  exact Xc Tryz.f301 (.bool false) ⟨_, _, rfl, z2, p2, u8⟩
def J8d := Ys 1111111 B278 []
def J8e := Ys 11111101 B278 J8d
def Q73 := Yq 1111110101 B278
def J8k := Ys 11111111 B278 []
def Post.z10 (gx0 : Nat) (r : Int × T134) (v : Value) (w' : World) : Prop :=
 ∃ S' u0, v = .i r.1 ∧ Ext S0 w0 S' w' ∧ Hp nz wz S' w' ((some gx0, .row 135 (vT134 r.2 u0) 4 0) :: Lr) ∧ PtO kT138 S' w' u0 r.2.bad
def L.z11 (gx0 : Nat) : Int × Bool × T134 → (Int × T134) → Prop := fun ⟨x4, x25, e0v⟩ r => ∀ S1 w1, Ext S0 w0 S1 w1 → ∀ gx1 u0 (_ : Hp nz wz S1 w1 ((some gx1, .row 132 [(pt gx0 0)] 1 0) :: (some gx0, .row 135 (vT134 e0v u0) 4 0) :: Lr)) (_ : PtO kT138 S1 w1 u0 e0v.bad) (junk : Nat → Value),
 Goes Tg (base 278) J8e ⟨lfr 41 [(1, (pt gx1 0)), (4, .i x4), (25, .bool x25)] junk, []⟩ w1 (Done Tg 278 (Rets (Post.z10 nz wz S0 w0 Lr gx0 r)))
theorem W.z11 {nz wz S0 w0 Lr} (gx0 : Nat) : ∀ a r, M.a5n a = some r → L.z11 nz wz S0 w0 Lr gx0 a r := by
 intro ⟨x4, x25, e0v⟩ r h S1 w1 hx gx1 u0 p1 u1 junk
 rw [M.a5n] at h
 try dsimp only at h
 refine Gi h (fun h13 h => ?_) fun h13 h => ?_
 ·
  rw [h13]
  refine Gn 5 [(26, .i x4), (27, .i (wr .i64 (10 * x4)))] (Yt 1111110100 B278 [2, 3, 4, 5, 6, 7] (Zc Q73 J8d)) ?_
  refine Xb 132 1 28 132 ⟨gx1, 0, none⟩ ((pt gx0 0)) (p1.c 0 0) ?_
  have p1 := p1.fr 1
  refine Gb h fun y14 e15 h => ?_
  refine Gc (kc 197 [28] #[132]) 29 5 197 _ (W.z0 e0v y14 e15 _ _ p1 u1) ?_
  rintro _ w7 ⟨S7, u65, rfl, z7, p7, u66⟩
  refine Gm 6 [([30], .int .u8 (wr .u8 (y14.1 - 48))), ([31], .i (wr .i64 (wr .u8 (y14.1 - 48)))), ([32, 4], .i (wr .i64 ((wr .i64 (10 * x4)) + (wr .i64 (wr .u8 (y14.1 - 48))))))] (Zr Q73 [0, 1, 2, 3, 4, 5, 6, 7] J8d) ?_
  refine Xb 132 1 33 132 ⟨gx1, 0, none⟩ ((pt gx0 0)) (p7.c 1 0) ?_
  refine Gn 2 [(34, (pt gx0 0)), (35, (pt gx0 1))] (Zr Q73 [3, 4, 5, 6, 7] J8d) ?_
  refine Xb 3 35 36 3 ⟨gx0, 1, none⟩ (.i y14.2.at_) (p7.c 0 1) ?_
  refine Gn 3 [(37, .i (wr .i64 (y14.2.at_ + 1))), (38, (pt gx0 0)), (39, (pt gx0 1))] (Zr Q73 [7] J8d) ?_
  refine So 3 39 37 0 0 gx0 1 (.i (wr .i64 (y14.2.at_ + 1))) [.i (wr .i64 (y14.2.at_ + 1))] p7 rfl Xd fun w8 z8 p8 => ?_
  refine Gm 6 [([40, 2], .i (wr .i64 ((wr .i64 (10 * x4)) + (wr .i64 (wr .u8 (y14.1 - 48))))))] J8k ?_
  obtain rfl := sj h
  have p8 := p8.dp 1
  exact Xc Tryz.f278 (.i (wr .i64 ((wr .i64 (10 * x4)) + (wr .i64 (wr .u8 (y14.1 - 48)))))) ⟨_, _, rfl, ((hx.t z7).t z8), p8, (u66.ext z8)⟩
 ·
  rw [bf h13]
  refine Gm 7 [([40, 2], .i x4)] J8k ?_
  obtain rfl := sj h
  have p1 := p1.dp 0
  exact Xc Tryz.f278 (.i x4) ⟨_, _, rfl, hx, p1, u1⟩
def J8n := Ys 1111 B278 []
def J8o := Ys 11101 B278 J8n
def J8s := Ys 111111 B278 []
def Q7e := Yq 111110 B278
def Q7f := Yq 11111100 B278
theorem W.z10 (x0v : T134) (r : Int × T134) (h : M.a5o x0v = some r) {nz wz S0 w0 Lr} (gx0 u2) (p0 : Hp nz wz S0 w0 ((some gx0, .row 135 (vT134 x0v u2) 4 0) :: Lr)) (u3 : PtO kT138 S0 w0 u2 x0v.bad) :
  Calls Tg 278 #[(pt gx0 0)] w0 (Rets (Post.z10 nz wz S0 w0 Lr gx0 r)) := by
 refine Zf Tryz.f278 B278 40 ?_
 refine Gj 41 [(0, (pt gx0 0))] fun junk => ?_
 delta M.a5o at h
 refine Gn 2 [] (Yt 10 B278 [0, 1] (Ys 11 B278 [])) ?_
 refine Ob 132 0 1 0 ((pt gx0 0)) [(pt gx0 0)] p0 Xa fun b2 w2 z2 p2 => ?_
 refine Gm 11 [([2], .i 0), ([5, 3, 6], .func (.func 301) #[] #[(pt b2 0)])] (Yt 11100 B278 [1, 2] J8o) ?_
 refine Gb h fun y4 e5 h => ?_
 refine Gc (.call { callee := .value 6, args := #[], argTypes := #[] }) 7 4 301 _ (W.zz x0v y4 e5 _ _ _ p2 (u3.ext z2)) ?_
 rintro _ w3 ⟨S3, u68, rfl, z3, p3, u69⟩
 refine Gn 2 [(8, .bool (!y4.1))] J8o ?_
 refine Gi h (fun h6 h => ?_) fun h6 h => ?_
 ·
  rw [h6]
  refine Gn 4 [] (Yt 11110 B278 [0, 1, 2, 3, 4] (Ys 11111 B278 [])) ?_
  refine Xb 132 1 9 132 ⟨b2, 0, none⟩ ((pt gx0 0)) (p3.c 0 0) ?_
  have p3 := p3.fr 1
  refine Gb h fun y7 e8 h => ?_
  refine Gc (kc 197 [9] #[132]) 10 5 197 _ (W.z0 y4.2 y7 e8 _ _ p3 u69) ?_
  rintro _ w4 ⟨S4, u28, rfl, z4, p4, u2b⟩
  refine Gm 6 [([11], .int .u8 (wr .u8 (y7.1 - 48))), ([12, 4], .i (wr .i64 (wr .u8 (y7.1 - 48))))] (Zr Q7e [0, 1, 2, 3, 4, 5, 6, 7] J8s) ?_
  refine Xb 132 1 13 132 ⟨b2, 0, none⟩ ((pt gx0 0)) (p4.c 1 0) ?_
  refine Gn 2 [(14, (pt gx0 0)), (15, (pt gx0 1))] (Zr Q7e [3, 4, 5, 6, 7] J8s) ?_
  refine Xb 3 15 16 3 ⟨gx0, 1, none⟩ (.i y7.2.at_) (p4.c 0 1) ?_
  refine Gn 3 [(17, .i (wr .i64 (y7.2.at_ + 1))), (18, (pt gx0 0)), (19, (pt gx0 1))] (Zr Q7e [7] J8s) ?_
  refine So 3 19 17 0 0 gx0 1 (.i (wr .i64 (y7.2.at_ + 1))) [.i (wr .i64 (y7.2.at_ + 1))] p4 rfl Xd fun w5 z5 p5 => ?_
  refine Gm 7 [([20], .i (wr .i64 (wr .u8 (y7.1 - 48)))), ([21, 22], .bool (decide (wr .i64 (wr .u8 (y7.1 - 48)) > 0)))] (Zr Q7f [3, 4, 5] J8e) ?_
  refine Gi h (fun h9 h => ?_) fun h9 h => ?_
  ·
   rw [dt h9]
   refine Gn 1 [(23, .func (.func 301) #[] #[(pt b2 0)])] (Zr Q7f [4, 5] J8e) ?_
   have p5 := (p5.fr 0).fr 1
   refine Gb h fun y10 e11 h => ?_
   refine Gc (.call { callee := .value 23, args := #[], argTypes := #[] }) 24 4 301 _ (W.zz (⟨y7.2.s, wr .i64 (y7.2.at_ + 1), y7.2.deep, y7.2.bad⟩ : T134) y10 e11 _ _ _ p5 (u2b.ext z5)) ?_
   rintro _ w6 ⟨S6, u6a, rfl, z6, p6, u6b⟩
   refine Gn 2 [(25, .bool y10.1)] J8e ?_
   exact Gj 41 [(1, (pt b2 0)), (4, .i (wr .i64 (wr .u8 (y7.1 - 48)))), (25, .bool y10.1)] (W.z11 gx0 _ _ h _ _ ((((z2.t z3).t z4).t z5).t z6) _ _ p6 u6b)
  ·
   rw [df h9]
   refine Gm 4 [([23, 24], undef), ([25], .bool false)] J8e ?_
   have p5 := (p5.fr 0).fr 1
   exact Gj 41 [(1, (pt b2 0)), (4, .i (wr .i64 (wr .u8 (y7.1 - 48)))), (25, .bool false)] (W.z11 gx0 _ _ h _ _ (((z2.t z3).t z4).t z5) _ _ p5 (u2b.ext z5))
 ·
  rw [bf h6]
  refine Gn 5 [(2, .i (-1))] (Ys 1110101 B278 J8n) ?_
  obtain rfl := sj h
  have p3 := p3.dp 0
  exact Xc Tryz.f278 (.i (-1)) ⟨_, _, rfl, (z2.t z3), p3, u69⟩
def J8z := Ys 111111 B248 []
def J92 := Ys 11111111 B248 []
def J93 := Ys 111111101 B248 J92
def Q7m := Yq 111111100 B248
def Q7n := Yq 1111111010 B248
def J96 := Zr Q7n [2] J92
def J97 := Ys 111111111 B248 []
def Post.z12 (gx0 : Nat) (r : Int × Int × T134) (v : Value) (w' : World) : Prop :=
 ∃ S' u0, v = .tuple #[.i r.1, .i r.2.1] ∧ Ext S0 w0 S' w' ∧ Hp nz wz S' w' ((some gx0, .row 135 (vT134 r.2.2 u0) 4 0) :: Lr) ∧ PtO kT138 S' w' u0 r.2.2.bad
def L.z13 (gx0 : Nat) : Int × Int × Int × T134 → (Int × Int × T134) → Prop := fun ⟨x1, x6, x7, e0v⟩ r => ∀ S1 w1, Ext S0 w0 S1 w1 → ∀ u0 (_ : Hp nz wz S1 w1 ((some gx0, .row 135 (vT134 e0v u0) 4 0) :: Lr)) (_ : PtO kT138 S1 w1 u0 e0v.bad) (junk : Nat → Value),
 Goes Tg (base 248) J8z ⟨lfr 45 [(0, (pt gx0 0)), (1, .i x1), (6, .i x6), (7, .i x7)] junk, []⟩ w1 (Done Tg 248 (Rets (Post.z12 nz wz S0 w0 Lr gx0 r)))
theorem W.z13 {nz wz S0 w0 Lr} (gx0 : Nat) : ∀ a r, M.a5p a = some r → L.z13 nz wz S0 w0 Lr gx0 a r := by
 intro ⟨x1, x6, x7, e0v⟩ r h S1 w1 hx u0 p1 u1 junk
 rw [M.a5p] at h
 try dsimp only at h
 refine Gn 3 [(23, (pt gx0 0))] (Yt 1111110 B248 [1] (Ys 1111111 B248 [])) ?_
 refine Gb h fun y12 e13 h => ?_
 refine Gc (.call { callee := .value (.func 279), args := #[23, (.const (.int .u8 125))], argTypes := #[132, 5] }) 24 0 279 _ (W.zy e0v 125 y12 e13 _ _ p1 u1) ?_
 rintro _ w6 ⟨S6, u3y, rfl, z6, p6, u3z⟩
 refine Gm 7 [([25], .i x6), ([26, 27], .bool (decide (x6 > 64)))] (Zr Q7m [3, 4, 5, 6, 7, 8, 9, 10, 11, 12, 13, 14] J93) ?_
 refine Gi h (fun h14 h => ?_) fun h14 h => ?_
 ·
  rw [dt h14]
  refine Gm 14 [([28, 29, 32, 33, 34, 35, 36, 37, 38], undef), ([30, 31, 39], .bool true)] (Zc Q7n J92) ?_
  refine Gn 3 [(40, (pt gx0 0)), (41, .i x1)] J96 ?_
  refine Gb h fun y15 e16 h => ?_
  refine Gc (kc 69 [40, 41] #[132, 3]) 42 27 69 _ (W.z2 y12 x1 y15 e16 _ _ p6 u3z) ?_
  rintro _ w7 ⟨S7, u6c, u6d, u6e, u65, rfl, z7, p7, u6f, u6g, rfl, u66⟩
  refine Gm 8 [([43, 4], .i x6), ([44, 5], .i x7)] J97 ?_
  obtain rfl := sj h
  exact Xc Tryz.f248 (.tuple #[.i x6, .i x7]) ⟨_, _, rfl, ((hx.t z6).t z7), p7, u66⟩
 ·
  rw [df h14]
  refine Gm 4 [([28], .i x7), ([29, 30, 31], .bool (decide (x7 > 64)))] (Zr Q7m [7, 8, 9, 10, 11, 12, 13, 14] J93) ?_
  refine Gi h (fun h17 h => ?_) fun h17 h => ?_
  ·
   rw [dt h17]
   refine Gm 13 [([32, 33, 34, 35, 36, 37, 38], undef), ([39], .bool true), ([40], (pt gx0 0)), ([41], .i x1)] J96 ?_
   refine Gb h fun y18 e19 h => ?_
   refine Gc (kc 69 [40, 41] #[132, 3]) 42 27 69 _ (W.z2 y12 x1 y18 e19 _ _ p6 u3z) ?_
   rintro _ w8 ⟨S8, u31, u32, u33, u34, rfl, z8, p8, u35, u36, rfl, u37⟩
   refine Gm 8 [([43, 4], .i x6), ([44, 5], .i x7)] J97 ?_
   obtain rfl := sj h
   exact Xc Tryz.f248 (.tuple #[.i x6, .i x7]) ⟨_, _, rfl, ((hx.t z6).t z8), p8, u37⟩
  ·
   rw [df h17]
   refine Gm 3 [([32], .i x7), ([33, 34], .bool (decide (x7 ≥ 0)))] (Zr Q7m [10, 11, 12, 13, 14] J93) ?_
   refine Gi h (fun h20 h => ?_) fun h20 h => ?_
   ·
    rw [dt h20]
    refine Gm 6 [([35], .i x6), ([36], .i x7), ([37, 38, 39], .bool (decide (x6 > x7)))] J93 ?_
    refine Gi h (fun h21 h => ?_) fun h21 h => ?_
    ·
     rw [dt h21]
     refine Gn 4 [(40, (pt gx0 0)), (41, .i x1)] J96 ?_
     refine Gb h fun y22 e23 h => ?_
     refine Gc (kc 69 [40, 41] #[132, 3]) 42 27 69 _ (W.z2 y12 x1 y22 e23 _ _ p6 u3z) ?_
     rintro _ w9 ⟨S9, u6h, u6i, u6j, u6k, rfl, z9, p9, u6l, u6m, rfl, u6n⟩
     refine Gm 8 [([43, 4], .i x6), ([44, 5], .i x7)] J97 ?_
     obtain rfl := sj h
     exact Xc Tryz.f248 (.tuple #[.i x6, .i x7]) ⟨_, _, rfl, ((hx.t z6).t z9), p9, u6n⟩
    ·
     rw [df h21]
     refine Gm 9 [([43, 4], .i x6), ([44, 5], .i x7)] J97 ?_
     obtain rfl := sj h
     exact Xc Tryz.f248 (.tuple #[.i x6, .i x7]) ⟨_, _, rfl, (hx.t z6), p6, u3z⟩
   ·
    rw [df h20]
    refine Gm 14 [([35, 36, 37], undef), ([38, 39], .bool false), ([43, 4], .i x6), ([44, 5], .i x7)] (Yt 111111110 B248 [] J97) ?_
    refine Gn 1 [] J97 ?_
    obtain rfl := sj h
    exact Xc Tryz.f248 (.tuple #[.i x6, .i x7]) ⟨_, _, rfl, (hx.t z6), p6, u3z⟩
def J9b := Ys 1111 B248 []
def J9c := Ys 1111101 B248 J8z
def L.z14 (gx0 : Nat) : Int × Int × T134 → (Int × Int × T134) → Prop := fun ⟨x1, x6, e0v⟩ r => ∀ S1 w1, Ext S0 w0 S1 w1 → ∀ u0 (_ : Hp nz wz S1 w1 ((some gx0, .row 135 (vT134 e0v u0) 4 0) :: Lr)) (_ : PtO kT138 S1 w1 u0 e0v.bad) (junk : Nat → Value),
 Goes Tg (base 248) J9b ⟨lfr 45 [(0, (pt gx0 0)), (1, .i x1), (6, .i x6)] junk, []⟩ w1 (Done Tg 248 (Rets (Post.z12 nz wz S0 w0 Lr gx0 r)))
theorem W.z14 {nz wz S0 w0 Lr} (gx0 : Nat) : ∀ a r, M.a5q a = some r → L.z14 nz wz S0 w0 Lr gx0 a r := by
 intro ⟨x1, x6, e0v⟩ r h S1 w1 hx u0 p1 u1 junk
 rw [M.a5q] at h
 try dsimp only at h
 refine Gm 9 [([18, 7], .i x6), ([19], (pt gx0 0))] (Yt 1111100 B248 [1] J9c) ?_
 refine Gb h fun y7 e8 h => ?_
 refine Gc (.call { callee := .value (.func 132), args := #[19, (.const (.int .u8 44))], argTypes := #[132, 5] }) 20 4 132 _ (W.z3 e0v 44 y7 e8 _ _ p1 u1) ?_
 rintro _ w4 ⟨S4, u28, rfl, z4, p4, u2b⟩
 refine Gn 1 [] J9c ?_
 refine Gi h (fun h9 h => ?_) fun h9 h => ?_
 ·
  rw [h9]
  refine Gn 3 [(21, (pt gx0 0))] (Yt 11111010 B248 [1, 2] J8z) ?_
  refine Gb h fun y10 e11 h => ?_
  refine Gc (kc 278 [21] #[132]) 22 3 278 _ (W.z10 y7.2 y10 e11 _ _ p4 u2b) ?_
  rintro _ w5 ⟨S5, u3a, rfl, z5, p5, u3c⟩
  refine Gn 2 [(7, .i y10.1)] J8z ?_
  exact Gj 45 [(0, (pt gx0 0)), (1, .i x1), (6, .i x6), (7, .i y10.1)] (W.z13 gx0 _ _ h _ _ ((hx.t z4).t z5) _ p5 u3c)
 ·
  rw [bf h9]
  refine Gn 2 [] J8z ?_
  exact Gj 45 [(0, (pt gx0 0)), (1, .i x1), (6, .i x6), (7, .i x6)] (W.z13 gx0 _ _ h _ _ (hx.t z4) _ p4 u2b)
theorem W.z12 (x0v : T134) (x1 : Int) (r : Int × Int × T134) (h : M.a5j x0v x1 = some r) {nz wz S0 w0 Lr} (gx0 u2) (p0 : Hp nz wz S0 w0 ((some gx0, .row 135 (vT134 x0v u2) 4 0) :: Lr)) (u3 : PtO kT138 S0 w0 u2 x0v.bad) :
  Calls Tg 248 #[(pt gx0 0), .i x1] w0 (Rets (Post.z12 nz wz S0 w0 Lr gx0 r)) := by
 refine Zf Tryz.f248 B248 43 ?_
 refine Gj 45 [(0, (pt gx0 0)), (1, .i x1)] fun junk => ?_
 delta M.a5j at h
 refine Gm 8 [([4, 5], .i 0), ([8], (pt gx0 0))] (Yt 110 B248 [1, 2] (Ys 111 B248 [])) ?_
 refine Gb h fun y2 e3 h => ?_
 refine Gc (kc 278 [8] #[132]) 9 3 278 _ (W.z10 x0v y2 e3 _ _ p0 u3) ?_
 rintro _ w2 ⟨S2, u7, rfl, z2, p2, u8⟩
 refine Gm 8 [([6, 10], .i y2.1), ([11], .bool (decide (y2.1 < 0)))] (Ys 11101 B248 J9b) ?_
 refine Gi h (fun h4 h => ?_) fun h4 h => ?_
 ·
  rw [dt h4]
  refine Gm 6 [([12, 13, 14], (pt gx0 0)), ([15], (pt gx0 1))] (Yt 111010 B248 [4, 5] J9b) ?_
  refine Xb 3 15 16 3 ⟨gx0, 1, none⟩ (.i y2.2.at_) (p2.c 0 1) ?_
  refine Gb h fun y5 e6 h => ?_
  refine Gc (kc 69 [12, 16] #[132, 3]) 17 27 69 _ (W.z2 y2.2 y2.2.at_ y5 e6 _ _ p2 u8) ?_
  rintro _ w3 ⟨S3, u5v, u5w, u5x, u2o, rfl, z3, p3, u5y, u5z, rfl, u2p⟩
  refine Gn 1 [] J9b ?_
  exact Gj 45 [(0, (pt gx0 0)), (1, .i x1), (6, .i y2.1)] (W.z14 gx0 _ _ h _ _ (z2.t z3) _ p3 u2p)
 ·
  rw [df h4]
  refine Gn 2 [] J9b ?_
  exact Gj 45 [(0, (pt gx0 0)), (1, .i x1), (6, .i y2.1)] (W.z14 gx0 _ _ h _ _ z2 _ p2 u8)
def J9l := Ys 111 B133 []
def J9n := Ys 110101 B133 J9l
def J9p := Ys 1111 B133 []
def Post.z15 (r : T26) (v : Value) (w' : World) : Prop :=
 ∃ S' u4 u5 u6, v = (ag (vT26 r u4 u5 u6)) ∧ Ext S0 w0 S' w' ∧ Hp nz wz S' w' (Lr) ∧ r.Set.length = 4 ∧ Rd kT26 S' w' u4 u6 r.L ∧ r.L.length = u5
theorem W.z15 (x0 : Int) (x1 : List T26) (r : T26) (h : M.a3r x0 x1 = some r) {nz wz S0 w0 Lr} (Ax1 nx1 cx1) (p0 : Hp nz wz S0 w0 (Lr)) (fx1 : Rd kT26 S0 w0 Ax1 cx1 x1) (lx1 : x1.length = nx1) :
  Calls Tg 133 #[.i x0, .slice Ax1 nx1 cx1] w0 (Rets (Post.z15 nz wz S0 w0 Lr r)) := by
 subst lx1
 refine Zf Tryz.f133 B133 12 ?_
 refine Gj 14 [(0, .i x0), (1, .slice Ax1 x1.length cx1)] fun junk => ?_
 delta M.a3r at h
 refine Gn 2 [] (Yt 10 B133 [0] (Ys 11 B133 [])) ?_
 refine Oa 27 4 0 (.agg #[.i 0, .u 0, .u 0, .u 0, .u 0, .slice none 0 0, .i 0, .i 0]) [.i 0, .u 0, .u 0, .u 0, .u 0, .slice none 0 0, .i 0, .i 0] p0 Xa fun b1 w2 z2 p2 => ?_
 refine Gn 8 [(5, .slice Ax1 x1.length cx1), (6, .i (x1.length : Int)), (7, .bool (decide ((x1.length : Int) = 1)))] (Ys 1101 B133 J9l) ?_
 refine Gi h (fun h3 h => ?_) fun h3 h => ?_
 ·
  rw [dt h3]
  refine Gn 4 [(8, .slice Ax1 x1.length cx1)] (Yt 110100 B133 [1, 2, 3] J9n) ?_
  refine Gg h fun g4 h => ?_
  refine Oi 25 8 (.const (.int .i64 0)) 9 0 27 .i64 0 (gi x1 0) rfl rfl (fx1.ext z2) Xa (by decide : (0 : Int) ≤ 0) g4 fun a5 _ f6 q7 => ?_
  have q8 := q7
  obtain ⟨_, _, rfl, rfl, ⟨_, _, rfl, ⟨l9, f10⟩, ⟨_, _, rfl, ⟨A11, c12, rfl, f13⟩, ⟨_, _, rfl, rfl, rfl⟩⟩⟩⟩ := kT26_open q8
  obtain rfl := els_lit4' f10 l9
  refine Xf 27 9 10 27 a5 ([.i ((gi x1 0).Kind)] ++ ((U4 ((gi x1 0).Set) []) ++ ([.slice A11 (((gi x1 0).L).length) c12] ++ ([.i ((gi x1 0).Min)] ++ [.i ((gi x1 0).Max)])))) (f6.cell) ?_
  refine So 27 4 10 0 0 b1 0 (ag (.i ((gi x1 0).Kind) :: U4 ((gi x1 0).Set) [.slice A11 (((gi x1 0).L).length) c12, .i ((gi x1 0).Min), .i ((gi x1 0).Max)])) (.i ((gi x1 0).Kind) :: U4 ((gi x1 0).Set) [.slice A11 (((gi x1 0).L).length) c12, .i ((gi x1 0).Min), .i ((gi x1 0).Max)]) p2 rfl Xd fun w3 z3 p3 => ?_
  refine Gn 1 [] J9n ?_
  obtain rfl := sj h
  exact R1 Tryz.f133 (.cell 4 27) (ag (.i ((gi x1 0).Kind) :: U4 ((gi x1 0).Set) [.slice A11 (((gi x1 0).L).length) c12, .i ((gi x1 0).Min), .i ((gi x1 0).Max)])) (Rn b1 (p3.pa 0 0)) ⟨_, _, _, _, rfl, (z2.t z3), p3.drop, l9, (f13.ext z3), rfl⟩
 ·
  rw [df h3]
  refine Gn 7 [(11, .i x0), (12, .slice Ax1 x1.length cx1), (13, .agg #[.i x0, .u 0, .u 0, .u 0, .u 0, .slice Ax1 x1.length cx1, .i 0, .i 0])] (Yt 1110 B133 [3] J9p) ?_
  refine So 27 4 13 0 0 b1 0 (.agg #[.i x0, .u 0, .u 0, .u 0, .u 0, .slice Ax1 x1.length cx1, .i 0, .i 0]) [.i x0, .u 0, .u 0, .u 0, .u 0, .slice Ax1 x1.length cx1, .i 0, .i 0] p2 rfl Xd fun w4 z4 p4 => ?_
  refine Gn 1 [] J9p ?_
  obtain rfl := sj h
  exact R1 Tryz.f133 (.cell 4 27) (.agg #[.i x0, .u 0, .u 0, .u 0, .u 0, .slice Ax1 x1.length cx1, .i 0, .i 0]) (Rn b1 (p4.pa 0 0)) ⟨_, _, _, _, rfl, (z2.t z4), p4.drop, rfl, (fx1.ext (z2.t z4)), rfl⟩
end
end Go.Gx
