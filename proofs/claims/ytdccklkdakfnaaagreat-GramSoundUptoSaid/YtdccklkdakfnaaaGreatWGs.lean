import Derived.Test.YtdccklkdakfnaaaGreatWGsd
set_option linter.unusedVariables false
set_option linter.unusedSimpArgs false
set_option maxRecDepth 100000
set_option maxHeartbeats 4000000
namespace Go.Gx
open Go.RowKit Go.Proofs
variable (nz : Nat) (wz : World) (S0 : Fz) (w0 : World) (Lr : List Ent)
noncomputable section
def J186 := Ys 11 B213 []
def Qze := Yq 10 B213
theorem W.z66 (uvl : T255) (uvm : Int) (r : T265) (h : M.a5a uvl uvm = some r) {nz wz S0 w0 Lr} (lx0 rx0 u4q u4r uv4 uv5 uv6 uv7 uv8 uv9 uva uvb uvc uvd uve uvf uvg uvh uvi uw7 uw8 uw9 uwa uwb uwc uwd uwe uvj uvk) (p0 : Hp nz wz S0 w0 ((some lx0, .obj (lpst 91 (lfr 42 [(2, (pt u4r 0)), (16, .func (.func 213) #[] #[(pt uvj 0), (pt uvk 0)])] u4q) #[17] (rfAssign (Qz0)) (rfBody (Qz0)) rx0 .ready none)) :: (some u4r, .row 176 [(pt uv4 0)] 1 0) :: (some uv4, .row 256 [.slice (Gp uv5) uv6 uv7, (pt uv9 0), (pt uvi 0)] 3 0) :: (uv5, .row 175 uv8 (uv7 * kT174.size) 0) :: (some uv9, .row 266 [.slice (Gp uva) uvb uvc, .slice (Gp uve) uvf uvg] 2 0) :: (uva, .row 3 uvd (uvc * (kInt .i64).size) 0) :: (uve, .row 257 uvh (uvg * (kInt .i64).size) 0) :: (some uvi, .row 266 [.slice (Gp uw7) uw8 uw9, .slice (Gp uwb) uwc uwd] 2 0) :: (uw7, .row 3 uwa (uw9 * (kInt .i64).size) 0) :: (uwb, .row 257 uwe (uwd * (kInt .i64).size) 0) :: (some uvj, .row 176 [(pt uv4 0)] 1 0) :: (some uvk, .row 5 [.int .u8 uvm] 1 0) :: Lr)) (uwf : Els kT174 S0 w0 uv8 uvl.l) (uwg : uvl.l.length = uv6) (uwh : Els (kInt .i64) S0 w0 uvd uvl.now.place) (uwi : uvl.now.place.length = uvb) (uwj : Els (kInt .i64) S0 w0 uvh uvl.now.list) (uwk : uvl.now.list.length = uvf) (uwl : Els (kInt .i64) S0 w0 uwa uvl.next.place) (uwm : uvl.next.place.length = uw8) (uwn : Els (kInt .i64) S0 w0 uwe uvl.next.list) (uwo : uvl.next.list.length = uwc) :
  Calls Tg 213 #[yieldV lx0, (pt uvj 0), (pt uvk 0)] w0 (Rets (Post.z66 nz wz S0 w0 Lr lx0 rx0 u4q u4r uv4 uv5 uv6 uv7 uv8 uv9 uva uvb uvc uvd uve uvf uvg uvh uvi uvj uvk uvl uvm r)) := by
 subst uwg
 subst uwi
 subst uwk
 subst uwm
 subst uwo
 refine Zf Tryz.f213 B213 40 ?_
 refine Gj 43 [(0, yieldV lx0), (1, (pt uvj 0)), (2, (pt uvk 0))] fun junk => ?_
 delta M.a5a at h
 refine Gn 2 [] (Zr Qze [0, 1, 2, 3, 4, 5, 6, 7, 8] J186) ?_
 refine Xb 176 1 7 176 ⟨uvj, 0, none⟩ ((pt uv4 0)) (p0.c 10 0) ?_
 refine Gn 2 [(8, (pt uv4 0)), (9, (pt uv4 1))] (Zr Qze [3, 4, 5, 6, 7, 8] J186) ?_
 refine Xb 254 9 10 254 ⟨uv4, 1, none⟩ ((pt uv9 0)) (p0.c 2 1) ?_
 refine Gn 2 [(11, (pt uv9 0)), (12, (pt uv9 1))] (Zr Qze [6, 7, 8] J186) ?_
 refine Xb 263 12 13 263 ⟨uv9, 1, none⟩ (.slice (Gp uve) uvl.now.list.length uvg) (p0.c 4 1) ?_
 refine Gn 5 [(14, .i (uvl.now.list.length : Int)), (15, .i 0)] J17o ?_
 exact Gj 43 [(0, yieldV lx0), (1, (pt uvj 0)), (2, (pt uvk 0)), (13, .slice (Gp uve) uvl.now.list.length uvg), (14, .i (uvl.now.list.length : Int)), (15, .i 0)] (W.z67 lx0 rx0 u4q u4r uv4 uv5 uvl.l.length uv7 uv8 uv9 uva uvl.now.place.length uvc uvd uve uvl.now.list.length uvg uvh uvi uvj uvk _ _ h _ _ (Xg S0 w0) _ _ _ _ _ _ _ _ p0 uwf rfl uwh rfl uwj rfl uwl rfl uwn rfl)
def J18a := Ys 111 B156 []
def Qzg := Yq 110 B156
def Post.z6a (gx0 : Nat) (ukk : Option Nat) (ukl : Nat) (ukm : Nat) (ukn : List Value) (upg : Nat) (uph : Option Nat) (upi : Nat) (upj : Nat) (upk : List Value) (upl : Option Nat) (upm : Nat) (upn : Nat) (upo : List Value) (upp : Nat) (upq : Option Nat) (upr : Nat) (ups : Nat) (upt : List Value) (upu : Option Nat) (upv : Nat) (upw : Nat) (upx : List Value) (x0v : T255) (r : Bool) (v : Value) (w' : World) : Prop :=
 ∃ S', v = .bool r ∧ Ext S0 w0 S' w' ∧ Hp nz wz S' w' ((some gx0, .row 256 [.slice (Gp ukk) ukl ukm, (pt upg 0), (pt upp 0)] 3 0) :: (ukk, .row 175 ukn (ukm * kT174.size) 0) :: (some upg, .row 266 [.slice (Gp uph) upi upj, .slice (Gp upl) upm upn] 2 0) :: (uph, .row 3 upk (upj * (kInt .i64).size) 0) :: (upl, .row 257 upo (upn * (kInt .i64).size) 0) :: (some upp, .row 266 [.slice (Gp upq) upr ups, .slice (Gp upu) upv upw] 2 0) :: (upq, .row 3 upt (ups * (kInt .i64).size) 0) :: (upu, .row 257 upx (upw * (kInt .i64).size) 0) :: Lr)
theorem W.z6a (x0v : T255) (r : Bool) (h : M.a6e x0v = some r) {nz wz S0 w0 Lr} (gx0 ukk ukl ukm ukn upg uph upi upj upk upl upm upn upo upp upq upr ups upt upu upv upw upx) (p0 : Hp nz wz S0 w0 ((some gx0, .row 256 [.slice (Gp ukk) ukl ukm, (pt upg 0), (pt upp 0)] 3 0) :: (ukk, .row 175 ukn (ukm * kT174.size) 0) :: (some upg, .row 266 [.slice (Gp uph) upi upj, .slice (Gp upl) upm upn] 2 0) :: (uph, .row 3 upk (upj * (kInt .i64).size) 0) :: (upl, .row 257 upo (upn * (kInt .i64).size) 0) :: (some upp, .row 266 [.slice (Gp upq) upr ups, .slice (Gp upu) upv upw] 2 0) :: (upq, .row 3 upt (ups * (kInt .i64).size) 0) :: (upu, .row 257 upx (upw * (kInt .i64).size) 0) :: Lr)) (uko : Els kT174 S0 w0 ukn x0v.l) (ukp : x0v.l.length = ukl) (upy : Els (kInt .i64) S0 w0 upk x0v.now.place) (upz : x0v.now.place.length = upi) (uq0 : Els (kInt .i64) S0 w0 upo x0v.now.list) (uq1 : x0v.now.list.length = upm) (uq2 : Els (kInt .i64) S0 w0 upt x0v.next.place) (uq3 : x0v.next.place.length = upr) (uq4 : Els (kInt .i64) S0 w0 upx x0v.next.list) (uq5 : x0v.next.list.length = upv) :
  Calls Tg 156 #[(pt gx0 0)] w0 (Rets (Post.z6a nz wz S0 w0 Lr gx0 ukk ukl ukm ukn upg uph upi upj upk upl upm upn upo upp upq upr ups upt upu upv upw upx x0v r)) := by
 subst ukp
 subst upz
 subst uq1
 subst uq3
 subst uq5
 refine Zf Tryz.f156 B156 16 ?_
 refine Gj 17 [(0, (pt gx0 0))] fun junk => ?_
 delta M.a6e at h
 refine Gn 7 [(2, .bool false), (3, (pt gx0 0))] (Zr Qzg [1, 2, 3, 4, 5, 6, 7, 8, 9, 10, 11, 12, 13, 14] J18a) ?_
 refine Gb h fun y9 e10 h => ?_
 refine Gc (kc 152 [3] #[176]) 4 4 152 _ (W.z5t x0v y9 e10 _ _ _ _ _ _ _ _ _ _ _ _ _ _ _ _ _ _ _ _ _ _ _ p0 uko rfl upy rfl uq0 rfl uq2 rfl uq4 rfl) ?_
 rintro _ w2 ⟨S2, rfl, z2, p2⟩
 refine Gm 5 [([5, 6], .bool (!true)), ([7, 8], (pt gx0 0)), ([9], (pt gx0 1))] (Zr Qzg [7, 8, 9, 10, 11, 12, 13, 14] J18a) ?_
 refine Xb 254 9 10 254 ⟨gx0, 1, none⟩ ((pt upg 0)) (p2.c 0 1) ?_
 refine Gn 2 [(11, (pt upg 0)), (12, (pt upg 1))] (Zr Qzg [10, 11, 12, 13, 14] J18a) ?_
 refine Xb 263 12 13 263 ⟨upg, 1, none⟩ (.slice (Gp upl) x0v.now.list.length upn) (p2.c 2 1) ?_
 refine Gm 5 [([14], .i (x0v.now.list.length : Int)), ([15, 16, 2], .bool (decide ((x0v.now.list.length : Int) = 0)))] J18a ?_
 obtain rfl := sj h
 exact Xc Tryz.f156 (.bool (decide ((x0v.now.list.length : Int) = 0))) ⟨_, rfl, z2, p2⟩
def J18f := Yt 10 B91 [0, 1] (Ys 11 B91 [])
def J18g := Ys 111 B91 []
def J18i := Yt 1100 B91 [0, 1, 2] (Ys 1101 B91 J18g)
def J18j := Ys 1111 B91 []
def Qzn := Yq 1110 B91
def J18m := Ys 11111 B91 []
def J18n := Ys 111101 B91 J18m
def Qzq := Yq 111100 B91
def J18q := Zb 0 J18m
def J18u := Ys 1111111 B91 []
def Post.z6b (gx0 : Nat) (upg : Nat) (uph : Option Nat) (upi : Nat) (upj : Nat) (upk : List Value) (upl : Option Nat) (upm : Nat) (upn : Nat) (upo : List Value) (upp : Nat) (x0v : T255) (r : Bool × (List T174) × T265) (v : Value) (w' : World) : Prop :=
 ∃ S' ukf ukg ukh uki ut7 ut8 ut9 uta utb utc utd ute, v = .bool r.1 ∧ Ext S0 w0 S' w' ∧ Hp nz wz S' w' ((some gx0, .row 256 [.slice (Gp ukf) ukg ukh, (pt upp 0), (pt upg 0)] 3 0) :: (ukf, .row 175 uki (ukh * kT174.size) 0) :: (some upg, .row 266 [.slice (Gp uph) upi upj, .slice (Gp upl) upm upn] 2 0) :: (uph, .row 3 upk (upj * (kInt .i64).size) 0) :: (upl, .row 257 upo (upn * (kInt .i64).size) 0) :: (some upp, .row 266 [.slice (Gp ut7) ut8 ut9, .slice (Gp utb) utc utd] 2 0) :: (ut7, .row 3 uta (ut9 * (kInt .i64).size) 0) :: (utb, .row 257 ute (utd * (kInt .i64).size) 0) :: Lr) ∧ Els kT174 S' w' uki r.2.1 ∧ r.2.1.length = ukg ∧ Els (kInt .i64) S' w' uta r.2.2.place ∧ r.2.2.place.length = ut8 ∧ Els (kInt .i64) S' w' ute r.2.2.list ∧ r.2.2.list.length = utc
theorem W.z6b (x0v : T255) (x1 : Int) (r : Bool × (List T174) × T265) (h : M.a5b x0v x1 = some r) {nz wz S0 w0 Lr} (gx0 ukk ukl ukm ukn upg uph upi upj upk upl upm upn upo upp upq upr ups upt upu upv upw upx) (p0 : Hp nz wz S0 w0 ((some gx0, .row 256 [.slice (Gp ukk) ukl ukm, (pt upg 0), (pt upp 0)] 3 0) :: (ukk, .row 175 ukn (ukm * kT174.size) 0) :: (some upg, .row 266 [.slice (Gp uph) upi upj, .slice (Gp upl) upm upn] 2 0) :: (uph, .row 3 upk (upj * (kInt .i64).size) 0) :: (upl, .row 257 upo (upn * (kInt .i64).size) 0) :: (some upp, .row 266 [.slice (Gp upq) upr ups, .slice (Gp upu) upv upw] 2 0) :: (upq, .row 3 upt (ups * (kInt .i64).size) 0) :: (upu, .row 257 upx (upw * (kInt .i64).size) 0) :: Lr)) (uko : Els kT174 S0 w0 ukn x0v.l) (ukp : x0v.l.length = ukl) (upy : Els (kInt .i64) S0 w0 upk x0v.now.place) (upz : x0v.now.place.length = upi) (uq0 : Els (kInt .i64) S0 w0 upo x0v.now.list) (uq1 : x0v.now.list.length = upm) (uq2 : Els (kInt .i64) S0 w0 upt x0v.next.place) (uq3 : x0v.next.place.length = upr) (uq4 : Els (kInt .i64) S0 w0 upx x0v.next.list) (uq5 : x0v.next.list.length = upv) :
  Calls Tg 91 #[(pt gx0 0), .int .u8 x1] w0 (Rets (Post.z6b nz wz S0 w0 Lr gx0 upg uph upi upj upk upl upm upn upo upp x0v r)) := by
 subst ukp
 subst upz
 subst uq1
 subst uq3
 subst uq5
 refine Zf Tryz.f91 B91 40 ?_
 refine Gj 42 [(0, (pt gx0 0)), (1, .int .u8 x1)] fun junk => ?_
 delta M.a5b at h
 refine Gn 2 [] J18f ?_
 refine Ob 176 0 2 0 ((pt gx0 0)) [(pt gx0 0)] p0 Xa fun b9 w2 z2 p2 => ?_
 refine Gn 5 [(4, .bool false)] J18i ?_
 refine Xb 176 2 6 176 ⟨b9, 0, none⟩ ((pt gx0 0)) (p2.c 0 0) ?_
 have p2 := (((((((p2.fr 8).fr 8).fr 8).fr 8).fr 8).fr 8).fr 8).fr 8
 refine Gb h fun y11 e12 h => ?_
 refine Gc (kc 152 [6] #[176]) 7 4 152 _ (W.z5t x0v y11 e12 _ _ _ _ _ _ _ _ _ _ _ _ _ _ _ _ _ _ _ _ _ _ _ p2 (uko.ext z2) rfl (upy.ext z2) rfl (uq0.ext z2) rfl (uq2.ext z2) rfl (uq4.ext z2) rfl) ?_
 rintro _ w3 ⟨S3, rfl, z3, p3⟩
 refine Gn 6 [(8, .bool (!true))] (Zr Qzn [0, 1, 2, 3, 4] J18j) ?_
 refine Xb 176 2 9 176 ⟨b9, 0, none⟩ ((pt gx0 0)) (p3.c 8 0) ?_
 refine Gn 2 [(10, (pt gx0 0)), (11, (pt gx0 2))] (Zr Qzn [3, 4] J18j) ?_
 refine Xb 254 11 12 254 ⟨gx0, 2, none⟩ ((pt upp 0)) (p3.c 0 2) ?_
 have p3 := ((p3.fr 7).fr 7).fr 7
 refine Gb h fun y13 e14 h => ?_
 refine Gc (kc 153 [12] #[254]) 13 0 153 _ (W.z5u x0v.next y13 e14 _ _ _ _ _ _ _ _ _ p3 (uq2.ext (z2.t z3)) rfl (uq4.ext (z2.t z3)) rfl) ?_
 rintro _ w4 ⟨S4, umk, uml, umm, umn, uwp, uwq, uwr, uws, rfl, z4, p4, umo, rfl, uwt, rfl⟩
 refine Gn 4 [] (Zr Qzq [0, 1, 2] J18n) ?_
 refine Xb 176 2 14 176 ⟨b9, 0, none⟩ ((pt gx0 0)) (p4.c 8 0) ?_
 refine Gn 1 [(15, .int .u8 x1)] (Zr Qzq [2] J18n) ?_
 have p4 := (((((((p4.fr 2).fr 2).fr 2).fr 7).fr 7).fr 7).fr 7).fr 7
 refine Gb h fun y17 e18 h => ?_
 refine Gc (kc 154 [14, 15] #[176, 5]) 16 259 154 _ (W.z62 (⟨x0v.l, x0v.now, y13⟩ : T255) x1 y17 e18 _ _ _ _ _ _ _ _ _ _ _ _ _ _ _ _ _ _ _ _ _ _ _ p4 (uko.ext ((z2.t z3).t z4)) rfl (upy.ext ((z2.t z3).t z4)) rfl (uq0.ext ((z2.t z3).t z4)) rfl umo rfl uwt rfl) ?_
 rintro _ w5 ⟨S5, u5k, uwu, rfl, z5, p5⟩
 refine Gn 2 [] (Zc Qz0 J18q) ?_
 refine Gj 42 [(2, (pt b9 0)), (16, .func (.func 213) #[] #[(pt u5k 0), (pt uwu 0)])] (fun uwv => ?_)
 refine Goes.rangeF (f := 91) 16 #[17] 213 #[] #[(pt u5k 0), (pt uwu 0)] (by kernel_rfl) (by kernel_rfl) (fun _ => by kernel_rfl) p5 fun r22 l23 w6 z6 p6 => ?_
 have p6 := (((((((((((p6.fr 3).fr 3).fr 11).fr 11).fr 11).fr 11).fr 11).fr 11).fr 11).fr 11).fr 12).fr 11
 refine Gb h fun y26 e27 h => ?_
 refine ⟨_, W.z66 (⟨x0v.l, x0v.now, y13⟩ : T255) y17 y26 e27 _ _ _ _ _ _ _ _ _ _ _ _ _ _ _ _ _ _ _ _ _ _ _ _ _ _ _ _ _ p6 (uko.ext ((((z2.t z3).t z4).t z5).t z6)) rfl (upy.ext ((((z2.t z3).t z4).t z5).t z6)) rfl (uq0.ext ((((z2.t z3).t z4).t z5).t z6)) rfl (umo.ext (z5.t z6)) rfl (uwt.ext (z5.t z6)) rfl, ?_⟩
 rintro _ w7 ⟨S7, uww, uwx, uwy, uwz, ux0, ux1, ux2, ux3, rfl, z7, p7, ux4, rfl, ux5, rfl⟩
 refine Goes.endF 0 p7 rfl rfl fun w8 z8 p8 => ?_
 replace p8 : Hp nz wz S7 w8 ((some b9, .row 176 [(pt gx0 0)] 1 0) :: (some gx0, .row 256 [.slice (Gp ukk) x0v.l.length ukm, (pt upg 0), (pt upp 0)] 3 0) :: (ukk, .row 175 ukn (ukm * kT174.size) 0) :: (some upg, .row 266 [.slice (Gp uph) x0v.now.place.length upj, .slice (Gp upl) x0v.now.list.length upn] 2 0) :: (uph, .row 3 upk (upj * (kInt .i64).size) 0) :: (upl, .row 257 upo (upn * (kInt .i64).size) 0) :: (some upp, .row 266 [.slice (Gp uww) y26.place.length uwy, .slice (Gp ux0) y26.list.length ux2] 2 0) :: (uww, .row 3 uwz (uwy * (kInt .i64).size) 0) :: (ux0, .row 257 ux3 (ux2 * (kInt .i64).size) 0) :: (some u5k, .row 176 [(pt gx0 0)] 1 0) :: (some uwu, .row 5 [.int .u8 y17] 1 0) :: (some r22, .obj (.deferred (some []))) :: Lr) := (p8.front 0 _ rfl).drop
 show Goes _ _ J18q _ _ _
 refine Gn 2 [] (Ys 111110 B91 (Ys 111111 B91 [])) ?_
 have z9 : Ext S7 w8 S7 (w8).drew := Xm
 have p9 := p8.draw
 refine Gd [15] (Fc S7 (w8).drew [(⟨b9, 0, none⟩, (pt gx0 0)), (⟨gx0, 2, none⟩, (pt upp 0))]) 7 16 ?_
 generalize (w8).drew = w9 at z9 p9 ⊢
 refine Al 0 176 2 25 176 ⟨b9, 0, none⟩ ((pt gx0 0)) (p9.k [(0, 0, 1), (1, 2, 1)]) (fun _ h => h.2.at_ 0 rfl) ?_
 refine Al 1 176 2 26 176 ⟨b9, 0, none⟩ ((pt gx0 0)) (p9.k [(0, 0, 1), (1, 2, 1)]) (fun _ h => h.2.at_ 0 rfl) ?_
 refine Al 2 176 2 27 176 ⟨b9, 0, none⟩ ((pt gx0 0)) (p9.k [(0, 0, 1), (1, 2, 1)]) (fun _ h => h.2.at_ 0 rfl) ?_
 refine Xe 3 (.nilCheck 27) 28 0 ((pt gx0 0)) (p9.k [(0, 0, 1), (1, 2, 1)]) ?_
 refine Xe 4 (.fieldAddr 256 28 2) 29 0 ((pt gx0 2)) (p9.k [(0, 0, 1), (1, 2, 1)]) ?_
 refine Al 5 254 29 30 254 ⟨gx0, 2, none⟩ ((pt upp 0)) (p9.k [(0, 0, 1), (1, 2, 1)]) (fun _ h => h.2.at_ 1 rfl) ?_
 refine Al 6 176 2 31 176 ⟨b9, 0, none⟩ ((pt gx0 0)) (p9.k [(0, 0, 1), (1, 2, 1)]) (fun _ h => h.2.at_ 0 rfl) ?_
 refine Xe 7 (.nilCheck 31) 32 0 ((pt gx0 0)) (p9.k [(0, 0, 1), (1, 2, 1)]) ?_
 refine Xe 8 (.fieldAddr 256 32 1) 33 0 ((pt gx0 1)) (p9.k [(0, 0, 1), (1, 2, 1)]) ?_
 refine Op_.ld1 254 33 34 254 ⟨gx0, 1, none⟩ ((pt upg 0)) (Av 9) (by kernel_rfl) (by kernel_rfl) (p9.c 1 1) ?_
 refine Xl (Xg _ _) ⟨(p9.c 0 0), (p9.c 1 2), trivial⟩ ?_
 refine Xe 10 (.nilCheck 25) 35 0 ((pt gx0 0)) (p9.k [(0, 0, 1), (1, 2, 1)]) ?_
 refine Xe 11 (.fieldAddr 256 35 1) 36 0 ((pt gx0 1)) (p9.k [(0, 0, 1), (1, 2, 1)]) ?_
 refine So 254 36 30 0 1 gx0 1 ((pt upp 0)) [(pt upp 0)] p9 rfl (As 12) fun w10 z10 p10 => ?_
 refine Xl z10 ⟨(p10.c 0 0), (p10.c 1 2), trivial⟩ ?_
 refine Xe 13 (.nilCheck 26) 37 0 ((pt gx0 0)) (p10.k [(0, 0, 1), (1, 2, 1)]) ?_
 refine Xe 14 (.fieldAddr 256 37 2) 38 0 ((pt gx0 2)) (p10.k [(0, 0, 1), (1, 2, 1)]) ?_
 refine So 254 38 34 0 1 gx0 2 ((pt upg 0)) [(pt upg 0)] p10 rfl (As 15) fun w11 z11 p11 => ?_
 refine Xi [] (Fc S7 w11 []) (by decide) ?_
 refine Ad ?_
 have p11 := (p11.dp 9).dp 9
 refine Gn 2 [] (Yt 1111110 B91 [0, 1, 2, 3] J18u) ?_
 refine Xb 176 2 39 176 ⟨b9, 0, none⟩ ((pt gx0 0)) (p11.c 0 0) ?_
 have p11 := (((((((p11.fr 5).fr 5).fr 5).fr 8).fr 8).fr 8).fr 8).fr 8
 refine Gb h fun y30 e31 h => ?_
 refine Gc (kc 156 [39] #[176]) 40 4 156 _ (W.z6a (⟨x0v.l, y26, x0v.now⟩ : T255) y30 e31 _ _ _ _ _ _ _ _ _ _ _ _ _ _ _ _ _ _ _ _ _ _ _ p11 (uko.ext (((((((((z2.t z3).t z4).t z5).t z6).t z7).t z8).t z9).t z10).t z11)) rfl (ux4.ext (((z8.t z9).t z10).t z11)) rfl (ux5.ext (((z8.t z9).t z10).t z11)) rfl (upy.ext (((((((((z2.t z3).t z4).t z5).t z6).t z7).t z8).t z9).t z10).t z11)) rfl (uq0.ext (((((((((z2.t z3).t z4).t z5).t z6).t z7).t z8).t z9).t z10).t z11)) rfl) ?_
 rintro _ w12 ⟨S12, rfl, z12, p12⟩
 have p12 := p12.dp 8
 refine Gm 3 [([41, 4], .bool (!y30))] J18u ?_
 obtain rfl := sj h
 have p12 := ((((((((p12.fr 4).fr 4).fr 4).fr 7).fr 7).fr 7).fr 7).fr 7).fr 8
 refine Goes.retL ?_
 refine lvs_mark 0 rfl rfl p12 rfl fun w13 z13 p13 => ?_
 replace p13 : Hp nz wz S12 w13 ((some gx0, .row 256 [.slice (Gp ukk) x0v.l.length ukm, (pt upp 0), (pt upg 0)] 3 0) :: (ukk, .row 175 ukn (ukm * kT174.size) 0) :: (some upg, .row 266 [.slice (Gp uph) x0v.now.place.length upj, .slice (Gp upl) x0v.now.list.length upn] 2 0) :: (uph, .row 3 upk (upj * (kInt .i64).size) 0) :: (upl, .row 257 upo (upn * (kInt .i64).size) 0) :: (some upp, .row 266 [.slice (Gp uww) y26.place.length uwy, .slice (Gp ux0) y26.list.length ux2] 2 0) :: (uww, .row 3 uwz (uwy * (kInt .i64).size) 0) :: (ux0, .row 257 ux3 (ux2 * (kInt .i64).size) 0) :: Lr) := p13.drop
 exact lvs_done (fn := Tryz.f91) rfl rfl rfl rfl (by kernel_rfl) (v := .bool (!y30)) (by kernel_rfl) ⟨S12, ukk, x0v.l.length, ukm, ukn, uww, y26.place.length, uwy, uwz, ux0, y26.list.length, ux2, ux3, rfl, (((((((((((z2.t z3).t z4).t z5).t z6).t z7).t z8).t z9).t z10).t z11).t z12).t z13), p13, (uko.ext (((((((((((z2.t z3).t z4).t z5).t z6).t z7).t z8).t z9).t z10).t z11).t z12).t z13)), rfl, (ux4.ext (((((z8.t z9).t z10).t z11).t z12).t z13)), rfl, (ux5.ext (((((z8.t z9).t z10).t z11).t z12).t z13)), rfl⟩
def J18w := Ys 111 B158 []
def Qzw := Yq 110 B158
def Post.z6c (gx1 : Nat) (ux6 : Nat) (ux7 : Option Nat) (ux8 : Nat) (ux9 : Nat) (uxa : List Value) (uxb : Nat) (uxc : Option Nat) (uxd : Nat) (uxe : Nat) (uxf : List Value) (uxg : Option Nat) (uxh : Nat) (uxi : Nat) (uxj : List Value) (uxk : Nat) (uxl : Option Nat) (uxm : Nat) (uxn : Nat) (uxo : List Value) (uxp : Option Nat) (uxq : Nat) (uxr : Nat) (uxs : List Value) (uxt : T255) (r : Bool) (v : Value) (w' : World) : Prop :=
 ∃ S', v = .bool r ∧ Ext S0 w0 S' w' ∧ Hp nz wz S' w' ((some gx1, .row 176 [(pt ux6 0)] 1 0) :: (some ux6, .row 256 [.slice (Gp ux7) ux8 ux9, (pt uxb 0), (pt uxk 0)] 3 0) :: (ux7, .row 175 uxa (ux9 * kT174.size) 0) :: (some uxb, .row 266 [.slice (Gp uxc) uxd uxe, .slice (Gp uxg) uxh uxi] 2 0) :: (uxc, .row 3 uxf (uxe * (kInt .i64).size) 0) :: (uxg, .row 257 uxj (uxi * (kInt .i64).size) 0) :: (some uxk, .row 266 [.slice (Gp uxl) uxm uxn, .slice (Gp uxp) uxq uxr] 2 0) :: (uxl, .row 3 uxo (uxn * (kInt .i64).size) 0) :: (uxp, .row 257 uxs (uxr * (kInt .i64).size) 0) :: Lr)
theorem W.z6c (x0 : Int) (uxt : T255) (r : Bool) (h : M.a61 x0 uxt = some r) {nz wz S0 w0 Lr} (gx1 ux6 ux7 ux8 ux9 uxa uxb uxc uxd uxe uxf uxg uxh uxi uxj uxk uxl uxm uxn uxo uxp uxq uxr uxs) (p0 : Hp nz wz S0 w0 ((some gx1, .row 176 [(pt ux6 0)] 1 0) :: (some ux6, .row 256 [.slice (Gp ux7) ux8 ux9, (pt uxb 0), (pt uxk 0)] 3 0) :: (ux7, .row 175 uxa (ux9 * kT174.size) 0) :: (some uxb, .row 266 [.slice (Gp uxc) uxd uxe, .slice (Gp uxg) uxh uxi] 2 0) :: (uxc, .row 3 uxf (uxe * (kInt .i64).size) 0) :: (uxg, .row 257 uxj (uxi * (kInt .i64).size) 0) :: (some uxk, .row 266 [.slice (Gp uxl) uxm uxn, .slice (Gp uxp) uxq uxr] 2 0) :: (uxl, .row 3 uxo (uxn * (kInt .i64).size) 0) :: (uxp, .row 257 uxs (uxr * (kInt .i64).size) 0) :: Lr)) (uxu : Els kT174 S0 w0 uxa uxt.l) (uxv : uxt.l.length = ux8) (uxw : Els (kInt .i64) S0 w0 uxf uxt.now.place) (uxx : uxt.now.place.length = uxd) (uxy : Els (kInt .i64) S0 w0 uxj uxt.now.list) (uxz : uxt.now.list.length = uxh) (uy0 : Els (kInt .i64) S0 w0 uxo uxt.next.place) (uy1 : uxt.next.place.length = uxm) (uy2 : Els (kInt .i64) S0 w0 uxs uxt.next.list) (uy3 : uxt.next.list.length = uxq) :
  Calls Tg 158 #[.i x0, (pt gx1 0)] w0 (Rets (Post.z6c nz wz S0 w0 Lr gx1 ux6 ux7 ux8 ux9 uxa uxb uxc uxd uxe uxf uxg uxh uxi uxj uxk uxl uxm uxn uxo uxp uxq uxr uxs uxt r)) := by
 subst uxv
 subst uxx
 subst uxz
 subst uy1
 subst uy3
 refine Zf Tryz.f158 B158 11 ?_
 refine Gj 13 [(0, .i x0), (1, (pt gx1 0))] fun junk => ?_
 delta M.a61 at h
 refine Gn 6 [(3, .bool false)] (Zr Qzw [0, 1, 2, 3, 4, 5, 6, 7, 8, 9] J18w) ?_
 refine Xb 176 1 4 176 ⟨gx1, 0, none⟩ ((pt ux6 0)) (p0.c 0 0) ?_
 refine Gm 2 [([5, 6], (pt ux6 0))] (Zr Qzw [3, 4, 5, 6, 7, 8, 9] J18w) ?_
 refine Xb 77 6 7 77 ⟨ux6, 0, none⟩ (.slice (Gp ux7) uxt.l.length ux9) (p0.c 1 0) ?_
 refine Gn 1 [(8, .i x0)] (Zr Qzw [5, 6, 7, 8, 9] J18w) ?_
 refine Gg h fun g10 h => ?_
 refine Gg h fun g11 h => ?_
 refine Xt 77 7 8 9 0 175 .i64 x0 2 uxt.l.length ux9 (gi uxt.l x0) rfl rfl p0 rfl uxu Xa (by kernel_rfl) (by kernel_rfl) (by kernel_rfl) (by kernel_rfl) (by decide) g10 g11 ?_
 rintro b12 _ rfl q14 f13
 obtain ⟨_, _, rfl, rfl, ⟨_, _, rfl, ⟨l15, f16⟩, ⟨_, _, rfl, rfl, rfl⟩⟩⟩ := q14
 obtain rfl := els_lit4' f16 l15
 refine Gn 1 [(10, .pointer (some (Addr.add ⟨b12, (x0 : Int).toNat * kT174.size, none⟩ 0)))] (Zr Qzw [7, 8, 9] J18w) ?_
 refine Xb 3 10 11 3 (Addr.add ⟨b12, (x0 : Int).toNat * kT174.size, none⟩ 0) (.i ((gi uxt.l x0).Op)) ((hc_part (us := []) (vs := [.i ((gi uxt.l x0).Op)]) (ws := (U4 ((gi uxt.l x0).Set) [.i ((gi uxt.l x0).X), .i ((gi uxt.l x0).Y)])) f13) 0 _ rfl) ?_
 refine Gm 3 [([12, 3], .bool (decide ((gi uxt.l x0).Op = 3)))] J18w ?_
 obtain rfl := sj h
 exact Xc Tryz.f158 (.bool (decide ((gi uxt.l x0).Op = 3))) ⟨_, rfl, (Xg S0 w0), p0⟩
def Qzy := Yq 110100 B216
def J193 := Zl Qzy (Zb 0 (Ys 111 B216 []))
def J194 := Zc Qzy J193
def J198 := Zb 1 (Ys 110100111 B216 J193)
def J199 := Ys 110100110011 B216 J198
def Post.z6d (Gx0 : Option Nat) (nx0 : Nat) (cx0 : Nat) (uag : List Value) (uf1 : Nat) (uy4 : Nat) (uy5 : Option Nat) (uy6 : Nat) (uy7 : Nat) (uy8 : List Value) (uy9 : Nat) (uya : Option Nat) (uyb : Nat) (uyc : Nat) (uyd : List Value) (uye : Nat) (uyf : Option Nat) (uyg : Nat) (uyh : Nat) (uyi : List Value) (uyj : Option Nat) (uyk : Nat) (uyl : Nat) (uym : List Value) (x0 : List Int) (uyn : List T174) (uyo : List Int) (uyp : T265) (r : Int) (v : Value) (w' : World) : Prop :=
 ∃ S', v = .i r ∧ Ext S0 w0 S' w' ∧ Hp nz wz S' w' ((some uf1, .row 176 [(pt uy4 0)] 1 0) :: (some uy4, .row 256 [.slice (Gp uy5) uy6 uy7, (pt uy9 0), (pt uye 0)] 3 0) :: (uy5, .row 175 uy8 (uy7 * kT174.size) 0) :: (some uy9, .row 266 [.slice (Gp uya) uyb uyc, .slice (Gp Gx0) nx0 cx0] 2 0) :: (uya, .row 3 uyd (uyc * (kInt .i64).size) 0) :: (Gx0, .row 257 uag (cx0 * (kInt .i64).size) 0) :: (some uye, .row 266 [.slice (Gp uyf) uyg uyh, .slice (Gp uyj) uyk uyl] 2 0) :: (uyf, .row 3 uyi (uyh * (kInt .i64).size) 0) :: (uyj, .row 257 uym (uyl * (kInt .i64).size) 0) :: Lr)
def L.z6e (Gx0 : Option Nat) (nx0 : Nat) (cx0 : Nat) (uag : List Value) (uf1 : Nat) (uy4 : Nat) (uy5 : Option Nat) (uy6 : Nat) (uy7 : Nat) (uy8 : List Value) (uy9 : Nat) (uya : Option Nat) (uyb : Nat) (uyc : Nat) (uyd : List Value) (uye : Nat) (uyf : Option Nat) (uyg : Nat) (uyh : Nat) (uyi : List Value) (uyj : Option Nat) (uyk : Nat) (uyl : Nat) (uym : List Value) : Int × Int × (List Int) × (List T174) × (List Int) × T265 → Int → Prop := fun ⟨x7, x8, x0, uyn, uyo, uyp⟩ r => ∀ S1 w1, Ext S0 w0 S1 w1 → ∀ (_ : Hp nz wz S1 w1 ((some uf1, .row 176 [(pt uy4 0)] 1 0) :: (some uy4, .row 256 [.slice (Gp uy5) uy6 uy7, (pt uy9 0), (pt uye 0)] 3 0) :: (uy5, .row 175 uy8 (uy7 * kT174.size) 0) :: (some uy9, .row 266 [.slice (Gp uya) uyb uyc, .slice (Gp Gx0) nx0 cx0] 2 0) :: (uya, .row 3 uyd (uyc * (kInt .i64).size) 0) :: (Gx0, .row 257 uag (cx0 * (kInt .i64).size) 0) :: (some uye, .row 266 [.slice (Gp uyf) uyg uyh, .slice (Gp uyj) uyk uyl] 2 0) :: (uyf, .row 3 uyi (uyh * (kInt .i64).size) 0) :: (uyj, .row 257 uym (uyl * (kInt .i64).size) 0) :: Lr)) (_ : Els kT174 S1 w1 uy8 uyn) (_ : uyn.length = uy6) (_ : Els (kInt .i64) S1 w1 uyd uyo) (_ : uyo.length = uyb) (_ : Els (kInt .i64) S1 w1 uag x0) (_ : x0.length = nx0) (_ : Els (kInt .i64) S1 w1 uyi uyp.place) (_ : uyp.place.length = uyg) (_ : Els (kInt .i64) S1 w1 uym uyp.list) (_ : uyp.list.length = uyk) (junk : Nat → Value),
 Goes Tg (base 216) J194 ⟨lfr 19 [(0, .slice (Gp Gx0) nx0 cx0), (1, .func (.func 158) #[] #[(pt uf1 0)]), (7, .i x7), (8, .i x8)] junk, []⟩ w1 (Done Tg 216 (Rets (Post.z6d nz wz S0 w0 Lr Gx0 nx0 cx0 uag uf1 uy4 uy5 uy6 uy7 uy8 uy9 uya uyb uyc uyd uye uyf uyg uyh uyi uyj uyk uyl uym x0 uyn uyo uyp r)))
theorem W.z6e {nz wz S0 w0 Lr} (Gx0 : Option Nat) (nx0 : Nat) (cx0 : Nat) (uag : List Value) (uf1 : Nat) (uy4 : Nat) (uy5 : Option Nat) (uy6 : Nat) (uy7 : Nat) (uy8 : List Value) (uy9 : Nat) (uya : Option Nat) (uyb : Nat) (uyc : Nat) (uyd : List Value) (uye : Nat) (uyf : Option Nat) (uyg : Nat) (uyh : Nat) (uyi : List Value) (uyj : Option Nat) (uyk : Nat) (uyl : Nat) (uym : List Value) : ∀ a r, M.a2n a = some r → (L.z6e nz wz S0 w0 Lr Gx0 nx0 cx0 uag uf1 uy4 uy5 uy6 uy7 uy8 uy9 uya uyb uyc uyd uye uyf uyg uyh uyi uyj uyk uyl uym) a r := by
 refine M.a2n.partial_correctness (motive := (L.z6e nz wz S0 w0 Lr Gx0 nx0 cx0 uag uf1 uy4 uy5 uy6 uy7 uy8 uy9 uya uyb uyc uyd uye uyf uyg uyh uyi uyj uyk uyl uym)) ?_
 intro uyq uyr ⟨x7, x8, x0, uyn, uyo, uyp⟩ r h S1 w1 hx p1 fs0 ls0 fs2 ls2 fs4 ls4 fs6 ls6 fs8 ls8 junk
 try dsimp only at h
 subst ls0
 subst ls2
 subst ls4
 subst ls6
 subst ls8
 refine Gn 5 [(9, .bool (decide (x8 < x7)))] (Ys 11010010 B216 (Ys 11010011 B216 J193)) ?_
 refine Gi h (fun h10 h => ?_) fun h10 h => ?_
 ·
  rw [dt h10]
  refine Gm 14 [([10, 5, 13], .i x8), ([11], .func (.func 158) #[] #[(pt uf1 0)]), ([12], .slice (Gp Gx0) x0.length cx0)] (Yt 110100110010 B216 [3, 4, 5] J199) ?_
  refine Gg h fun g11 h => ?_
  refine Gg h fun g12 h => ?_
  refine Xt 263 12 13 14 0 257 .i64 x8 5 x0.length cx0 (gi x0 x8) rfl rfl p1 rfl fs4 Xa (by kernel_rfl) (by kernel_rfl) (by kernel_rfl) (by kernel_rfl) (by decide) g11 g12 ?_
  rintro b13 _ rfl q15 f14
  obtain rfl := q15
  refine Xb 257 14 15 257 ⟨b13, (x8 : Int).toNat * (kInt .i64).size, none⟩ (.i (gi x0 x8)) (f14 0 _ rfl) ?_
  refine Gb h fun y17 e18 h => ?_
  refine Gc (.call { callee := .value 11, args := #[15], argTypes := #[257] }) 16 4 158 _ (W.z6c (gi x0 x8) (⟨uyn, (⟨uyo, x0⟩ : T265), uyp⟩ : T255) y17 e18 _ _ _ _ _ _ _ _ _ _ _ (some b13) _ _ _ _ _ _ _ _ _ _ _ _ p1 fs0 rfl fs2 rfl fs4 rfl fs6 rfl fs8 rfl) ?_
  rintro _ w2 ⟨S2, rfl, z2, p2⟩
  refine Gn 1 [] J199 ?_
  refine Gi h (fun h19 h => ?_) fun h19 h => ?_
  ·
   rw [h19]
   refine Gm 6 [([17, 4], .i x8)] (Ys 11010011001101 B216 J198) ?_
   obtain rfl := sj h
   exact Xc Tryz.f216 (.i x8) ⟨_, rfl, (hx.t z2), p2⟩
  ·
   rw [bf h19]
   refine Gm 8 [([18, 8], .i (wr .i64 (x8 + 1)))] J194 ?_
   exact Gj 19 [(0, .slice (Gp (some b13)) x0.length cx0), (1, .func (.func 158) #[] #[(pt uf1 0)]), (7, .i x7), (8, .i (wr .i64 (x8 + 1)))] (uyr _ _ h _ _ (hx.t z2) p2 (fs0.ext z2) rfl (fs2.ext z2) rfl (fs4.ext z2) rfl (fs6.ext z2) rfl (fs8.ext z2) rfl)
 ·
  rw [df h10]
  refine Gn 6 [(4, .i (-1))] (Ys 1111 B216 []) ?_
  obtain rfl := sj h
  exact Xc Tryz.f216 (.i (-1)) ⟨_, rfl, hx, p1⟩
theorem W.z6d (x0 : List Int) (uyn : List T174) (uyo : List Int) (uyp : T265) (r : Int) (h : M.a62 x0 uyn uyo uyp = some r) {nz wz S0 w0 Lr} (Gx0 nx0 cx0 uag uf1 uy4 uy5 uy6 uy7 uy8 uy9 uya uyb uyc uyd uye uyf uyg uyh uyi uyj uyk uyl uym) (p0 : Hp nz wz S0 w0 ((Gx0, .row 257 uag (cx0 * (kInt .i64).size) 0) :: (some uf1, .row 176 [(pt uy4 0)] 1 0) :: (some uy4, .row 256 [.slice (Gp uy5) uy6 uy7, (pt uy9 0), (pt uye 0)] 3 0) :: (uy5, .row 175 uy8 (uy7 * kT174.size) 0) :: (some uy9, .row 266 [.slice (Gp uya) uyb uyc, .slice (Gp Gx0) nx0 cx0] 2 0) :: (uya, .row 3 uyd (uyc * (kInt .i64).size) 0) :: (some uye, .row 266 [.slice (Gp uyf) uyg uyh, .slice (Gp uyj) uyk uyl] 2 0) :: (uyf, .row 3 uyi (uyh * (kInt .i64).size) 0) :: (uyj, .row 257 uym (uyl * (kInt .i64).size) 0) :: Lr)) (fx0 : Els (kInt .i64) S0 w0 uag x0) (lx0 : x0.length = nx0) (uys : Els kT174 S0 w0 uy8 uyn) (uyt : uyn.length = uy6) (uyu : Els (kInt .i64) S0 w0 uyd uyo) (uyv : uyo.length = uyb) (uyw : Els (kInt .i64) S0 w0 uyi uyp.place) (uyx : uyp.place.length = uyg) (uyy : Els (kInt .i64) S0 w0 uym uyp.list) (uyz : uyp.list.length = uyk) :
  Calls Tg 216 #[.slice (Gp Gx0) nx0 cx0, .func (.func 158) #[] #[(pt uf1 0)]] w0 (Rets (Post.z6d nz wz S0 w0 Lr Gx0 nx0 cx0 uag uf1 uy4 uy5 uy6 uy7 uy8 uy9 uya uyb uyc uyd uye uyf uyg uyh uyi uyj uyk uyl uym x0 uyn uyo uyp r)) := by
 subst lx0
 subst uyt
 subst uyv
 subst uyx
 subst uyz
 refine Zf Tryz.f216 B216 17 ?_
 refine Gj 19 [(0, .slice (Gp Gx0) x0.length cx0), (1, .func (.func 158) #[] #[(pt uf1 0)])] fun junk => ?_
 delta M.a62 at h
 refine Gm 13 [([4, 8], .i 0), ([6], .slice (Gp Gx0) x0.length cx0), ([7], .i (x0.length : Int))] J194 ?_
 have p0 := ((((((((p0.fr 8).fr 8).fr 8).fr 3).fr 8).fr 8).fr 8).fr 8).fr 8
 exact Gj 19 [(0, .slice (Gp Gx0) x0.length cx0), (1, .func (.func 158) #[] #[(pt uf1 0)]), (7, .i (x0.length : Int)), (8, .i 0)] (W.z6e Gx0 x0.length cx0 uag uf1 uy4 uy5 uyn.length uy7 uy8 uy9 uya uyo.length uyc uyd uye uyf uyp.place.length uyh uyi uyj uyp.list.length uyl uym _ _ h _ _ (Xg S0 w0) p0 uys rfl uyu rfl fx0 rfl uyw rfl uyy rfl)
def J19d := Ys 111 B157 []
def Post.z6f (Gx0 : Option Nat) (nx0 : Nat) (cx0 : Nat) (uag : List Value) (uf1 : Nat) (uy4 : Nat) (uy5 : Option Nat) (uy6 : Nat) (uy7 : Nat) (uy8 : List Value) (uy9 : Nat) (uya : Option Nat) (uyb : Nat) (uyc : Nat) (uyd : List Value) (uye : Nat) (uyf : Option Nat) (uyg : Nat) (uyh : Nat) (uyi : List Value) (uyj : Option Nat) (uyk : Nat) (uyl : Nat) (uym : List Value) (x0 : List Int) (uyn : List T174) (uyo : List Int) (uyp : T265) (r : Bool) (v : Value) (w' : World) : Prop :=
 ∃ S', v = .bool r ∧ Ext S0 w0 S' w' ∧ Hp nz wz S' w' ((some uf1, .row 176 [(pt uy4 0)] 1 0) :: (some uy4, .row 256 [.slice (Gp uy5) uy6 uy7, (pt uy9 0), (pt uye 0)] 3 0) :: (uy5, .row 175 uy8 (uy7 * kT174.size) 0) :: (some uy9, .row 266 [.slice (Gp uya) uyb uyc, .slice (Gp Gx0) nx0 cx0] 2 0) :: (uya, .row 3 uyd (uyc * (kInt .i64).size) 0) :: (Gx0, .row 257 uag (cx0 * (kInt .i64).size) 0) :: (some uye, .row 266 [.slice (Gp uyf) uyg uyh, .slice (Gp uyj) uyk uyl] 2 0) :: (uyf, .row 3 uyi (uyh * (kInt .i64).size) 0) :: (uyj, .row 257 uym (uyl * (kInt .i64).size) 0) :: Lr)
theorem W.z6f (x0 : List Int) (uyn : List T174) (uyo : List Int) (uyp : T265) (r : Bool) (h : M.a63 x0 uyn uyo uyp = some r) {nz wz S0 w0 Lr} (Gx0 nx0 cx0 uag uf1 uy4 uy5 uy6 uy7 uy8 uy9 uya uyb uyc uyd uye uyf uyg uyh uyi uyj uyk uyl uym) (p0 : Hp nz wz S0 w0 ((Gx0, .row 257 uag (cx0 * (kInt .i64).size) 0) :: (some uf1, .row 176 [(pt uy4 0)] 1 0) :: (some uy4, .row 256 [.slice (Gp uy5) uy6 uy7, (pt uy9 0), (pt uye 0)] 3 0) :: (uy5, .row 175 uy8 (uy7 * kT174.size) 0) :: (some uy9, .row 266 [.slice (Gp uya) uyb uyc, .slice (Gp Gx0) nx0 cx0] 2 0) :: (uya, .row 3 uyd (uyc * (kInt .i64).size) 0) :: (some uye, .row 266 [.slice (Gp uyf) uyg uyh, .slice (Gp uyj) uyk uyl] 2 0) :: (uyf, .row 3 uyi (uyh * (kInt .i64).size) 0) :: (uyj, .row 257 uym (uyl * (kInt .i64).size) 0) :: Lr)) (fx0 : Els (kInt .i64) S0 w0 uag x0) (lx0 : x0.length = nx0) (uys : Els kT174 S0 w0 uy8 uyn) (uyt : uyn.length = uy6) (uyu : Els (kInt .i64) S0 w0 uyd uyo) (uyv : uyo.length = uyb) (uyw : Els (kInt .i64) S0 w0 uyi uyp.place) (uyx : uyp.place.length = uyg) (uyy : Els (kInt .i64) S0 w0 uym uyp.list) (uyz : uyp.list.length = uyk) :
  Calls Tg 157 #[.slice (Gp Gx0) nx0 cx0, .func (.func 158) #[] #[(pt uf1 0)]] w0 (Rets (Post.z6f nz wz S0 w0 Lr Gx0 nx0 cx0 uag uf1 uy4 uy5 uy6 uy7 uy8 uy9 uya uyb uyc uyd uye uyf uyg uyh uyi uyj uyk uyl uym x0 uyn uyo uyp r)) := by
 subst lx0
 subst uyt
 subst uyv
 subst uyx
 subst uyz
 refine Zf Tryz.f157 B157 7 ?_
 refine Gj 9 [(0, .slice (Gp Gx0) x0.length cx0), (1, .func (.func 158) #[] #[(pt uf1 0)])] fun junk => ?_
 delta M.a63 at h
 refine Gn 8 [(4, .bool false), (5, .slice (Gp Gx0) x0.length cx0), (6, .func (.func 158) #[] #[(pt uf1 0)])] (Yt 110 B157 [2, 3, 4] J19d) ?_
 refine Gb h fun y10 e11 h => ?_
 refine Gc (kc 216 [5, 6] #[263, 267]) 7 3 216 _ (W.z6d x0 uyn uyo uyp y10 e11 _ _ _ _ _ _ _ _ _ _ _ _ _ _ _ _ _ _ _ _ _ _ _ _ p0 fx0 rfl uys rfl uyu rfl uyw rfl uyy rfl) ?_
 rintro _ w2 ⟨S2, rfl, z2, p2⟩
 refine Gm 3 [([8, 4], .bool (decide (y10 ≥ 0)))] J19d ?_
 obtain rfl := sj h
 exact Xc Tryz.f157 (.bool (decide (y10 ≥ 0))) ⟨_, rfl, z2, p2⟩
def J19g := Yt 10 B92 [0, 1] (Ys 11 B92 [])
def J19h := Ys 111 B92 []
def J19j := Yt 1100 B92 [0, 1, 2] (Ys 1101 B92 J19h)
def J19k := Ys 1111 B92 []
def Q10e := Yq 1110 B92
def Post.z6g (gx0 : Nat) (ukk : Option Nat) (ukl : Nat) (ukm : Nat) (ukn : List Value) (upg : Nat) (uph : Option Nat) (upi : Nat) (upj : Nat) (upk : List Value) (upl : Option Nat) (upm : Nat) (upn : Nat) (upo : List Value) (upp : Nat) (upq : Option Nat) (upr : Nat) (ups : Nat) (upt : List Value) (upu : Option Nat) (upv : Nat) (upw : Nat) (upx : List Value) (x0v : T255) (r : Bool) (v : Value) (w' : World) : Prop :=
 ∃ S', v = .bool r ∧ Ext S0 w0 S' w' ∧ Hp nz wz S' w' ((some gx0, .row 256 [.slice (Gp ukk) ukl ukm, (pt upg 0), (pt upp 0)] 3 0) :: (ukk, .row 175 ukn (ukm * kT174.size) 0) :: (some upg, .row 266 [.slice (Gp uph) upi upj, .slice (Gp upl) upm upn] 2 0) :: (uph, .row 3 upk (upj * (kInt .i64).size) 0) :: (upl, .row 257 upo (upn * (kInt .i64).size) 0) :: (some upp, .row 266 [.slice (Gp upq) upr ups, .slice (Gp upu) upv upw] 2 0) :: (upq, .row 3 upt (ups * (kInt .i64).size) 0) :: (upu, .row 257 upx (upw * (kInt .i64).size) 0) :: Lr)
theorem W.z6g (x0v : T255) (r : Bool) (h : M.a4g x0v = some r) {nz wz S0 w0 Lr} (gx0 ukk ukl ukm ukn upg uph upi upj upk upl upm upn upo upp upq upr ups upt upu upv upw upx) (p0 : Hp nz wz S0 w0 ((some gx0, .row 256 [.slice (Gp ukk) ukl ukm, (pt upg 0), (pt upp 0)] 3 0) :: (ukk, .row 175 ukn (ukm * kT174.size) 0) :: (some upg, .row 266 [.slice (Gp uph) upi upj, .slice (Gp upl) upm upn] 2 0) :: (uph, .row 3 upk (upj * (kInt .i64).size) 0) :: (upl, .row 257 upo (upn * (kInt .i64).size) 0) :: (some upp, .row 266 [.slice (Gp upq) upr ups, .slice (Gp upu) upv upw] 2 0) :: (upq, .row 3 upt (ups * (kInt .i64).size) 0) :: (upu, .row 257 upx (upw * (kInt .i64).size) 0) :: Lr)) (uko : Els kT174 S0 w0 ukn x0v.l) (ukp : x0v.l.length = ukl) (upy : Els (kInt .i64) S0 w0 upk x0v.now.place) (upz : x0v.now.place.length = upi) (uq0 : Els (kInt .i64) S0 w0 upo x0v.now.list) (uq1 : x0v.now.list.length = upm) (uq2 : Els (kInt .i64) S0 w0 upt x0v.next.place) (uq3 : x0v.next.place.length = upr) (uq4 : Els (kInt .i64) S0 w0 upx x0v.next.list) (uq5 : x0v.next.list.length = upv) :
  Calls Tg 92 #[(pt gx0 0)] w0 (Rets (Post.z6g nz wz S0 w0 Lr gx0 ukk ukl ukm ukn upg uph upi upj upk upl upm upn upo upp upq upr ups upt upu upv upw upx x0v r)) := by
 subst ukp
 subst upz
 subst uq1
 subst uq3
 subst uq5
 refine Zf Tryz.f92 B92 14 ?_
 refine Gj 15 [(0, (pt gx0 0))] fun junk => ?_
 delta M.a4g at h
 refine Gn 2 [] J19g ?_
 refine Ob 176 0 1 0 ((pt gx0 0)) [(pt gx0 0)] p0 Xa fun b9 w2 z2 p2 => ?_
 refine Gn 5 [(2, .bool false)] J19j ?_
 refine Xb 176 1 3 176 ⟨b9, 0, none⟩ ((pt gx0 0)) (p2.c 0 0) ?_
 have p2 := (((((((p2.fr 8).fr 8).fr 8).fr 8).fr 8).fr 8).fr 8).fr 8
 refine Gb h fun y11 e12 h => ?_
 refine Gc (kc 152 [3] #[176]) 4 4 152 _ (W.z5t x0v y11 e12 _ _ _ _ _ _ _ _ _ _ _ _ _ _ _ _ _ _ _ _ _ _ _ p2 (uko.ext z2) rfl (upy.ext z2) rfl (uq0.ext z2) rfl (uq2.ext z2) rfl (uq4.ext z2) rfl) ?_
 rintro _ w3 ⟨S3, rfl, z3, p3⟩
 refine Gn 6 [(5, .bool (!true))] (Zr Q10e [0, 1, 2, 3, 4, 5, 6, 7, 8, 9] J19k) ?_
 refine Xb 176 1 6 176 ⟨b9, 0, none⟩ ((pt gx0 0)) (p3.c 8 0) ?_
 refine Gn 2 [(7, (pt gx0 0)), (8, (pt gx0 1))] (Zr Q10e [3, 4, 5, 6, 7, 8, 9] J19k) ?_
 refine Xb 254 8 9 254 ⟨gx0, 1, none⟩ ((pt upg 0)) (p3.c 0 1) ?_
 refine Gn 2 [(10, (pt upg 0)), (11, (pt upg 1))] (Zr Q10e [6, 7, 8, 9] J19k) ?_
 refine Xb 263 11 12 263 ⟨upg, 1, none⟩ (.slice (Gp upl) x0v.now.list.length upn) (p3.c 2 1) ?_
 refine Gn 1 [(13, .func (.func 158) #[] #[(pt b9 0)])] (Zr Q10e [8, 9] J19k) ?_
 have p3 := ((((((((p3.fr 7).fr 7).fr 7).fr 6).fr 6).fr 6).fr 6).fr 8).fr 8
 refine Gb h fun y13 e14 h => ?_
 refine Gc (kc 157 [12, 13] #[263, 267]) 14 4 157 _ (W.z6f x0v.now.list x0v.l x0v.now.place x0v.next y13 e14 _ _ _ _ _ _ _ _ _ _ _ _ _ _ _ _ _ _ _ _ _ _ _ _ p3 (uq0.ext (z2.t z3)) rfl (uko.ext (z2.t z3)) rfl (upy.ext (z2.t z3)) rfl (uq2.ext (z2.t z3)) rfl (uq4.ext (z2.t z3)) rfl) ?_
 rintro _ w4 ⟨S4, rfl, z4, p4⟩
 have p4 := p4.dp 0
 refine Gn 2 [(2, .bool y13)] J19k ?_
 obtain rfl := sj h
 exact Xc Tryz.f92 (.bool y13) ⟨_, rfl, ((z2.t z3).t z4), p4⟩
def Q10g := Yq 11110100 B35
def J19r := Zl Q10g (Zb 0 (Ys 11111 B35 []))
def J19s := Zc Q10g J19r
def J19u := Ys 1111010010 B35 (Ys 1111010011 B35 J19r)
def J19w := Zb 1 (Ys 11110100111 B35 J19r)
def J19x := Ys 11110100110011 B35 J19w
def J19y := Yt 11110100110010 B35 [3, 4, 5] J19x
def J19z := Ys 1111010011001101 B35 J19w
def J1a0 := Ys 111111 B35 []
def J1a1 := Yt 111110 B35 [1, 2, 3, 4] J1a0
def Post.z6h (r : Bool × Int) (v : Value) (w' : World) : Prop :=
 ∃ S', v = .tuple #[.bool r.1, .i r.2] ∧ Ext S0 w0 S' w' ∧ Hp nz wz S' w' (Lr)
def L.z6i : ByteArray × T255 × Int × Int × Int → (Bool × Int) → Prop := fun ⟨x1, x6v, x7, x19, x20⟩ r => ∀ S1 w1, Ext S0 w0 S1 w1 → ∀ gx6 uz0 ucg uch uz1 uz2 uz3 uz4 uz5 uz6 uz7 uz8 uz9 uza uzb uzc uzd uze uzf uzg uzh uzi uzj (_ : Hp nz wz S1 w1 ((some gx6, .row 256 [.slice (Gp uz0) ucg uch, (pt uz2 0), (pt uzb 0)] 3 0) :: (uz0, .row 175 uz1 (uch * kT174.size) 0) :: (some uz2, .row 266 [.slice (Gp uz3) uz4 uz5, .slice (Gp uz7) uz8 uz9] 2 0) :: (uz3, .row 3 uz6 (uz5 * (kInt .i64).size) 0) :: (uz7, .row 257 uza (uz9 * (kInt .i64).size) 0) :: (some uzb, .row 266 [.slice (Gp uzc) uzd uze, .slice (Gp uzg) uzh uzi] 2 0) :: (uzc, .row 3 uzf (uze * (kInt .i64).size) 0) :: (uzg, .row 257 uzj (uzi * (kInt .i64).size) 0) :: Lr)) (_ : Els kT174 S1 w1 uz1 x6v.l) (_ : x6v.l.length = ucg) (_ : Els (kInt .i64) S1 w1 uz6 x6v.now.place) (_ : x6v.now.place.length = uz4) (_ : Els (kInt .i64) S1 w1 uza x6v.now.list) (_ : x6v.now.list.length = uz8) (_ : Els (kInt .i64) S1 w1 uzf x6v.next.place) (_ : x6v.next.place.length = uzd) (_ : Els (kInt .i64) S1 w1 uzj x6v.next.list) (_ : x6v.next.list.length = uzh) (junk : Nat → Value),
 Goes Tg (base 35) J19s ⟨lfr 34 [(1, .string x1), (6, (pt gx6 0)), (7, .i x7), (19, .i x19), (20, .i x20)] junk, []⟩ w1 (Done Tg 35 (Rets (Post.z6h nz wz S0 w0 Lr r)))
theorem W.z6i {nz wz S0 w0 Lr} : ∀ a r, M.a3l a = some r → (L.z6i nz wz S0 w0 Lr) a r := by
 refine M.a3l.partial_correctness (motive := (L.z6i nz wz S0 w0 Lr)) ?_
 intro uzk uzl ⟨x1, x6v, x7, x19, x20⟩ r h S1 w1 hx gx6 uz0 ucg uch uz1 uz2 uz3 uz4 uz5 uz6 uz7 uz8 uz9 uza uzb uzc uzd uze uzf uzg uzh uzi uzj p1 ude u3d uzm uzn uzo uzp uzq uzr uzs uzt junk
 try dsimp only at h
 subst u3d
 subst uzn
 subst uzp
 subst uzr
 subst uzt
 refine Gn 5 [(21, .bool (decide (x20 < x19)))] J19u ?_
 refine Gi h (fun h21 h => ?_) fun h21 h => ?_
 ·
  rw [dt h21]
  refine Gm 14 [([22, 8, 25], .i x20), ([23], (pt gx6 0)), ([24], .string x1)] J19y ?_
  refine Gg h fun g22 h => ?_
  refine Gg h fun g23 h => ?_
  refine Op_.ixS 9 24 25 26 5 .i64 x1 x20 Xa (by kernel_rfl) (by kernel_rfl) (by kernel_rfl) g22 g23 ?_
  refine Gb h fun y24 e25 h => ?_
  refine Gc (kc 91 [23, 26] #[176, 5]) 27 4 91 _ (W.z6b x6v (bt x1 x20) y24 e25 _ _ _ _ _ _ _ _ _ _ _ _ _ _ _ _ _ _ _ _ _ _ _ p1 ude rfl uzm rfl uzo rfl uzq rfl uzs rfl) ?_
  rintro _ w4 ⟨S4, umk, uml, umm, umn, uuu, uuv, uuw, uux, uuy, uuz, uv0, uv1, rfl, z4, p4, umo, rfl, uv2, rfl, uv3, rfl⟩
  refine Gn 2 [(28, .bool (!y24.1))] J19x ?_
  refine Gi h (fun h29 h => ?_) fun h29 h => ?_
  ·
   rw [h29]
   refine Gm 8 [([30, 20], .i (wr .i64 (x20 + 1)))] J19s ?_
   have p4 := (((((((p4.fr 4).fr 4).fr 4).fr 7).fr 7).fr 7).fr 7).fr 7
   exact Gj 34 [(1, .string x1), (6, (pt gx6 0)), (7, .i x7), (19, .i x19), (20, .i (wr .i64 (x20 + 1)))] (uzl _ _ h _ _ (hx.t z4) _ _ _ _ _ _ _ _ _ _ _ _ _ _ _ _ _ _ _ _ _ _ _ p4 umo rfl uv2 rfl uv3 rfl (uzm.ext z4) rfl (uzo.ext z4) rfl)
  ·
   rw [bf h29]
   refine Gm 7 [([29, 5], .i x7), ([4], .bool false)] J19z ?_
   obtain rfl := sj h
   have p4 := (((((((p4.dp 0).dp 0).dp 0).dp 0).dp 0).dp 0).dp 0).dp 0
   exact Xc Tryz.f35 (.tuple #[.bool false, .i x7]) ⟨_, rfl, (hx.t z4), p4⟩
 ·
  rw [df h21]
  refine Gn 5 [(31, (pt gx6 0))] J1a1 ?_
  refine Gb h fun y30 e31 h => ?_
  refine Gc (kc 92 [31] #[176]) 32 4 92 _ (W.z6g x6v y30 e31 _ _ _ _ _ _ _ _ _ _ _ _ _ _ _ _ _ _ _ _ _ _ _ p1 ude rfl uzm rfl uzo rfl uzq rfl uzs rfl) ?_
  rintro _ w5 ⟨S5, rfl, z5, p5⟩
  have p5 := (((((((p5.dp 0).dp 0).dp 0).dp 0).dp 0).dp 0).dp 0).dp 0
  refine Gm 4 [([33, 5], .i x7), ([4], .bool y30)] J1a0 ?_
  obtain rfl := sj h
  exact Xc Tryz.f35 (.tuple #[.bool y30, .i x7]) ⟨_, rfl, (hx.t z5), p5⟩
def Post.z6j (r : Unit) (v : Value) (w' : World) : Prop :=
 ∃ S', v = .bool false ∧ Ext S0 w0 S' w' ∧ Hp nz wz S' w' (Lr)
theorem W.z6j (r : Unit) (h : M.a64 = some r) {nz wz S0 w0 Lr} (p0 : Hp nz wz S0 w0 (Lr)) :
  Calls Tg 152 #[.pointer none] w0 (Rets (Post.z6j nz wz S0 w0 Lr r)) := by
 refine Zf Tryz.f152 B152 11 ?_
 refine Gj 12 [(0, .pointer none)] fun junk => ?_
 delta M.a64 at h
 refine Gm 14 [([2, 4, 5], .bool false), ([3], .pointer none), ([6, 7, 8, 9, 10], undef)] (Zr Qx8 [8, 9] J15c) ?_
 refine Gm 3 [([11, 2], .bool false)] J15c ?_
 obtain rfl := sj h
 exact Xc Tryz.f152 (.bool false) ⟨_, rfl, (Xg S0 w0), p0⟩
def Post.z6k (r : Unit) (v : Value) (w' : World) : Prop :=
 ∃ S', v = .bool false ∧ Ext S0 w0 S' w' ∧ Hp nz wz S' w' (Lr)
theorem W.z6k (x1 : Int) (r : Unit) (h : M.a6f x1 = some r) {nz wz S0 w0 Lr} (p0 : Hp nz wz S0 w0 (Lr)) :
  Calls Tg 91 #[.pointer none, .int .u8 x1] w0 (Rets (Post.z6k nz wz S0 w0 Lr r)) := by
 refine Zf Tryz.f91 B91 40 ?_
 refine Gj 42 [(0, .pointer none), (1, .int .u8 x1)] fun junk => ?_
 delta M.a6f at h
 refine Gn 2 [] J18f ?_
 refine Ob 176 0 2 0 (.pointer none) [.pointer none] p0 Xa fun b1 w2 z2 p2 => ?_
 refine Gn 5 [(4, .bool false)] J18i ?_
 refine Xb 176 2 6 176 ⟨b1, 0, none⟩ (.pointer none) (p2.c 0 0) ?_
 refine Gb h fun y3 e4 h => ?_
 refine Gc (kc 152 [6] #[176]) 7 4 152 _ (W.z6j y3 e4  p2 ) ?_
 rintro _ w3 ⟨S3, rfl, z3, p3⟩
 refine Gn 7 [(8, .bool (!false)), (4, .bool false)] (Ys 110101 B91 J18g) ?_
 obtain rfl := sj h
 have p3 := p3.dp 0
 exact Xc Tryz.f91 (.bool false) ⟨_, rfl, (z2.t z3), p3⟩
def Post.z6l (r : Unit) (v : Value) (w' : World) : Prop :=
 ∃ S', v = .bool false ∧ Ext S0 w0 S' w' ∧ Hp nz wz S' w' (Lr)
theorem W.z6l (r : Unit) (h : M.a6g = some r) {nz wz S0 w0 Lr} (p0 : Hp nz wz S0 w0 (Lr)) :
  Calls Tg 92 #[.pointer none] w0 (Rets (Post.z6l nz wz S0 w0 Lr r)) := by
 refine Zf Tryz.f92 B92 14 ?_
 refine Gj 15 [(0, .pointer none)] fun junk => ?_
 delta M.a6g at h
 refine Gn 2 [] J19g ?_
 refine Ob 176 0 1 0 (.pointer none) [.pointer none] p0 Xa fun b1 w2 z2 p2 => ?_
 refine Gn 5 [(2, .bool false)] J19j ?_
 refine Xb 176 1 3 176 ⟨b1, 0, none⟩ (.pointer none) (p2.c 0 0) ?_
 refine Gb h fun y3 e4 h => ?_
 refine Gc (kc 152 [3] #[176]) 4 4 152 _ (W.z6j y3 e4  p2 ) ?_
 rintro _ w3 ⟨S3, rfl, z3, p3⟩
 refine Gn 7 [(5, .bool (!false)), (2, .bool false)] (Ys 110101 B92 J19h) ?_
 obtain rfl := sj h
 have p3 := p3.dp 0
 exact Xc Tryz.f92 (.bool false) ⟨_, rfl, (z2.t z3), p3⟩
def L.z6m : ByteArray × Int × Int × Int → (Bool × Int) → Prop := fun ⟨x1, x7, x19, x20⟩ r => ∀ S1 w1, Ext S0 w0 S1 w1 → ∀ (_ : Hp nz wz S1 w1 (Lr)) (junk : Nat → Value),
 Goes Tg (base 35) J19s ⟨lfr 34 [(1, .string x1), (6, .pointer none), (7, .i x7), (19, .i x19), (20, .i x20)] junk, []⟩ w1 (Done Tg 35 (Rets (Post.z6h nz wz S0 w0 Lr r)))
theorem W.z6m {nz wz S0 w0 Lr} : ∀ a r, M.a6h a = some r → L.z6m nz wz S0 w0 Lr a r := by
 intro ⟨x1, x7, x19, x20⟩ r h S1 w1 hx p1 junk
 rw [M.a6h] at h
 try dsimp only at h
 refine Gn 5 [(21, .bool (decide (x20 < x19)))] J19u ?_
 refine Gi h (fun h32 h => ?_) fun h32 h => ?_
 ·
  rw [dt h32]
  refine Gm 14 [([22, 8, 25], .i x20), ([23], .pointer none), ([24], .string x1)] J19y ?_
  refine Gg h fun g33 h => ?_
  refine Gg h fun g34 h => ?_
  refine Op_.ixS 9 24 25 26 5 .i64 x1 x20 Xa (by kernel_rfl) (by kernel_rfl) (by kernel_rfl) g33 g34 ?_
  refine Gb h fun y35 e36 h => ?_
  refine Gc (kc 91 [23, 26] #[176, 5]) 27 4 91 _ (W.z6k (bt x1 x20) y35 e36  p1 ) ?_
  rintro _ w6 ⟨S6, rfl, z6, p6⟩
  refine Gm 9 [([28], .bool (!false)), ([29, 5], .i x7), ([4], .bool false)] J19z ?_
  obtain rfl := sj h
  exact Xc Tryz.f35 (.tuple #[.bool false, .i x7]) ⟨_, rfl, (hx.t z6), p6⟩
 ·
  rw [df h32]
  refine Gn 5 [(31, .pointer none)] J1a1 ?_
  refine Gb h fun y37 e38 h => ?_
  refine Gc (kc 92 [31] #[176]) 32 4 92 _ (W.z6l y37 e38  p1 ) ?_
  rintro _ w7 ⟨S7, rfl, z7, p7⟩
  refine Gm 4 [([33, 5], .i x7), ([4], .bool false)] J1a0 ?_
  obtain rfl := sj h
  exact Xc Tryz.f35 (.tuple #[.bool false, .i x7]) ⟨_, rfl, (hx.t z7), p7⟩
def J1a7 := Ys 1111 B35 []
def J1a8 := Ys 11101 B35 J1a7
def J1a9 := Ys 1110101 B35 J1a7
theorem W.z6h (x0 : List T174) (x1 : ByteArray) (r : Bool × Int) (h : M.a4h x0 x1 = some r) {nz wz S0 w0 Lr} (Ax0 nx0 cx0) (p0 : Hp nz wz S0 w0 (Lr)) (fx0 : Rd kT174 S0 w0 Ax0 cx0 x0) (lx0 : x0.length = nx0) :
  Calls Tg 35 #[.slice Ax0 nx0 cx0, .string x1] w0 (Rets (Post.z6h nz wz S0 w0 Lr r)) := by
 subst lx0
 refine Zf Tryz.f35 B35 32 ?_
 refine Gj 34 [(0, .slice Ax0 x0.length cx0), (1, .string x1)] fun junk => ?_
 delta M.a4h at h
 refine Gn 9 [(4, .bool false), (5, .i 0), (10, .slice Ax0 x0.length cx0), (11, .string x1)] (Yt 110 B35 [2, 3, 4, 5, 6, 7] (Ys 111 B35 [])) ?_
 refine Gb h fun y1 e2 h => ?_
 rcases y1 with usc | usd
 ·
  try dsimp only at h
  refine Gc (kc 90 [10, 11] #[77, 9]) 12 177 90 _ (W.z61 x0 x1 (Sum.inl usc) e2 _ _ _ p0 fx0 rfl) ?_
  rintro _ w2 ⟨S2, use, usf, usg, ush, usi, usj, usk, usl, usm, usn, uso, usp, usq, usr, uss, ust, usu, usv, usw, usx, usy, usz, ut0, rfl, z2, p2, ut1, rfl, ut2, rfl, ut3, rfl, ut4, rfl, ut5, rfl⟩
  refine Gm 12 [([9], .tuple #[(pt use 0), .i usc.2]), ([13, 6], (pt use 0)), ([14, 7, 15], .i usc.2), ([16], .bool (!(decide (usc.2 = 0))))] J1a8 ?_
  refine Gi h (fun h11 h => ?_) fun h11 h => ?_
  ·
   rw [dt h11]
   refine Gn 11 [(18, .string x1), (19, .i (x1.size : Int)), (20, .i 0)] J19s ?_
   exact Gj 34 [(1, .string x1), (6, (pt use 0)), (7, .i usc.2), (19, .i (x1.size : Int)), (20, .i 0)] (W.z6i _ _ h _ _ z2 _ _ _ _ _ _ _ _ _ _ _ _ _ _ _ _ _ _ _ _ _ _ _ p2 ut1 rfl ut2 rfl ut3 rfl ut4 rfl ut5 rfl)
  ·
   rw [df h11]
   refine Gm 7 [([17, 5], .i usc.2), ([4], .bool false)] J1a9 ?_
   obtain rfl := sj h
   have p2 := (((((((p2.dp 0).dp 0).dp 0).dp 0).dp 0).dp 0).dp 0).dp 0
   exact Xc Tryz.f35 (.tuple #[.bool false, .i usc.2]) ⟨_, rfl, z2, p2⟩
 ·
  try dsimp only at h
  refine Gc (kc 90 [10, 11] #[77, 9]) 12 177 90 _ (W.z61 x0 x1 (Sum.inr usd) e2 _ _ _ p0 fx0 rfl) ?_
  rintro _ w3 ⟨S3, rfl, z3, p3⟩
  refine Gm 12 [([9], .tuple #[.pointer none, .i usd]), ([13, 6], .pointer none), ([14, 7, 15], .i usd), ([16], .bool (!(decide (usd = 0))))] J1a8 ?_
  refine Gi h (fun h20 h => ?_) fun h20 h => ?_
  ·
   rw [dt h20]
   refine Gn 11 [(18, .string x1), (19, .i (x1.size : Int)), (20, .i 0)] J19s ?_
   exact Gj 34 [(1, .string x1), (6, .pointer none), (7, .i usd), (19, .i (x1.size : Int)), (20, .i 0)] (W.z6m _ _ h _ _ z3 p3)
  ·
   rw [df h20]
   refine Gm 7 [([17, 5], .i usd), ([4], .bool false)] J1a9 ?_
   obtain rfl := sj h
   exact Xc Tryz.f35 (.tuple #[.bool false, .i usd]) ⟨_, rfl, z3, p3⟩
def Post.z6n (r : Bool) (v : Value) (w' : World) : Prop :=
 ∃ S', v = .bool r ∧ Ext S0 w0 S' w' ∧ Hp nz wz S' w' (Lr)
theorem W.z6n (x0 : ByteArray) (r : Bool) (h : M.a5c x0 = some r) {nz wz S0 w0 Lr} (p0 : Hp nz wz S0 w0 (Lr)) :
  Calls Tg 250 #[.string x0] w0 (Rets (Post.z6n nz wz S0 w0 Lr r)) := by
 refine Zf Tryz.f250 B250 5 ?_
 refine Gj 6 [(0, .string x0)] fun junk => ?_
 delta M.a5c at h
 refine Gm 11 [([2, 5], .bool (!(x0.toList == x0.toList))), ([3, 4], .string x0)] (Ys 111 B250 []) ?_
 obtain rfl := sj h
 exact Xc Tryz.f250 (.bool (!(x0.toList == x0.toList))) ⟨_, rfl, (Xg S0 w0), p0⟩
def J1ab := Ys 111 B201 []
def Q10y := Yq 110 B201
def Post.z6o (r : Bool) (v : Value) (w' : World) : Prop :=
 ∃ S', v = .bool r ∧ Ext S0 w0 S' w' ∧ Hp nz wz S' w' (Lr)
theorem W.z6o (x0 : ByteArray) (x1 : ByteArray) (r : Bool) (h : M.a5d x0 x1 = some r) {nz wz S0 w0 Lr} (p0 : Hp nz wz S0 w0 (Lr)) :
  Calls Tg 201 #[.string x0, .string x1] w0 (Rets (Post.z6o nz wz S0 w0 Lr r)) := by
 refine Zf Tryz.f201 B201 15 ?_
 refine Gj 17 [(0, .string x0), (1, .string x1)] fun junk => ?_
 delta M.a5d at h
 refine Gn 7 [(4, .bool false), (5, .string x0)] (Zr Q10y [1, 2, 3, 4, 5, 6, 7, 8, 9, 10, 11, 12] J1ab) ?_
 refine Gb h fun y1 e2 h => ?_
 refine Gc (kc 250 [5] #[9]) 6 4 250 _ (W.z6n x0 y1 e2  p0 ) ?_
 rintro _ w2 ⟨S2, rfl, z2, p2⟩
 refine Gn 1 [(7, .bool y1)] (Zr Q10y [3, 4, 5, 6, 7, 8, 9, 10, 11, 12] J1ab) ?_
 refine Gi h (fun h3 h => ?_) fun h3 h => ?_
 ·
  rw [h3]
  refine Gn 1 [(8, .string x1)] (Zr Q10y [4, 5, 6, 7, 8, 9, 10, 11, 12] J1ab) ?_
  refine Gb h fun y4 e5 h => ?_
  refine Gc (kc 250 [8] #[9]) 9 4 250 _ (W.z6n x1 y4 e5  p2 ) ?_
  rintro _ w3 ⟨S3, rfl, z3, p3⟩
  refine Gm 3 [([10, 11, 12], .bool (!y4))] (Zr Q10y [8, 9, 10, 11, 12] J1ab) ?_
  refine Gi h (fun h6 h => ?_) fun h6 h => ?_
  ·
   rw [h6]
   refine Gm 6 [([13], .string x0), ([14], .string x1), ([15, 16, 4], .bool (Op.bytesLess x0.toList x1.toList))] J1ab ?_
   obtain rfl := sj h
   exact Xc Tryz.f201 (.bool (Op.bytesLess x0.toList x1.toList)) ⟨_, rfl, (z2.t z3), p3⟩
  ·
   rw [bf h6]
   refine Gm 6 [([13, 14, 15], undef), ([16, 4], .bool true)] J1ab ?_
   obtain rfl := sj h
   exact Xc Tryz.f201 (.bool true) ⟨_, rfl, (z2.t z3), p3⟩
 ·
  rw [bf h3]
  refine Gm 11 [([8, 9, 10], undef), ([11, 12], .bool false), ([13], .string x0), ([14], .string x1), ([15, 16, 4], .bool (Op.bytesLess x0.toList x1.toList))] J1ab ?_
  obtain rfl := sj h
  exact Xc Tryz.f201 (.bool (Op.bytesLess x0.toList x1.toList)) ⟨_, rfl, z2, p2⟩
def Post.z6p (r : Bool) (v : Value) (w' : World) : Prop :=
 ∃ S', v = .bool r ∧ Ext S0 w0 S' w' ∧ Hp nz wz S' w' (Lr)
theorem W.z6p (x0 : ByteArray) (r : Bool) (h : M.a5e x0 = some r) {nz wz S0 w0 Lr} (p0 : Hp nz wz S0 w0 (Lr)) :
  Calls Tg 202 #[.string x0] w0 (Rets (Post.z6p nz wz S0 w0 Lr r)) := by
 refine Zf Tryz.f202 B202 5 ?_
 refine Gj 6 [(0, .string x0)] fun junk => ?_
 delta M.a5e at h
 refine Gm 11 [([2, 5], .bool (!(x0.toList == x0.toList))), ([3, 4], .string x0)] (Ys 111 B202 []) ?_
 obtain rfl := sj h
 exact Xc Tryz.f202 (.bool (!(x0.toList == x0.toList))) ⟨_, rfl, (Xg S0 w0), p0⟩
def Q111 := Yq 1111000 B137
def J1aj := Zl Q111 (Zb 0 (Ys 11111 B137 []))
def J1ak := Zc Q111 J1aj
def J1al := Zb 1 J1aj
def J1ao := Ys 11110001011 B137 J1al
def Q115 := Yq 11110001010 B137
def J1as := Ys 111111 B137 []
def Q117 := Yq 111110 B137
def J1ay := Zr Q117 [19, 20, 21, 22, 23, 24] J1as
def Post.z6q (r : Int × Bool) (v : Value) (w' : World) : Prop :=
 ∃ S', v = .tuple #[.i r.1, .bool r.2] ∧ Ext S0 w0 S' w' ∧ Hp nz wz S' w' (Lr)
def L.z6r : (List ByteArray) × ByteArray × Int × Int × Int → (Int × Bool) → Prop := fun ⟨x0, x1, x6, x7, x8⟩ r => ∀ S1 w1, Ext S0 w0 S1 w1 → ∀ Ax0 nx0 cx0 (_ : Hp nz wz S1 w1 (Lr)) (_ : Rd kStr S1 w1 Ax0 cx0 x0) (_ : x0.length = nx0) (junk : Nat → Value),
 Goes Tg (base 137) J1ak ⟨lfr 54 [(0, .slice Ax0 nx0 cx0), (1, .string x1), (6, .i x6), (7, .i x7), (8, .i x8)] junk, []⟩ w1 (Done Tg 137 (Rets (Post.z6q nz wz S0 w0 Lr r)))
def L.z6s : (List ByteArray) × ByteArray × Int × Int × Int → (Int × Bool) → Prop := fun ⟨x0, x1, x6, x7, x8⟩ r => ∀ S1 w1, Ext S0 w0 S1 w1 → ∀ Ax0 nx0 cx0 (_ : Hp nz wz S1 w1 (Lr)) (_ : Rd kStr S1 w1 Ax0 cx0 x0) (_ : x0.length = nx0) (junk : Nat → Value),
 Goes Tg (base 137) J1al ⟨lfr 54 [(0, .slice Ax0 nx0 cx0), (1, .string x1), (6, .i x6), (7, .i x7), (8, .i x8)] junk, []⟩ w1 (Done Tg 137 (Rets (Post.z6q nz wz S0 w0 Lr r)))
theorem W.z6t {nz wz S0 w0 Lr} : (∀ a r, M.a2o a = some r → (L.z6r nz wz S0 w0 Lr) a r) ∧ (∀ a r, M.a4i a = some r → (L.z6s nz wz S0 w0 Lr) a r) := by
 refine M.a2o.mutual_partial_correctness (L.z6r nz wz S0 w0 Lr) (L.z6s nz wz S0 w0 Lr) ?_ ?_
 ·
  intro uzu uzv ⟨x0, x1, x6, x7, x8⟩ r h S1 w1 hx Ax0 nx0 cx0 p1 fx0 lx0 junk
  try dsimp only at h
  subst lx0
  refine Gn 7 [(13, .i x7), (14, .i x8), (15, .bool (decide (x7 < x8)))] (Ys 111100001 B137 (Ys 11110001 B137 J1aj)) ?_
  refine Gi h (fun h1 h => ?_) fun h1 h => ?_
  ·
   rw [dt h1]
   refine Gm 14 [([16], .i x7), ([17], .i x8), ([18], .i (wr .i64 (x7 + x8))), ([19], .u (wr .u64 (wr .i64 (x7 + x8)))), ([20], .u (ishr .u64 (wr .u64 (wr .i64 (x7 + x8))) 1)), ([21, 9], .i (wr .i64 (ishr .u64 (wr .u64 (wr .i64 (x7 + x8))) 1)))] (Zc Q115 J1ao) ?_
   refine Gn 3 [(22, .slice Ax0 x0.length cx0), (23, .i (wr .i64 (ishr .u64 (wr .u64 (wr .i64 (x7 + x8))) 1)))] (Zr Q115 [2, 3, 4, 5] J1ao) ?_
   refine Gg h fun g2 h => ?_
   refine Gg h fun g3 h => ?_
   refine Gl h fun v7 e8 h => ?_
   refine Oi 43 22 23 24 0 9 .i64 (wr .i64 (ishr .u64 (wr .u64 (wr .i64 (x7 + x8))) 1)) v7 rfl e8 fx0 Xa g2 g3 fun a4 _ f5 q6 => ?_
   obtain rfl := q6
   refine Xb 9 24 25 9 a4 (.string v7) (f5.cell 0 _ rfl) ?_
   refine Gn 1 [(26, .string x1)] (Zr Q115 [5] J1ao) ?_
   refine Gb h fun y9 e10 h => ?_
   refine Gc (kc 201 [25, 26] #[9, 9]) 27 4 201 _ (W.z6o v7 x1 y9 e10  p1 ) ?_
   rintro _ w2 ⟨S2, rfl, z2, p2⟩
   refine Gn 1 [] J1ao ?_
   refine Gi h (fun h11 h => ?_) fun h11 h => ?_
   ·
    rw [h11]
    refine Gm 6 [([28], .i (wr .i64 (ishr .u64 (wr .u64 (wr .i64 (x7 + x8))) 1))), ([29, 7], .i (wr .i64 ((wr .i64 (ishr .u64 (wr .u64 (wr .i64 (x7 + x8))) 1)) + 1)))] J1al ?_
    exact Gj 54 [(0, .slice Ax0 x0.length cx0), (1, .string x1), (6, .i x6), (7, .i (wr .i64 ((wr .i64 (ishr .u64 (wr .u64 (wr .i64 (x7 + x8))) 1)) + 1))), (8, .i x8)] (uzv _ _ h _ _ (hx.t z2) _ _ _ p2 (fx0.ext z2) rfl)
   ·
    rw [bf h11]
    refine Gm 5 [([30, 8], .i (wr .i64 (ishr .u64 (wr .u64 (wr .i64 (x7 + x8))) 1)))] J1al ?_
    exact Gj 54 [(0, .slice Ax0 x0.length cx0), (1, .string x1), (6, .i x6), (7, .i x7), (8, .i (wr .i64 (ishr .u64 (wr .u64 (wr .i64 (x7 + x8))) 1)))] (uzv _ _ h _ _ (hx.t z2) _ _ _ p2 (fx0.ext z2) rfl)
  ·
   rw [df h1]
   refine Gm 9 [([31, 32], .i x7), ([33], .i x6), ([34, 35], .bool (decide (x7 < x6)))] (Zr Q117 [5, 6, 7, 8, 9, 10, 11, 12, 13, 14, 15, 16, 17, 18, 19, 20, 21, 22, 23, 24] J1as) ?_
   refine Gi h (fun h12 h => ?_) fun h12 h => ?_
   ·
    rw [dt h12]
    refine Gn 2 [(36, .slice Ax0 x0.length cx0), (37, .i x7)] (Zr Q117 [7, 8, 9, 10, 11, 12, 13, 14, 15, 16, 17, 18, 19, 20, 21, 22, 23, 24] J1as) ?_
    refine Gg h fun g13 h => ?_
    refine Gg h fun g14 h => ?_
    refine Oi 43 36 37 38 0 9 .i64 x7 (gi x0 x7) rfl rfl fx0 Xa g13 g14 fun a15 _ f16 q17 => ?_
    obtain rfl := q17
    refine Xb 9 38 39 9 a15 (.string (gi x0 x7)) (f16.cell 0 _ rfl) ?_
    refine Gm 3 [([40], .string x1), ([41, 42], .bool ((gi x0 x7).toList == x1.toList))] (Zr Q117 [12, 13, 14, 15, 16, 17, 18, 19, 20, 21, 22, 23, 24] J1as) ?_
    refine Gi h (fun h18 h => ?_) fun h18 h => ?_
    ·
     rw [h18]
     refine Gm 14 [([43, 44, 45, 46, 47, 48, 49, 50, 51], undef), ([52, 53, 5], .bool true), ([4], .i x7)] J1as ?_
     obtain rfl := sj h
     exact Xc Tryz.f137 (.tuple #[.i x7, .bool true]) ⟨_, rfl, hx, p1⟩
    ·
     rw [bf h18]
     refine Gn 2 [(43, .slice Ax0 x0.length cx0), (44, .i x7)] (Zr Q117 [14, 15, 16, 17, 18, 19, 20, 21, 22, 23, 24] J1as) ?_
     refine Oi 43 43 44 45 0 9 .i64 x7 (gi x0 x7) rfl rfl fx0 Xa g13 g14 fun a19 _ f20 q21 => ?_
     obtain rfl := q21
     refine Xb 9 45 46 9 a19 (.string (gi x0 x7)) (f20.cell 0 _ rfl) ?_
     refine Gb h fun y22 e23 h => ?_
     refine Gc (kc 202 [46] #[9]) 47 4 202 _ (W.z6p (gi x0 x7) y22 e23  p1 ) ?_
     rintro _ w3 ⟨S3, rfl, z3, p3⟩
     refine Gn 1 [(48, .bool y22)] (Zr Q117 [18, 19, 20, 21, 22, 23, 24] J1as) ?_
     refine Gi h (fun h24 h => ?_) fun h24 h => ?_
     ·
      rw [h24]
      refine Gn 1 [(49, .string x1)] J1ay ?_
      refine Gb h fun y25 e26 h => ?_
      refine Gc (kc 202 [49] #[9]) 50 4 202 _ (W.z6p x1 y25 e26  p3 ) ?_
      rintro _ w4 ⟨S4, rfl, z4, p4⟩
      refine Gm 6 [([51, 52, 53, 5], .bool y25), ([4], .i x7)] J1as ?_
      obtain rfl := sj h
      exact Xc Tryz.f137 (.tuple #[.i x7, .bool y25]) ⟨_, rfl, ((hx.t z3).t z4), p4⟩
     ·
      rw [bf h24]
      refine Gm 8 [([49, 50], undef), ([51, 52, 53, 5], .bool false), ([4], .i x7)] J1as ?_
      obtain rfl := sj h
      exact Xc Tryz.f137 (.tuple #[.i x7, .bool false]) ⟨_, rfl, (hx.t z3), p3⟩
   ·
    rw [df h12]
    refine Gm 14 [([36, 37, 38, 39, 40, 41, 42, 43, 44, 45, 46, 47, 48, 49], undef)] J1ay ?_
    refine Gm 7 [([50, 51, 52], undef), ([53, 5], .bool false), ([4], .i x7)] J1as ?_
    obtain rfl := sj h
    exact Xc Tryz.f137 (.tuple #[.i x7, .bool false]) ⟨_, rfl, hx, p1⟩
 ·
  intro uzw uzx ⟨x0, x1, x6, x7, x8⟩ r h S1 w1 hx Ax0 nx0 cx0 p1 fx0 lx0 junk
  try dsimp only at h
  subst lx0
  refine Gn 2 [] J1ak ?_
  exact Gj 54 [(0, .slice Ax0 x0.length cx0), (1, .string x1), (6, .i x6), (7, .i x7), (8, .i x8)] (uzx _ _ h _ _ hx _ _ _ p1 fx0 rfl)
theorem W.z6r {nz wz S0 w0 Lr} : ∀ a r, M.a2o a = some r → (L.z6r nz wz S0 w0 Lr) a r := (W.z6t).1
theorem W.z6s {nz wz S0 w0 Lr} : ∀ a r, M.a4i a = some r → (L.z6s nz wz S0 w0 Lr) a r := (W.z6t).2
theorem W.z6q (x0 : List ByteArray) (x1 : ByteArray) (r : Int × Bool) (h : M.a5f x0 x1 = some r) {nz wz S0 w0 Lr} (Ax0 nx0 cx0) (p0 : Hp nz wz S0 w0 (Lr)) (fx0 : Rd kStr S0 w0 Ax0 cx0 x0) (lx0 : x0.length = nx0) :
  Calls Tg 137 #[.slice Ax0 nx0 cx0, .string x1] w0 (Rets (Post.z6q nz wz S0 w0 Lr r)) := by
 subst lx0
 refine Zf Tryz.f137 B137 52 ?_
 refine Gj 54 [(0, .slice Ax0 x0.length cx0), (1, .string x1)] fun junk => ?_
 delta M.a5f at h
 refine Gm 14 [([4], .i 0), ([5], .bool false), ([10], .slice Ax0 x0.length cx0), ([11, 6, 12], .i (x0.length : Int))] (Yt 1110 B137 [1, 2] (Ys 1111 B137 [])) ?_
 refine Gn 6 [(7, .i 0), (8, .i (x0.length : Int))] J1ak ?_
 exact Gj 54 [(0, .slice Ax0 x0.length cx0), (1, .string x1), (6, .i (x0.length : Int)), (7, .i 0), (8, .i (x0.length : Int))] (W.z6r _ _ h _ _ (Xg S0 w0) _ _ _ p0 fx0 rfl)
def J1b5 := Ys 1111 B74 []
def J1b8 := Zb 0 J1b5
def J1ba := Ys 111010101 B74 J1b8
def Q11j := Yq 111010100 B74
def J1bf := Ys 11101011101 B74 J1b8
def Q11n := Yq 11101011100 B74
def J1bj := Ys 1110101111101 B74 J1b8
def J1bl := Ys 11111 B74 []
def J1bp := Ys 111 B136 []
def J1bt := Ys 111 B138 []
def Post.z6u (r : Bool) (v : Value) (w' : World) : Prop :=
 ∃ S', v = .bool r ∧ Ext S0 w0 S' w' ∧ Hp nz wz S' w' (Lr)
def Post.z6v (uf1 : Nat) (uzy : Nat) (uzz : Option Addr) (u100 : Nat) (u101 : Nat) (u102 : List ByteArray) (r : Bool) (v : Value) (w' : World) : Prop :=
 ∃ S', v = .bool r ∧ Ext S0 w0 S' w' ∧ Hp nz wz S' w' ((some uf1, .row 232 [.func (.func 136) #[] #[(pt uzy 0)]] 1 0) :: (some uzy, .row 43 [.slice uzz u100 u101] 1 0) :: Lr)
def Post.z6w (uf1 : Nat) (uzy : Nat) (uzz : Option Addr) (u100 : Nat) (u101 : Nat) (u102 : List ByteArray) (r : Int) (v : Value) (w' : World) : Prop :=
 ∃ S', v = .i r ∧ Ext S0 w0 S' w' ∧ Hp nz wz S' w' ((some uf1, .row 232 [.func (.func 136) #[] #[(pt uzy 0)]] 1 0) :: (some uzy, .row 43 [.slice uzz u100 u101] 1 0) :: Lr)
def Post.z6x (gx1 : Nat) (u103 : Nat) (u104 : Option Addr) (u105 : Nat) (u106 : Nat) (u107 : List ByteArray) (r : Bool) (v : Value) (w' : World) : Prop :=
 ∃ S', v = .bool r ∧ Ext S0 w0 S' w' ∧ Hp nz wz S' w' ((some gx1, .row 232 [.func (.func 136) #[] #[(pt u103 0)]] 1 0) :: (some u103, .row 43 [.slice u104 u105 u106] 1 0) :: Lr)
def Post.z6y (gx1 : Nat) (u108 : Option Addr) (um0 : Nat) (um1 : Nat) (uly : List ByteArray) (r : Bool) (v : Value) (w' : World) : Prop :=
 ∃ S', v = .bool r ∧ Ext S0 w0 S' w' ∧ Hp nz wz S' w' ((some gx1, .row 43 [.slice u108 um0 um1] 1 0) :: Lr)
def Post.z6z (uf1 : Nat) (u109 : Option Addr) (u10a : Nat) (u10b : Nat) (uf2 : List ByteArray) (r : Bool) (v : Value) (w' : World) : Prop :=
 ∃ S', v = .bool r ∧ Ext S0 w0 S' w' ∧ Hp nz wz S' w' ((some uf1, .row 43 [.slice u109 u10a u10b] 1 0) :: Lr)
def Post.z70 (uf1 : Nat) (u109 : Option Addr) (u10a : Nat) (u10b : Nat) (uf2 : List ByteArray) (r : Int) (v : Value) (w' : World) : Prop :=
 ∃ S', v = .i r ∧ Ext S0 w0 S' w' ∧ Hp nz wz S' w' ((some uf1, .row 43 [.slice u109 u10a u10b] 1 0) :: Lr)
def LF.z6u : T29 × (List ByteArray) → Bool → Prop := fun ⟨x0, x1⟩ r => ∀ {nz wz S0 w0 Lr} u92 u93 u94 Ax1 nx1 cx1 (_ : Hp nz wz S0 w0 (Lr)) (_ : Rd kT29 S0 w0 u92 u94 x0.L) (_ : x0.L.length = u93) (_ : Rd kStr S0 w0 Ax1 cx1 x1) (_ : x1.length = nx1),
 Calls Tg 74 #[(ag (vT29 x0 u92 u93 u94)), .slice Ax1 nx1 cx1] w0 (Rets (Post.z6u nz wz S0 w0 Lr r))
def LF.z6v : (List T29) × (List ByteArray) → Bool → Prop := fun ⟨x0, u102⟩ r => ∀ {nz wz S0 w0 Lr} Ax0 nx0 cx0 uf1 uzy uzz u100 u101 (_ : Hp nz wz S0 w0 ((some uf1, .row 232 [.func (.func 136) #[] #[(pt uzy 0)]] 1 0) :: (some uzy, .row 43 [.slice uzz u100 u101] 1 0) :: Lr)) (_ : Rd kT29 S0 w0 Ax0 cx0 x0) (_ : x0.length = nx0) (_ : Rd kStr S0 w0 uzz u101 u102) (_ : u102.length = u100),
 Calls Tg 128 #[.slice Ax0 nx0 cx0, .func (.func 138) #[] #[(pt uf1 0)]] w0 (Rets (Post.z6v nz wz S0 w0 Lr uf1 uzy uzz u100 u101 u102 r))
def LF.z6w : (List T29) × (List ByteArray) → Int → Prop := fun ⟨x0, u102⟩ r => ∀ {nz wz S0 w0 Lr} Ax0 nx0 cx0 uf1 uzy uzz u100 u101 (_ : Hp nz wz S0 w0 ((some uf1, .row 232 [.func (.func 136) #[] #[(pt uzy 0)]] 1 0) :: (some uzy, .row 43 [.slice uzz u100 u101] 1 0) :: Lr)) (_ : Rd kT29 S0 w0 Ax0 cx0 x0) (_ : x0.length = nx0) (_ : Rd kStr S0 w0 uzz u101 u102) (_ : u102.length = u100),
 Calls Tg 195 #[.slice Ax0 nx0 cx0, .func (.func 138) #[] #[(pt uf1 0)]] w0 (Rets (Post.z6w nz wz S0 w0 Lr uf1 uzy uzz u100 u101 u102 r))
def L.z71 (uf1 : Nat) (uzy : Nat) (uzz : Option Addr) (u100 : Nat) (u101 : Nat) : (List T29) × Int × Int × (List ByteArray) → Int → Prop := fun ⟨x0, x7, x8, u102⟩ r => ∀ S1 w1, Ext S0 w0 S1 w1 → ∀ Ax0 nx0 cx0 (_ : Hp nz wz S1 w1 ((some uf1, .row 232 [.func (.func 136) #[] #[(pt uzy 0)]] 1 0) :: (some uzy, .row 43 [.slice uzz u100 u101] 1 0) :: Lr)) (_ : Rd kT29 S1 w1 Ax0 cx0 x0) (_ : x0.length = nx0) (_ : Rd kStr S1 w1 uzz u101 u102) (_ : u102.length = u100) (junk : Nat → Value),
 Goes Tg (base 195) Joj ⟨lfr 19 [(0, .slice Ax0 nx0 cx0), (1, .func (.func 138) #[] #[(pt uf1 0)]), (7, .i x7), (8, .i x8)] junk, []⟩ w1 (Done Tg 195 (Rets (Post.z6w nz wz S0 w0 Lr uf1 uzy uzz u100 u101 u102 r)))
def LL.z71 : (List T29) × Int × Int × (List ByteArray) → Int → Prop := fun a r => ∀ {nz wz S0 w0 Lr} (uf1 : Nat) (uzy : Nat) (uzz : Option Addr) (u100 : Nat) (u101 : Nat), L.z71 nz wz S0 w0 Lr uf1 uzy uzz u100 u101 a r
def LF.z6x : T29 × (List ByteArray) → Bool → Prop := fun ⟨x0, u107⟩ r => ∀ {nz wz S0 w0 Lr} u92 u93 u94 gx1 u103 u104 u105 u106 (_ : Hp nz wz S0 w0 ((some gx1, .row 232 [.func (.func 136) #[] #[(pt u103 0)]] 1 0) :: (some u103, .row 43 [.slice u104 u105 u106] 1 0) :: Lr)) (_ : Rd kT29 S0 w0 u92 u94 x0.L) (_ : x0.L.length = u93) (_ : Rd kStr S0 w0 u104 u106 u107) (_ : u107.length = u105),
 Calls Tg 138 #[(ag (vT29 x0 u92 u93 u94)), (pt gx1 0)] w0 (Rets (Post.z6x nz wz S0 w0 Lr gx1 u103 u104 u105 u106 u107 r))
def LF.z6y : T29 × (List ByteArray) → Bool → Prop := fun ⟨x0, uly⟩ r => ∀ {nz wz S0 w0 Lr} u92 u93 u94 gx1 u108 um0 um1 (_ : Hp nz wz S0 w0 ((some gx1, .row 43 [.slice u108 um0 um1] 1 0) :: Lr)) (_ : Rd kT29 S0 w0 u92 u94 x0.L) (_ : x0.L.length = u93) (_ : Rd kStr S0 w0 u108 um1 uly) (_ : uly.length = um0),
 Calls Tg 136 #[(ag (vT29 x0 u92 u93 u94)), (pt gx1 0)] w0 (Rets (Post.z6y nz wz S0 w0 Lr gx1 u108 um0 um1 uly r))
def LF.z6z : (List T29) × (List ByteArray) → Bool → Prop := fun ⟨x0, uf2⟩ r => ∀ {nz wz S0 w0 Lr} Ax0 nx0 cx0 uf1 u109 u10a u10b (_ : Hp nz wz S0 w0 ((some uf1, .row 43 [.slice u109 u10a u10b] 1 0) :: Lr)) (_ : Rd kT29 S0 w0 Ax0 cx0 x0) (_ : x0.length = nx0) (_ : Rd kStr S0 w0 u109 u10b uf2) (_ : uf2.length = u10a),
 Calls Tg 128 #[.slice Ax0 nx0 cx0, .func (.func 136) #[] #[(pt uf1 0)]] w0 (Rets (Post.z6z nz wz S0 w0 Lr uf1 u109 u10a u10b uf2 r))
def LF.z70 : (List T29) × (List ByteArray) → Int → Prop := fun ⟨x0, uf2⟩ r => ∀ {nz wz S0 w0 Lr} Ax0 nx0 cx0 uf1 u109 u10a u10b (_ : Hp nz wz S0 w0 ((some uf1, .row 43 [.slice u109 u10a u10b] 1 0) :: Lr)) (_ : Rd kT29 S0 w0 Ax0 cx0 x0) (_ : x0.length = nx0) (_ : Rd kStr S0 w0 u109 u10b uf2) (_ : uf2.length = u10a),
 Calls Tg 195 #[.slice Ax0 nx0 cx0, .func (.func 136) #[] #[(pt uf1 0)]] w0 (Rets (Post.z70 nz wz S0 w0 Lr uf1 u109 u10a u10b uf2 r))
def L.z72 (uf1 : Nat) (u109 : Option Addr) (u10a : Nat) (u10b : Nat) : (List T29) × Int × Int × (List ByteArray) → Int → Prop := fun ⟨x0, x7, x8, uf2⟩ r => ∀ S1 w1, Ext S0 w0 S1 w1 → ∀ Ax0 nx0 cx0 (_ : Hp nz wz S1 w1 ((some uf1, .row 43 [.slice u109 u10a u10b] 1 0) :: Lr)) (_ : Rd kT29 S1 w1 Ax0 cx0 x0) (_ : x0.length = nx0) (_ : Rd kStr S1 w1 u109 u10b uf2) (_ : uf2.length = u10a) (junk : Nat → Value),
 Goes Tg (base 195) Joj ⟨lfr 19 [(0, .slice Ax0 nx0 cx0), (1, .func (.func 136) #[] #[(pt uf1 0)]), (7, .i x7), (8, .i x8)] junk, []⟩ w1 (Done Tg 195 (Rets (Post.z70 nz wz S0 w0 Lr uf1 u109 u10a u10b uf2 r)))
def LL.z72 : (List T29) × Int × Int × (List ByteArray) → Int → Prop := fun a r => ∀ {nz wz S0 w0 Lr} (uf1 : Nat) (u109 : Option Addr) (u10a : Nat) (u10b : Nat), L.z72 nz wz S0 w0 Lr uf1 u109 u10a u10b a r
theorem W.z73 : (∀ a r, M.a2p a = some r → LF.z6u a r) ∧ (∀ a r, M.a66 a = some r → LF.z6z a r) ∧ (∀ a r, M.a69 a = some r → LF.z70 a r) ∧ (∀ a r, M.a2r a = some r → LL.z72 a r) ∧ (∀ a r, M.a4j a = some r → LF.z6y a r) ∧ (∀ a r, M.a65 a = some r → LF.z6v a r) ∧ (∀ a r, M.a67 a = some r → LF.z6w a r) ∧ (∀ a r, M.a2q a = some r → LL.z71 a r) ∧ (∀ a r, M.a68 a = some r → LF.z6x a r) := by
 refine M.a2p.mutual_partial_correctness LF.z6u LF.z6z LF.z70 LL.z72 LF.z6y LF.z6v LF.z6w LL.z71 LF.z6x ?_ ?_ ?_ ?_ ?_ ?_ ?_ ?_ ?_
 ·
  intro u10c u10d u10e u10f ⟨x0, x1⟩ r h nz wz S0 w0 Lr u92 u93 u94 Ax1 nx1 cx1 p0 u9f u9g fx1 lx1
  try dsimp only at h
  subst u9g
  subst lx1
  refine Zf Tryz.f74 B74 35 ?_
  refine Gj 37 [(0, (ag (vT29 x0 u92 x0.L.length u94))), (1, .slice Ax1 x1.length cx1)] fun junk => ?_
  refine Gn 2 [] (Yt 10 B74 [0, 1, 2] (Ys 11 B74 [])) ?_
  refine Ob 30 0 2 0 (ag (vT29 x0 u92 x0.L.length u94)) (vT29 x0 u92 x0.L.length u94) p0 Xa fun b1 w2 z2 p2 => ?_
  refine Ob 43 1 3 0 (.slice Ax1 x1.length cx1) [.slice Ax1 x1.length cx1] p2 Xa fun b3 w3 z3 p3 => ?_
  refine Gn 5 [(4, .bool false), (8, .func (.func 136) #[] #[(pt b3 0)])] (Yt 110 B74 [1, 2] (Ys 111 B74 [])) ?_
  refine Oa 232 5 0 (.nilFunc) [.nilFunc] p3 Xa fun b5 w4 z4 p4 => ?_
  refine So 232 5 8 0 0 b5 0 (.func (.func 136) #[] #[(pt b3 0)]) [.func (.func 136) #[] #[(pt b3 0)]] p4 rfl Xd fun w5 z5 p5 => ?_
  refine Gn 5 [(9, (pt b1 0))] (Yt 11100 B74 [1] (Ys 11101 B74 J1b5)) ?_
  refine Xb 3 9 10 3 ⟨b1, 0, none⟩ (.i x0.Op) (p5.c 2 0) ?_
  refine Gm 7 [([12, 11], .bool (decide (x0.Op = 2)))] (Ys 1110101 B74 J1b8) ?_
  refine Gi h (fun h7 h => ?_) fun h7 h => ?_
  ·
   rw [dt h7]
   refine Gn 3 [] (Zr Q11j [0, 1, 2, 3, 4, 5, 6, 7, 8] J1ba) ?_
   refine Xb 43 3 14 43 ⟨b3, 0, none⟩ (.slice Ax1 x1.length cx1) (p5.c 1 0) ?_
   refine Gn 1 [(15, (pt b1 1))] (Zr Q11j [2, 3, 4, 5, 6, 7, 8] J1ba) ?_
   refine Xb 9 15 16 9 ⟨b1, 1, none⟩ (.string x0.Text) (p5.c 2 1) ?_
   refine Gb h fun y8 e9 h => ?_
   refine Gc (kc 137 [14, 16] #[43, 9]) 17 237 137 _ (W.z6q x1 x0.Text y8 e9 _ _ _ p5 (fx1.ext (((z2.t z3).t z4).t z5)) rfl) ?_
   rintro _ w6 ⟨S6, rfl, z6, p6⟩
   have p6 := ((p6.dp 0).dp 0).dp 0
   refine Gm 11 [([13], .tuple #[.i y8.1, .bool y8.2]), ([18, 6], .i y8.1), ([19, 7, 20, 4], .bool y8.2)] (Ys 1110101011 B74 J1b8) ?_
   obtain rfl := sj h
   exact Xc Tryz.f74 (.bool y8.2) ⟨_, rfl, ((((z2.t z3).t z4).t z5).t z6), p6⟩
  ·
   rw [df h7]
   refine Gm 6 [([22, 21], .bool (decide (x0.Op = 3)))] (Ys 111010111 B74 J1b8) ?_
   refine Gi h (fun h10 h => ?_) fun h10 h => ?_
   ·
    rw [dt h10]
    refine Gn 4 [(23, (pt b1 2))] (Zr Q11n [1, 2, 3, 4, 5] J1bf) ?_
    refine Xb 28 23 24 28 ⟨b1, 2, none⟩ (.slice u92 x0.L.length u94) (p5.c 2 2) ?_
    refine Gn 1 [(25, .func (.func 138) #[] #[(pt b5 0)])] (Zr Q11n [3, 4, 5] J1bf) ?_
    refine Gb h fun y11 e12 h => ?_
    refine Gc (kc 128 [24, 25] #[28, 232]) 26 4 128 _ (u10f (x0.L, x1) y11 e12 _ _ _ _ _ _ _ _ p5 (u9f.ext (((z2.t z3).t z4).t z5)) rfl (fx1.ext (((z2.t z3).t z4).t z5)) rfl) ?_
    rintro _ w7 ⟨S7, rfl, z7, p7⟩
    have p7 := ((p7.dp 0).dp 0).dp 0
    refine Gm 3 [([27, 4], .bool (!y11))] J1bf ?_
    obtain rfl := sj h
    exact Xc Tryz.f74 (.bool (!y11)) ⟨_, rfl, ((((z2.t z3).t z4).t z5).t z7), p7⟩
   ·
    rw [df h10]
    refine Gm 6 [([29, 28], .bool (decide (x0.Op = 4)))] (Ys 11101011111 B74 J1b8) ?_
    refine Gi h (fun h13 h => ?_) fun h13 h => ?_
    ·
     rw [dt h13]
     refine Gn 4 [(30, (pt b1 2))] (Yt 1110101111100 B74 [1, 2, 3, 4] J1bj) ?_
     refine Xb 28 30 31 28 ⟨b1, 2, none⟩ (.slice u92 x0.L.length u94) (p5.c 2 2) ?_
     refine Xb 232 5 32 232 ⟨b5, 0, none⟩ (.func (.func 136) #[] #[(pt b3 0)]) (p5.c 0 0) ?_
     have p5 := p5.fr 1
     refine Gb h fun y14 e15 h => ?_
     refine Gc (kc 128 [31, 32] #[28, 232]) 33 4 128 _ (u10e (x0.L, x1) y14 e15 _ _ _ _ _ _ _ p5 (u9f.ext (((z2.t z3).t z4).t z5)) rfl (fx1.ext (((z2.t z3).t z4).t z5)) rfl) ?_
     rintro _ w8 ⟨S8, rfl, z8, p8⟩
     have p8 := ((p8.dp 0).dp 0).dp 0
     refine Gn 2 [(4, .bool y14)] J1bj ?_
     obtain rfl := sj h
     exact Xc Tryz.f74 (.bool y14) ⟨_, rfl, ((((z2.t z3).t z4).t z5).t z8), p8⟩
    ·
     rw [df h13]
     refine Gn 6 [(34, (pt b1 0))] (Yt 11110 B74 [1, 2, 3] J1bl) ?_
     refine Xb 3 34 35 3 ⟨b1, 0, none⟩ (.i x0.Op) (p5.c 2 0) ?_
     refine Gm 3 [([36, 4], .bool (decide (x0.Op = 0)))] J1bl ?_
     obtain rfl := sj h
     have p5 := ((p5.dp 0).dp 0).dp 0
     exact Xc Tryz.f74 (.bool (decide (x0.Op = 0))) ⟨_, rfl, (((z2.t z3).t z4).t z5), p5⟩
 ·
  intro u10g u10h ⟨x0, uf2⟩ r h nz wz S0 w0 Lr Ax0 nx0 cx0 uf1 u109 u10a u10b p0 fx0 lx0 u10i u10j
  try dsimp only at h
  subst lx0
  subst u10j
  refine Zf Tryz.f128 B128 7 ?_
  refine Gj 9 [(0, .slice Ax0 x0.length cx0), (1, .func (.func 136) #[] #[(pt uf1 0)])] fun junk => ?_
  refine Gn 8 [(4, .bool false), (5, .slice Ax0 x0.length cx0), (6, .func (.func 136) #[] #[(pt uf1 0)])] Jot ?_
  refine Gb h fun y2 e3 h => ?_
  refine Gc (kc 195 [5, 6] #[28, 232]) 7 3 195 _ (u10h (x0, uf2) y2 e3 _ _ _ _ _ _ _ p0 fx0 rfl u10i rfl) ?_
  rintro _ w2 ⟨S2, rfl, z2, p2⟩
  refine Gm 3 [([8, 4], .bool (decide (y2 ≥ 0)))] Jos ?_
  obtain rfl := sj h
  exact Xc Tryz.f128 (.bool (decide (y2 ≥ 0))) ⟨_, rfl, z2, p2⟩
 ·
  intro u10k u10l ⟨x0, uf2⟩ r h nz wz S0 w0 Lr Ax0 nx0 cx0 uf1 u109 u10a u10b p0 fx0 lx0 u10i u10j
  try dsimp only at h
  subst lx0
  subst u10j
  refine Zf Tryz.f195 B195 17 ?_
  refine Gj 19 [(0, .slice Ax0 x0.length cx0), (1, .func (.func 136) #[] #[(pt uf1 0)])] fun junk => ?_
  refine Gm 13 [([4, 8], .i 0), ([6], .slice Ax0 x0.length cx0), ([7], .i (x0.length : Int))] Joj ?_
  exact Gj 19 [(0, .slice Ax0 x0.length cx0), (1, .func (.func 136) #[] #[(pt uf1 0)]), (7, .i (x0.length : Int)), (8, .i 0)] (u10l _ _ h uf1 u109 uf2.length u10b _ _ (Xg S0 w0) _ _ _ p0 fx0 rfl u10i rfl)
 ·
  intro u10k u10m u10l u10n ⟨x0, x7, x8, uf2⟩ r h nz wz S0 w0 Lr uf1 u109 u10a u10b S1 w1 hx Ax0 nx0 cx0 p1 fx0 lx0 ug2 ug3 junk
  try dsimp only at h
  subst lx0
  subst ug3
  refine Gn 5 [(9, .bool (decide (x8 < x7)))] Jol ?_
  refine Gi h (fun h2 h => ?_) fun h2 h => ?_
  ·
   rw [dt h2]
   refine Gm 14 [([10, 5, 13], .i x8), ([11], .func (.func 136) #[] #[(pt uf1 0)]), ([12], .slice Ax0 x0.length cx0)] Jop ?_
   refine Gg h fun g3 h => ?_
   refine Gg h fun g4 h => ?_
   refine Oi 28 12 13 14 0 30 .i64 x8 (gi x0 x8) rfl rfl fx0 Xa g3 g4 fun a5 _ f6 q7 => ?_
   have q8 := q7
   obtain ⟨_, _, rfl, rfl, ⟨_, _, rfl, rfl, ⟨A9, c10, rfl, f11⟩⟩⟩ := kT29_open q8
   refine Xf 30 14 15 30 a5 ([.i ((gi x0 x8).Op)] ++ ([.string ((gi x0 x8).Text)] ++ [.slice A9 (((gi x0 x8).L).length) c10])) (f6.cell) ?_
   refine Gb h fun y12 e13 h => ?_
   refine Gc (.call { callee := .value 11, args := #[15], argTypes := #[30] }) 16 4 136 _ (u10n (gi x0 x8, uf2) y12 e13 _ _ _ _ _ _ _ p1 f11 rfl ug2 rfl) ?_
   rintro _ w2 ⟨S2, rfl, z2, p2⟩
   refine Gn 1 [] Joo ?_
   refine Gi h (fun h14 h => ?_) fun h14 h => ?_
   ·
    rw [h14]
    refine Gm 6 [([17, 4], .i x8)] Joq ?_
    obtain rfl := sj h
    exact Xc Tryz.f195 (.i x8) ⟨_, rfl, (hx.t z2), p2⟩
   ·
    rw [bf h14]
    refine Gm 8 [([18, 8], .i (wr .i64 (x8 + 1)))] Joj ?_
    exact Gj 19 [(0, .slice Ax0 x0.length cx0), (1, .func (.func 136) #[] #[(pt uf1 0)]), (7, .i x7), (8, .i (wr .i64 (x8 + 1)))] (u10l _ _ h uf1 u109 uf2.length u10b _ _ (hx.t z2) _ _ _ p2 (fx0.ext z2) rfl (ug2.ext z2) rfl)
  ·
   rw [df h2]
   refine Gn 6 [(4, .i (-1))] Jor ?_
   obtain rfl := sj h
   exact Xc Tryz.f195 (.i (-1)) ⟨_, rfl, hx, p1⟩
 ·
  intro rec_gram_Query_fits ih_gram_Query_fits ⟨x0, uly⟩ r h nz wz S0 w0 Lr u92 u93 u94 gx1 u108 um0 um1 p0 u9f u9g unx uny
  try dsimp only at h
  subst u9g
  subst uny
  refine Zf Tryz.f136 B136 5 ?_
  refine Gj 7 [(0, (ag (vT29 x0 u92 x0.L.length u94))), (1, (pt gx1 0))] fun junk => ?_
  refine Gn 2 [] (Yt 10 B136 [0, 1] (Ys 11 B136 [])) ?_
  refine Ob 30 0 2 0 (ag (vT29 x0 u92 x0.L.length u94)) (vT29 x0 u92 x0.L.length u94) p0 Xa fun b2 w2 z2 p2 => ?_
  refine Gn 4 [(3, .bool false)] (Yt 110 B136 [0, 1, 2, 3] J1bp) ?_
  refine Xf 30 2 4 30 ⟨b2, 0, none⟩ (vT29 x0 u92 x0.L.length u94) (p2.pa 0 0) ?_
  refine Xb 43 1 5 43 ⟨gx1, 0, none⟩ (.slice u108 uly.length um1) (p2.c 1 0) ?_
  refine Gb h fun y4 e5 h => ?_
  refine Gc (kc 74 [4, 5] #[30, 43]) 6 4 74 _ (ih_gram_Query_fits (x0, uly) y4 e5 _ _ _ _ _ _ p2 (u9f.ext z2) rfl (unx.ext z2) rfl) ?_
  rintro _ w3 ⟨S3, rfl, z3, p3⟩
  have p3 := p3.dp 0
  refine Gn 2 [(3, .bool y4)] J1bp ?_
  obtain rfl := sj h
  exact Xc Tryz.f136 (.bool y4) ⟨_, rfl, (z2.t z3), p3⟩
 ·
  intro u10o u10p ⟨x0, u102⟩ r h nz wz S0 w0 Lr Ax0 nx0 cx0 uf1 uzy uzz u100 u101 p0 fx0 lx0 u10q u10r
  try dsimp only at h
  subst lx0
  subst u10r
  refine Zf Tryz.f128 B128 7 ?_
  refine Gj 9 [(0, .slice Ax0 x0.length cx0), (1, .func (.func 138) #[] #[(pt uf1 0)])] fun junk => ?_
  refine Gn 8 [(4, .bool false), (5, .slice Ax0 x0.length cx0), (6, .func (.func 138) #[] #[(pt uf1 0)])] Jot ?_
  refine Gb h fun y3 e4 h => ?_
  refine Gc (kc 195 [5, 6] #[28, 232]) 7 3 195 _ (u10p (x0, u102) y3 e4 _ _ _ _ _ _ _ _ p0 fx0 rfl u10q rfl) ?_
  rintro _ w2 ⟨S2, rfl, z2, p2⟩
  refine Gm 3 [([8, 4], .bool (decide (y3 ≥ 0)))] Jos ?_
  obtain rfl := sj h
  exact Xc Tryz.f128 (.bool (decide (y3 ≥ 0))) ⟨_, rfl, z2, p2⟩
 ·
  intro u10s u10t ⟨x0, u102⟩ r h nz wz S0 w0 Lr Ax0 nx0 cx0 uf1 uzy uzz u100 u101 p0 fx0 lx0 u10q u10r
  try dsimp only at h
  subst lx0
  subst u10r
  refine Zf Tryz.f195 B195 17 ?_
  refine Gj 19 [(0, .slice Ax0 x0.length cx0), (1, .func (.func 138) #[] #[(pt uf1 0)])] fun junk => ?_
  refine Gm 13 [([4, 8], .i 0), ([6], .slice Ax0 x0.length cx0), ([7], .i (x0.length : Int))] Joj ?_
  exact Gj 19 [(0, .slice Ax0 x0.length cx0), (1, .func (.func 138) #[] #[(pt uf1 0)]), (7, .i (x0.length : Int)), (8, .i 0)] (u10t _ _ h uf1 uzy uzz u102.length u101 _ _ (Xg S0 w0) _ _ _ p0 fx0 rfl u10q rfl)
 ·
  intro u10s u10u u10t u10v ⟨x0, x7, x8, u102⟩ r h nz wz S0 w0 Lr uf1 uzy uzz u100 u101 S1 w1 hx Ax0 nx0 cx0 p1 fx0 lx0 ug2 ug3 junk
  try dsimp only at h
  subst lx0
  subst ug3
  refine Gn 5 [(9, .bool (decide (x8 < x7)))] Jol ?_
  refine Gi h (fun h3 h => ?_) fun h3 h => ?_
  ·
   rw [dt h3]
   refine Gm 14 [([10, 5, 13], .i x8), ([11], .func (.func 138) #[] #[(pt uf1 0)]), ([12], .slice Ax0 x0.length cx0)] Jop ?_
   refine Gg h fun g4 h => ?_
   refine Gg h fun g5 h => ?_
   refine Oi 28 12 13 14 0 30 .i64 x8 (gi x0 x8) rfl rfl fx0 Xa g4 g5 fun a6 _ f7 q8 => ?_
   have q9 := q8
   obtain ⟨_, _, rfl, rfl, ⟨_, _, rfl, rfl, ⟨A10, c11, rfl, f12⟩⟩⟩ := kT29_open q9
   refine Xf 30 14 15 30 a6 ([.i ((gi x0 x8).Op)] ++ ([.string ((gi x0 x8).Text)] ++ [.slice A10 (((gi x0 x8).L).length) c11])) (f7.cell) ?_
   refine Gb h fun y13 e14 h => ?_
   refine Gc (.call { callee := .value 11, args := #[15], argTypes := #[30] }) 16 4 138 _ (u10v (gi x0 x8, u102) y13 e14 _ _ _ _ _ _ _ _ p1 f12 rfl ug2 rfl) ?_
   rintro _ w2 ⟨S2, rfl, z2, p2⟩
   refine Gn 1 [] Joo ?_
   refine Gi h (fun h15 h => ?_) fun h15 h => ?_
   ·
    rw [h15]
    refine Gm 6 [([17, 4], .i x8)] Joq ?_
    obtain rfl := sj h
    exact Xc Tryz.f195 (.i x8) ⟨_, rfl, (hx.t z2), p2⟩
   ·
    rw [bf h15]
    refine Gm 8 [([18, 8], .i (wr .i64 (x8 + 1)))] Joj ?_
    exact Gj 19 [(0, .slice Ax0 x0.length cx0), (1, .func (.func 138) #[] #[(pt uf1 0)]), (7, .i x7), (8, .i (wr .i64 (x8 + 1)))] (u10t _ _ h uf1 uzy uzz u102.length u101 _ _ (hx.t z2) _ _ _ p2 (fx0.ext z2) rfl (ug2.ext z2) rfl)
  ·
   rw [df h3]
   refine Gn 6 [(4, .i (-1))] Jor ?_
   obtain rfl := sj h
   exact Xc Tryz.f195 (.i (-1)) ⟨_, rfl, hx, p1⟩
 ·
  intro u10m u10n ⟨x0, u107⟩ r h nz wz S0 w0 Lr u92 u93 u94 gx1 u103 u104 u105 u106 p0 u9f u9g u10w u10x
  try dsimp only at h
  subst u9g
  subst u10x
  refine Zf Tryz.f138 B138 6 ?_
  refine Gj 8 [(0, (ag (vT29 x0 u92 x0.L.length u94))), (1, (pt gx1 0))] fun junk => ?_
  refine Gn 2 [] (Yt 10 B138 [0, 1] (Ys 11 B138 [])) ?_
  refine Ob 30 0 2 0 (ag (vT29 x0 u92 x0.L.length u94)) (vT29 x0 u92 x0.L.length u94) p0 Xa fun b3 w2 z2 p2 => ?_
  refine Gn 4 [(3, .bool false)] (Yt 110 B138 [0, 1, 2, 3, 4] J1bt) ?_
  refine Xb 232 1 4 232 ⟨gx1, 0, none⟩ (.func (.func 136) #[] #[(pt u103 0)]) (p2.c 1 0) ?_
  refine Xf 30 2 5 30 ⟨b3, 0, none⟩ (vT29 x0 u92 x0.L.length u94) (p2.pa 0 0) ?_
  have p2 := p2.fr 2
  refine Gb h fun y5 e6 h => ?_
  refine Gc (.call { callee := .value 4, args := #[5], argTypes := #[30] }) 6 4 136 _ (u10n (x0, u107) y5 e6 _ _ _ _ _ _ _ p2 (u9f.ext z2) rfl (u10w.ext z2) rfl) ?_
  rintro _ w3 ⟨S3, rfl, z3, p3⟩
  have p3 := p3.dp 1
  refine Gm 3 [([7, 3], .bool (!y5))] J1bt ?_
  obtain rfl := sj h
  have p3 := (p3.fr 0).fr 1
  exact Xc Tryz.f138 (.bool (!y5)) ⟨_, rfl, (z2.t z3), p3⟩
theorem W.z6u : ∀ a r, M.a2p a = some r → LF.z6u a r := (W.z73).1
theorem W.z6z : ∀ a r, M.a66 a = some r → LF.z6z a r := (W.z73).2.1
theorem W.z70 : ∀ a r, M.a69 a = some r → LF.z70 a r := (W.z73).2.2.1
theorem W.z72 : ∀ a r, M.a2r a = some r → LL.z72 a r := (W.z73).2.2.2.1
theorem W.z6y : ∀ a r, M.a4j a = some r → LF.z6y a r := (W.z73).2.2.2.2.1
theorem W.z6v : ∀ a r, M.a65 a = some r → LF.z6v a r := (W.z73).2.2.2.2.2.1
theorem W.z6w : ∀ a r, M.a67 a = some r → LF.z6w a r := (W.z73).2.2.2.2.2.2.1
theorem W.z71 : ∀ a r, M.a2q a = some r → LL.z71 a r := (W.z73).2.2.2.2.2.2.2.1
theorem W.z6x : ∀ a r, M.a68 a = some r → LF.z6x a r := (W.z73).2.2.2.2.2.2.2.2
def J1bx := Ys 111 B27 []
def Post.z74 (r : Bool × Int) (v : Value) (w' : World) : Prop :=
 ∃ S', v = .tuple #[.bool r.1, .i r.2] ∧ Ext S0 w0 S' w' ∧ Hp nz wz S' w' (Lr)
theorem W.z74 (x0 : T29) (x1 : ByteArray) (r : Bool × Int) (h : M.a5g x0 x1 = some r) {nz wz S0 w0 Lr} (u92 u93 u94) (p0 : Hp nz wz S0 w0 (Lr)) (u9f : Rd kT29 S0 w0 u92 u94 x0.L) (u9g : x0.L.length = u93) :
  Calls Tg 27 #[(ag (vT29 x0 u92 u93 u94)), .string x1] w0 (Rets (Post.z74 nz wz S0 w0 Lr r)) := by
 subst u9g
 refine Zf Tryz.f27 B27 14 ?_
 refine Gj 16 [(0, (ag (vT29 x0 u92 x0.L.length u94))), (1, .string x1)] fun junk => ?_
 delta M.a5g at h
 refine Gn 2 [] (Yt 10 B27 [0, 1, 2] (Ys 11 B27 [])) ?_
 refine Ob 30 0 2 0 (ag (vT29 x0 u92 x0.L.length u94)) (vT29 x0 u92 x0.L.length u94) p0 Xa fun b1 w2 z2 p2 => ?_
 refine Gn 6 [(4, .bool false), (5, .i 0)] (Yt 1100 B27 [0, 1, 2] (Ys 1101 B27 J1bx)) ?_
 refine Xf 30 2 7 30 ⟨b1, 0, none⟩ (vT29 x0 u92 x0.L.length u94) (p2.pa 0 0) ?_
 refine Gb h fun y3 e4 h => ?_
 refine Gc (kc 20 [7] #[30]) 8 34 20 _ (W.z4f x0 y3 e4 _ _ _ p2 (u9f.ext z2) rfl) ?_
 rintro _ w3 ⟨S3, rfl, z3, p3⟩
 refine Gm 7 [([6, 9], .i y3), ([10], .bool (!(decide (y3 = 0))))] (Ys 11011 B27 J1bx) ?_
 refine Gi h (fun h5 h => ?_) fun h5 h => ?_
 ·
  rw [dt h5]
  refine Gn 3 [] (Ys 1110 B27 (Ys 1111 B27 [])) ?_
  have z4 : Ext S3 w3 S3 (w3).drew := Xm
  have p4 := p3.draw
  refine Gd [3] (Fc S3 (w3).drew [(⟨b1, 0, none⟩, .i x0.Op), (⟨b1, 1, none⟩, .string x0.Text), (⟨b1, 2, none⟩, .slice u92 x0.L.length u94)]) 4 6 ?_
  generalize (w3).drew = w4 at z4 p4 ⊢
  refine Xv (i := 0) 30 2 12 30 ⟨b1, 0, none⟩ (vT29 x0 u92 x0.L.length u94) (by kernel_rfl) (by kernel_rfl) (p4.k [(0, 0, 3)]) (by kernel_rfl) (by kernel_rfl) (by kernel_rfl) (fun _ h j v hj => by match j, hj with | 0, rfl => exact h.2.at_ 0 rfl | 1, rfl => exact h.2.at_ 1 rfl | 2, rfl => exact h.2.at_ 2 rfl | (j + 3), hj => simp at hj) ?_
  refine Xe 1 (.move 1) 13 9 (.string x1) (p4.k [(0, 0, 3)]) ?_
  refine Gb h fun y6 e7 h => ?_
  refine Oc (kc 16 [13] #[9]) 14 43 16 #[.string x1] (Ac 2) (W.z34 x1 y6 e7  p4 ) ?_
  rintro _ w5 ⟨S5, ump, umq, umr, ums, rfl, z5, p5, ux, rfl⟩
  refine Xl z5 ⟨(p5.c 1 0), (p5.c 1 1), (p5.c 1 2), trivial⟩ ?_
  obtain ⟨S6, z6, p6, f9⟩ := p5.freezeRd 0 rfl ux (by decide)
  refine AnyG.refz z6 ?_
  refine Gb h fun y10 e11 h => ?_
  refine Oc (kc 74 [12, 14] #[30, 43]) 15 4 74 #[(ag (vT29 x0 u92 x0.L.length u94)), .slice (Gp ump) y6.length umr] (Ac 3) (W.z6u (x0, y6) y10 e11 _ _ _ _ _ _ p6 (u9f.ext ((((z2.t z3).t z4).t z5).t z6)) rfl f9 rfl) ?_
  rintro _ w7 ⟨S7, rfl, z7, p7⟩
  refine Xi [] (Fc S7 w7 []) (by decide) ?_
  refine Xe 4 (.assign 15) 4 4 (.bool y10) Fc0 ?_
  refine Xe 5 (.assign (.const (.int .i64 0))) 5 34 (.i 0) Fc0 ?_
  refine Ad ?_
  have p7 := (p7.dp 0).dp 0
  obtain rfl := sj h
  exact Xc Tryz.f27 (.tuple #[.bool y10, .i 0]) ⟨_, rfl, (((((z2.t z3).t z4).t z5).t z6).t z7), p7⟩
 ·
  rw [df h5]
  refine Gm 7 [([11, 5], .i y3), ([4], .bool false)] (Ys 1101101 B27 J1bx) ?_
  obtain rfl := sj h
  have p3 := p3.dp 0
  exact Xc Tryz.f27 (.tuple #[.bool false, .i y3]) ⟨_, rfl, (z2.t z3), p3⟩
def J1c4 := Ys 11111101 B7 J13h
def J1c8 := Ys 111111111 B7 []
def Q12f := Yq 111111110 B7
def J1cb := Ys 1111111111 B7 []
def Q12h := Yq 1111111110 B7
def L.z75 : ByteArray × (List T174) × Int × T29 × Int × Bool → Bool → Prop := fun ⟨x1, x5, x6, x7v, x8, x43⟩ r => ∀ S1 w1, Ext S0 w0 S1 w1 → ∀ Gx5 nx5 cx5 uj gx7 ult ujq ujr (_ : Hp nz wz S1 w1 ((Gx5, .row 175 uj (cx5 * kT174.size) 0) :: (some gx7, .row 30 (vT29 x7v ult ujq ujr) 3 0) :: Lr)) (_ : Els kT174 S1 w1 uj x5) (_ : x5.length = nx5) (_ : Rd kT29 S1 w1 ult ujr x7v.L) (_ : x7v.L.length = ujq) (junk : Nat → Value),
 Goes Tg (base 7) J1c4 ⟨lfr 79 [(1, .string x1), (5, .slice (Gp Gx5) nx5 cx5), (6, .i x6), (7, (pt gx7 0)), (8, .i x8), (43, .bool x43)] junk, []⟩ w1 (Done Tg 7 (Rets (Post.z5k nz wz S0 w0 Lr r)))
theorem W.z75 {nz wz S0 w0 Lr} : ∀ a r, M.a20 a = some r → L.z75 nz wz S0 w0 Lr a r := by
 intro ⟨x1, x5, x6, x7v, x8, x43⟩ r h S1 w1 hx Gx5 nx5 cx5 uj gx7 ult ujq ujr p1 fx5 lx5 ujy ujz junk
 rw [M.a20] at h
 try dsimp only at h
 subst lx5
 subst ujz
 refine Gi h (fun h25 h => ?_) fun h25 h => ?_
 ·
  rw [h25]
  refine Gm 6 [([44], .i x8), ([45, 46], .bool (decide (x8 = 0)))] (Yt 1111110100 B7 [3, 4, 5, 6] J13i) ?_
  refine Gi h (fun h26 h => ?_) fun h26 h => ?_
  ·
   rw [dt h26]
   refine Gm 5 [([47, 48], undef), ([49, 4], .bool true)] J13i ?_
   have p1 := (p1.dp 0).dp 0
   exact Gj 79 [(4, .bool true)] (W.z5l _ _ h _ _ hx p1)
  ·
   rw [df h26]
   refine Gm 5 [([47], .i x6), ([48, 49, 4], .bool (decide (x6 = 2)))] J13i ?_
   have p1 := (p1.dp 0).dp 0
   exact Gj 79 [(4, .bool (decide (x6 = 2)))] (W.z5l _ _ h _ _ hx p1)
 ·
  rw [bf h25]
  refine Gn 6 [(51, .slice (Gp Gx5) x5.length cx5), (52, .string x1)] (Yt 11111110 B7 [2, 3, 4, 5, 6, 7] (Ys 11111111 B7 [])) ?_
  obtain ⟨S13, z13, p13, f27⟩ := p1.freezeRd 0 rfl fx5 (by decide)
  refine Gb h fun y28 e29 h => ?_
  refine Gc (kc 35 [51, 52] #[77, 9]) 53 56 35 _ (W.z6h x5 x1 y28 e29 _ _ _ p13 f27 rfl) ?_
  rintro _ w14 ⟨S14, rfl, z14, p14⟩
  have p14 := p14.dp 0
  refine Gm 8 [([50], .tuple #[.bool y28.1, .i y28.2]), ([54, 9], .bool y28.1), ([55, 10], .i y28.2)] (Zr Q12f [0, 1, 2, 3, 4, 5, 6, 7] J1c8) ?_
  refine Xf 30 7 57 30 ⟨gx7, 0, none⟩ (vT29 x7v ult x7v.L.length ujr) (p14.pa 0 0) ?_
  refine Gn 1 [(58, .string x1)] (Zr Q12f [2, 3, 4, 5, 6, 7] J1c8) ?_
  refine Gb h fun y30 e31 h => ?_
  refine Gc (kc 27 [57, 58] #[30, 9]) 59 56 27 _ (W.z74 x7v x1 y30 e31 _ _ _ p14 (ujy.ext (z13.t z14)) rfl) ?_
  rintro _ w15 ⟨S15, rfl, z15, p15⟩
  have p15 := p15.dp 0
  refine Gm 11 [([56], .tuple #[.bool y30.1, .i y30.2]), ([60, 11], .bool y30.1), ([61, 12], .i y30.2), ([62], .i x8), ([63, 64], .bool (decide (x8 = 0)))] (Zr Q12h [3, 4, 5, 6, 7, 8, 9, 10, 11, 12, 13, 14, 15, 16, 17] J1cb) ?_
  refine Gi h (fun h32 h => ?_) fun h32 h => ?_
  ·
   rw [dt h32]
   refine Gm 4 [([65], .i y28.2), ([66, 67, 68], .bool (decide (y28.2 = 0)))] (Zr Q12h [7, 8, 9, 10, 11, 12, 13, 14, 15, 16, 17] J1cb) ?_
   refine Gi h (fun h33 h => ?_) fun h33 h => ?_
   ·
    rw [dt h33]
    refine Gm 4 [([69], .i y30.2), ([70, 71, 72], .bool (decide (y30.2 = 0)))] (Zr Q12h [11, 12, 13, 14, 15, 16, 17] J1cb) ?_
    refine Gi h (fun h34 h => ?_) fun h34 h => ?_
    ·
     rw [dt h34]
     refine Gm 2 [([73, 74], .bool y30.1)] (Zr Q12h [13, 14, 15, 16, 17] J1cb) ?_
     refine Gi h (fun h35 h => ?_) fun h35 h => ?_
     ·
      rw [h35]
      refine Gm 6 [([75, 76], undef), ([77, 78, 4], .bool true)] J1cb ?_
      obtain rfl := sj h
      exact Xc Tryz.f7 (.bool true) ⟨_, rfl, (((hx.t z13).t z14).t z15), p15⟩
     ·
      rw [bf h35]
      refine Gm 6 [([75], .bool y28.1), ([76, 77, 78, 4], .bool (!y28.1))] J1cb ?_
      obtain rfl := sj h
      exact Xc Tryz.f7 (.bool (!y28.1)) ⟨_, rfl, (((hx.t z13).t z14).t z15), p15⟩
    ·
     rw [df h34]
     refine Gm 8 [([73, 74, 75, 76, 77], undef), ([78, 4], .bool false)] J1cb ?_
     obtain rfl := sj h
     exact Xc Tryz.f7 (.bool false) ⟨_, rfl, (((hx.t z13).t z14).t z15), p15⟩
   ·
    rw [df h33]
    refine Gm 12 [([69, 70, 73, 74, 75, 76, 77], undef), ([71, 72, 78, 4], .bool false)] J1cb ?_
    obtain rfl := sj h
    exact Xc Tryz.f7 (.bool false) ⟨_, rfl, (((hx.t z13).t z14).t z15), p15⟩
  ·
   rw [df h32]
   refine Gm 14 [([65, 66, 69, 70, 73, 74, 75, 76, 77], undef), ([67, 68, 71, 72, 78], .bool false)] (Zr Q12h [17] J1cb) ?_
   refine Gn 2 [(4, .bool false)] J1cb ?_
   obtain rfl := sj h
   exact Xc Tryz.f7 (.bool false) ⟨_, rfl, (((hx.t z13).t z14).t z15), p15⟩
def J1cj := Ys 111 B7 []
def J1ck := Ys 1101 B7 J1cj
def J1cq := Ys 111111 B7 []
def Q12s := Yq 111110 B7
def Q12t := Yq 11111100 B7
theorem W.z5k (x0 : T26) (x1 : ByteArray) (r : Bool) (h : M.a5h x0 x1 = some r) {nz wz S0 w0 Lr} (u92 u93 u94) (p0 : Hp nz wz S0 w0 (Lr)) (u9e : x0.Set.length = 4) (u9f : Rd kT26 S0 w0 u92 u94 x0.L) (u9g : x0.L.length = u93) :
  Calls Tg 7 #[(ag (vT26 x0 u92 u93 u94)), .string x1] w0 (Rets (Post.z5k nz wz S0 w0 Lr r)) := by
 subst u9g
 refine Zf Tryz.f7 B7 77 ?_
 refine Gj 79 [(0, (ag (vT26 x0 u92 x0.L.length u94))), (1, .string x1)] fun junk => ?_
 delta M.a5h at h
 refine Gn 2 [] (Yt 10 B7 [0, 1] (Ys 11 B7 [])) ?_
 refine Ob 27 0 2 0 (ag (vT26 x0 u92 x0.L.length u94)) (vT26 x0 u92 x0.L.length u94) p0 Xa fun b1 w2 z2 p2 => ?_
 refine Gn 5 [(4, .bool false)] (Yt 1100 B7 [0, 1] J1ck) ?_
 refine Gb h fun y3 e4 h => ?_
 refine Gc (kc 24 [] #[]) 13 4 24 _ (W.z4k y3 e4  p2 ) ?_
 rintro _ w3 ⟨S3, rfl, z3, p3⟩
 refine Gn 2 [(14, .bool (!y3))] J1ck ?_
 refine Gi h (fun h5 h => ?_) fun h5 h => ?_
 ·
  rw [h5]
  refine Gn 3 [] (Ys 1110 B7 (Ys 1111 B7 [])) ?_
  have z4 : Ext S3 w3 S3 (w3).drew := Xm
  have p4 := p3.draw
  refine Gd [] (Fc S3 (w3).drew []) 3 9 ?_
  generalize (w3).drew = w4 at z4 p4 ⊢
  refine Xe 2 (.move 1) 17 9 (.string x1) Fc0 ?_
  refine Xe 3 (.move 1) 18 9 (.string x1) Fc0 ?_
  refine Xe 4 (.call { callee := .builtin .len, args := #[18], argTypes := #[9] }) 19 3 (.i (x1.size : Int)) Fc0 ?_
  refine Xe 5 (.call { callee := .builtin .min, args := #[19, (.const (.int .i64 30))], argTypes := #[3, 3] }) 20 3 (.i (imn (x1.size : Int) 30)) Fc0 ?_
  refine Gg h fun g6 h => ?_
  refine Gg h fun g7 h => ?_
  refine AnyG.slS (i := 6) 9 17 none (some 20) 21 9 x1 0 (imn (x1.size : Int) 30) (by kernel_rfl) (by kernel_rfl) Fc0 (by kernel_rfl) (by kernel_rfl) Bnd.no (Bnd.at_ .i64 (by kernel_rfl)) (by decide : (0 : Int) ≤ 0) g6 g7 ?_
  refine Xp 27 2 15 27 ⟨b1, 0, none⟩ (vT26 x0 u92 x0.L.length u94) (Av 0) (by kernel_rfl) (by kernel_rfl) (by kernel_rfl) (p4.pa 0 0) ?_
  refine Xl (Xg _ _) trivial ?_
  refine Gb h fun y8 e9 h => ?_
  refine Oc (kc 11 [15] #[27]) 16 27 11 #[(ag (vT26 x0 u92 x0.L.length u94))] (Ac 1) (W.z4p x0 y8 e9 _ _ _ p4 u9e (u9f.ext ((z2.t z3).t z4)) rfl) ?_
  rintro _ w5 ⟨S5, u10y, u7s, u7t, u10z, rfl, z5, p5, u7u, u7v, rfl⟩
  refine Xl z5 trivial ?_
  refine So 27 2 16 0 1 b1 0 (ag (vT26 y8 (Gp u10y) y8.L.length u7t)) (vT26 y8 (Gp u10y) y8.L.length u7t) p5 rfl (As 7) fun w6 z6 p6 => ?_
  refine Xl z6 trivial ?_
  refine Xe 8 (.assign 21) 1 9 (.string (ss x1 0 (imn (x1.size : Int) 30))) Fc0 ?_
  refine Ad ?_
  refine Gn 2 [] (Yt 11110 B7 [0, 1, 2, 3, 4, 5, 6] (Ys 11111 B7 [])) ?_
  refine Xf 27 2 23 27 ⟨b1, 0, none⟩ (vT26 y8 (Gp u10y) y8.L.length u7t) (p6.pa 1 0) ?_
  obtain ⟨S7, z7, p7, f11⟩ := p6.freezeRd 0 rfl (u7v.ext z6) (by decide)
  refine Gb h fun y12 e13 h => ?_
  refine Gc (kc 34 [23] #[27]) 24 78 34 _ (W.z5j y8 y12 e13 _ _ _ p7 u7u f11 rfl) ?_
  rintro _ w8 ⟨S8, u110, ucs, uct, u111, rfl, z8, p8, ucu, rfl⟩
  refine Gm 8 [([22], .tuple #[.slice (Gp u110) y12.1.length uct, .i y12.2]), ([25, 5], .slice (Gp u110) y12.1.length uct), ([26, 6], .i y12.2)] (Zr Q12s [0, 1, 2, 3, 4, 5, 6, 7] J1cq) ?_
  refine Xf 27 2 28 27 ⟨b1, 0, none⟩ (vT26 y8 (Gp u10y) y8.L.length u7t) (p8.pa 2 0) ?_
  refine Gb h fun y15 e16 h => ?_
  refine Gc (kc 13 [28] #[27]) 29 35 13 _ (W.z42 y8 y15 e16 _ _ _ p8 u7u (f11.ext z8) rfl) ?_
  rintro _ w9 ⟨S9, u112, u113, u114, rfl, z9, p9, u115, rfl⟩
  have p9 := (p9.dp 1).dp 1
  refine Gn 3 [(27, .tuple #[(ag (vT29 y15.1 u112 y15.1.L.length u114)), .i y15.2]), (30, (ag (vT29 y15.1 u112 y15.1.L.length u114))), (31, .i y15.2)] (Zr Q12s [5, 6, 7] J1cq) ?_
  refine Oa 30 7 0 (.agg #[.i 0, .string (⟨#[]⟩ : ByteArray), .slice none 0 0]) [.i 0, .string (⟨#[]⟩ : ByteArray), .slice none 0 0] p9 Xa fun b17 w10 z10 p10 => ?_
  refine So 30 7 30 0 0 b17 0 (ag (vT29 y15.1 u112 y15.1.L.length u114)) (vT29 y15.1 u112 y15.1.L.length u114) p10 rfl Xd fun w11 z11 p11 => ?_
  refine Gm 8 [([8], .i y15.2), ([32], .i y12.2), ([33, 34], .bool (!(decide (y12.2 = 0))))] (Zr Q12t [3, 4, 5, 6, 7, 8, 9, 10, 11] J1c4) ?_
  refine Gi h (fun h19 h => ?_) fun h19 h => ?_
  ·
   rw [dt h19]
   refine Gm 5 [([35], .slice (Gp u110) y12.1.length uct), ([36], .i (y12.1.length : Int)), ([37, 38, 39], .bool (decide ((y12.1.length : Int) > 300)))] (Zr Q12t [8, 9, 10, 11] J1c4) ?_
   refine Gi h (fun h20 h => ?_) fun h20 h => ?_
   ·
    rw [dt h20]
    refine Gm 5 [([40, 41, 42], undef), ([43], .bool true)] J1c4 ?_
    have p11 := (p11.fr 0).fr 1
    exact Gj 79 [(1, .string (ss x1 0 (imn (x1.size : Int) 30))), (5, .slice (Gp u110) y12.1.length uct), (6, .i y12.2), (7, (pt b17 0)), (8, .i y15.2), (43, .bool true)] (W.z75 _ _ h _ _ (((((((((z2.t z3).t z4).t z5).t z6).t z7).t z8).t z9).t z10).t z11) _ _ _ _ _ _ _ _ p11 (ucu.ext ((z9.t z10).t z11)) rfl (u115.ext (z10.t z11)) rfl)
   ·
    rw [df h20]
    refine Xf 30 7 40 30 ⟨b17, 0, none⟩ (vT29 y15.1 u112 y15.1.L.length u114) (p11.pa 0 0) ?_
    refine Gb h fun y23 e24 h => ?_
    refine Gc (kc 20 [40] #[30]) 41 34 20 _ (W.z4f y15.1 y23 e24 _ _ _ p11 (u115.ext (z10.t z11)) rfl) ?_
    rintro _ w12 ⟨S12, rfl, z12, p12⟩
    refine Gm 3 [([42, 43], .bool (!(decide (y23 = 0))))] J1c4 ?_
    have p12 := (p12.fr 0).fr 1
    exact Gj 79 [(1, .string (ss x1 0 (imn (x1.size : Int) 30))), (5, .slice (Gp u110) y12.1.length uct), (6, .i y12.2), (7, (pt b17 0)), (8, .i y15.2), (43, .bool (!(decide (y23 = 0))))] (W.z75 _ _ h _ _ ((((((((((z2.t z3).t z4).t z5).t z6).t z7).t z8).t z9).t z10).t z11).t z12) _ _ _ _ _ _ _ _ p12 (ucu.ext (((z9.t z10).t z11).t z12)) rfl (u115.ext ((z10.t z11).t z12)) rfl)
  ·
   rw [df h19]
   refine Gm 10 [([35, 36, 37, 40, 41, 42], undef), ([38, 39, 43], .bool true)] J1c4 ?_
   have p11 := (p11.fr 0).fr 1
   exact Gj 79 [(1, .string (ss x1 0 (imn (x1.size : Int) 30))), (5, .slice (Gp u110) y12.1.length uct), (6, .i y12.2), (7, (pt b17 0)), (8, .i y15.2), (43, .bool true)] (W.z75 _ _ h _ _ (((((((((z2.t z3).t z4).t z5).t z6).t z7).t z8).t z9).t z10).t z11) _ _ _ _ _ _ _ _ p11 (ucu.ext ((z9.t z10).t z11)) rfl (u115.ext (z10.t z11)) rfl)
 ·
  rw [bf h5]
  refine Gn 5 [(4, .bool false)] (Ys 110101 B7 J1cj) ?_
  obtain rfl := sj h
  have p3 := p3.dp 0
  exact Xc Tryz.f7 (.bool false) ⟨_, rfl, (z2.t z3), p3⟩
end
end Go.Gx
