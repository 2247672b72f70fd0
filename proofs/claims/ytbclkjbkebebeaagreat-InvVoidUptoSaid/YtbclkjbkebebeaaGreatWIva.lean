import Derived.Test.YtbclkjbkebebeaaGreatMIv

import Derived.Test.YtbclkjbkebebeaaGreatGJ

import Derived.Test.YtbclkjbkebebeaaGreatGO

import Derived.Test.YtbclkjbkebebeaaGreatGK

import Derived.Test.YtbclkjbkebebeaaGreatGL

import Derived.Test.YtbclkjbkebebeaaGreatGU

import Derived.Test.YtbclkjbkebebeaaGreatGH

import Derived.Test.YtbclkjbkebebeaaGreatHI

import Derived.Test.YtbclkjbkebebeaaGreatOIv

import Derived.Test.YtbclkjbkebebeaaGreatProg

set_option linter.unusedVariables false

set_option linter.unusedSimpArgs false

set_option maxRecDepth 100000

set_option maxHeartbeats 4000000

namespace Go.Gx

open Go.RowKit Go.Proofs

variable (nz : Nat) (wz : World) (S0 : Fz) (w0 : World) (Lr : List Ent)

noncomputable section

abbrev vT55 (x : T55) : List Value := [.string x.Name, .string x.Value]
abbrev vT64 (x : T64) (a : Option Addr) (b : Nat) (c : Nat) : List Value := [.i x.Op, .string x.Text, .slice a b c]

def kT55 : Kd T55 := kMap (fun s => (s.Name, s.Value)) (kProd kStr kStr)

def kT80 : Kd T80 := kMap (fun s => (s.series, s.ids, s.columns)) (kProd (kMp 77) (kProd (kMp 78) (kMp 79)))

def kT126 : Kd T126 := kMap (fun s => (s.values, s.numbers, s.texts, s.grams, s.next, s.size)) (kProd (kMp 121) (kProd (kMp 78) (kProd (kMp 124) (kProd (kPp 236) (kProd (kInt .u64) (kInt .i64))))))

def kT234 : Kd T234 := kMap (fun s => s.at_) (kMp 233)

def kT236 : Kd T236 := kMap (fun s => s.l) kT234

def kT64_f (K : Kd T64) : Kd T64 := kMap (fun s => (s.Op, s.Text, s.L)) (kProd (kInt .i64) (kProd kStr (kSl K)))

theorem kT64_c : Kc kT64_f := Kc.map _ (Kc.prod (Kc.const _) (Kc.prod (Kc.const _) (Kc.sl Kc.id)))

def kT64 : Kd T64 := kFix kT64_f 3 kT64_c (fun _ => rfl)

theorem kT64_open {S w vs x} (h : kT64.rep S w vs x) : (kT64_f kT64).rep S w vs x := kFix_open kT64_c _ h

theorem kT64_close {S w vs x} (h : (kT64_f kT64).rep S w vs x) : kT64.rep S w vs x := kFix_close kT64_c _ h

structure ZE where
 za : List (Nat × Obj)
 zb : List (Nat × Obj)
 zc : List (Nat × Obj)
 zd : List (Nat × Obj)
 ze : List (Nat × Obj)
 zf : List (Nat × Obj)
 zg : List (Nat × Obj)
 zh : List (Nat × Obj)
 zi : List (Nat × Obj)
 zj : List (Nat × Obj)

def ZE0 : ZE := ⟨[], [], [], [], [], [], [], [], [], []⟩

abbrev PL (E : ZE) (L : List Ent) : List Ent := (none, .seg 77 E.za) :: (none, .seg 78 E.zb) :: (none, .seg 79 E.zc) :: (none, .seg 80 E.zd) :: (none, .seg 121 E.ze) :: (none, .seg 122 E.zf) :: (none, .seg 124 E.zg) :: (none, .seg 126 E.zh) :: (none, .seg 233 E.zi) :: (none, .seg 236 E.zj) :: L

structure PS (S : Fz) (w : World) (E : ZE) (z : Z) : Prop where
 za : Pl (oMap (Value.int .u64) (kSl kT55)) S w E.za z.za
 zb : Pl (oMap Value.string (kInt .u64)) S w E.zb z.zb
 zc : Pl (oMap Value.string (kPp 126)) S w E.zc z.zc
 zd : Pl (oRow kT80 81) S w E.zd z.zd
 ze : Pl (oMap Value.string (kMp 122)) S w E.ze z.ze
 zf : Pl (oMap (Value.int .u64) kBool) S w E.zf z.zf
 zg : Pl (oMap (Value.int .u64) kStr) S w E.zg z.zg
 zh : Pl (oRow kT126 127) S w E.zh z.zh
 zi : Pl (oMap Value.string (kSl (kInt .u64))) S w E.zi z.zi
 zj : Pl (oRow kT236 237) S w E.zj z.zj

theorem PS.z0 {S w} : PS S w ZE0 Z0 := ⟨Pl.nil _ _ _, Pl.nil _ _ _, Pl.nil _ _ _, Pl.nil _ _ _, Pl.nil _ _ _, Pl.nil _ _ _, Pl.nil _ _ _, Pl.nil _ _ _, Pl.nil _ _ _, Pl.nil _ _ _⟩

theorem PS.ext {S w S' w' E z} (h : PS S w E z) (x : Ext S w S' w') : PS S' w' E z := ⟨h.za.ext x, h.zb.ext x, h.zc.ext x, h.zd.ext x, h.ze.ext x, h.zf.ext x, h.zg.ext x, h.zh.ext x, h.zi.ext x, h.zj.ext x⟩

theorem PS.uza {S w E z X d} (h : PS S w E z) (f : Pl (oMap (Value.int .u64) (kSl kT55)) S w X d) : PS S w {E with za := X} {z with za := d} := ⟨f, h.zb, h.zc, h.zd, h.ze, h.zf, h.zg, h.zh, h.zi, h.zj⟩

theorem PS.uzb {S w E z X d} (h : PS S w E z) (f : Pl (oMap Value.string (kInt .u64)) S w X d) : PS S w {E with zb := X} {z with zb := d} := ⟨h.za, f, h.zc, h.zd, h.ze, h.zf, h.zg, h.zh, h.zi, h.zj⟩

theorem PS.uzc {S w E z X d} (h : PS S w E z) (f : Pl (oMap Value.string (kPp 126)) S w X d) : PS S w {E with zc := X} {z with zc := d} := ⟨h.za, h.zb, f, h.zd, h.ze, h.zf, h.zg, h.zh, h.zi, h.zj⟩

theorem PS.uzd {S w E z X d} (h : PS S w E z) (f : Pl (oRow kT80 81) S w X d) : PS S w {E with zd := X} {z with zd := d} := ⟨h.za, h.zb, h.zc, f, h.ze, h.zf, h.zg, h.zh, h.zi, h.zj⟩

theorem PS.uze {S w E z X d} (h : PS S w E z) (f : Pl (oMap Value.string (kMp 122)) S w X d) : PS S w {E with ze := X} {z with ze := d} := ⟨h.za, h.zb, h.zc, h.zd, f, h.zf, h.zg, h.zh, h.zi, h.zj⟩

theorem PS.uzf {S w E z X d} (h : PS S w E z) (f : Pl (oMap (Value.int .u64) kBool) S w X d) : PS S w {E with zf := X} {z with zf := d} := ⟨h.za, h.zb, h.zc, h.zd, h.ze, f, h.zg, h.zh, h.zi, h.zj⟩

theorem PS.uzg {S w E z X d} (h : PS S w E z) (f : Pl (oMap (Value.int .u64) kStr) S w X d) : PS S w {E with zg := X} {z with zg := d} := ⟨h.za, h.zb, h.zc, h.zd, h.ze, h.zf, f, h.zh, h.zi, h.zj⟩

theorem PS.uzh {S w E z X d} (h : PS S w E z) (f : Pl (oRow kT126 127) S w X d) : PS S w {E with zh := X} {z with zh := d} := ⟨h.za, h.zb, h.zc, h.zd, h.ze, h.zf, h.zg, f, h.zi, h.zj⟩

theorem PS.uzi {S w E z X d} (h : PS S w E z) (f : Pl (oMap Value.string (kSl (kInt .u64))) S w X d) : PS S w {E with zi := X} {z with zi := d} := ⟨h.za, h.zb, h.zc, h.zd, h.ze, h.zf, h.zg, h.zh, f, h.zj⟩

theorem PS.uzj {S w E z X d} (h : PS S w E z) (f : Pl (oRow kT236 237) S w X d) : PS S w {E with zj := X} {z with zj := d} := ⟨h.za, h.zb, h.zc, h.zd, h.ze, h.zf, h.zg, h.zh, h.zi, f⟩

noncomputable def B7 : Code := (Tryz.f7.body).getD .skip

noncomputable def B13 : Code := (Tryz.f13.body).getD .skip

noncomputable def B15 : Code := (Tryz.f15.body).getD .skip

noncomputable def B16 : Code := (Tryz.f16.body).getD .skip

noncomputable def B17 : Code := (Tryz.f17.body).getD .skip

noncomputable def B18 : Code := (Tryz.f18.body).getD .skip

noncomputable def B19 : Code := (Tryz.f19.body).getD .skip

noncomputable def B20 : Code := (Tryz.f20.body).getD .skip

noncomputable def B22 : Code := (Tryz.f22.body).getD .skip

noncomputable def B23 : Code := (Tryz.f23.body).getD .skip

noncomputable def B28 : Code := (Tryz.f28.body).getD .skip

noncomputable def B29 : Code := (Tryz.f29.body).getD .skip

noncomputable def B31 : Code := (Tryz.f31.body).getD .skip

noncomputable def B35 : Code := (Tryz.f35.body).getD .skip

noncomputable def B38 : Code := (Tryz.f38.body).getD .skip

noncomputable def B39 : Code := (Tryz.f39.body).getD .skip

noncomputable def B58 : Code := (Tryz.f58.body).getD .skip

noncomputable def B59 : Code := (Tryz.f59.body).getD .skip

noncomputable def B60 : Code := (Tryz.f60.body).getD .skip

noncomputable def B62 : Code := (Tryz.f62.body).getD .skip

noncomputable def B63 : Code := (Tryz.f63.body).getD .skip

noncomputable def B64 : Code := (Tryz.f64.body).getD .skip

noncomputable def B65 : Code := (Tryz.f65.body).getD .skip

noncomputable def B66 : Code := (Tryz.f66.body).getD .skip

noncomputable def B67 : Code := (Tryz.f67.body).getD .skip

noncomputable def B68 : Code := (Tryz.f68.body).getD .skip

noncomputable def B69 : Code := (Tryz.f69.body).getD .skip

noncomputable def B75 : Code := (Tryz.f75.body).getD .skip

noncomputable def B76 : Code := (Tryz.f76.body).getD .skip

noncomputable def B79 : Code := (Tryz.f79.body).getD .skip

noncomputable def B80 : Code := (Tryz.f80.body).getD .skip

noncomputable def B96 : Code := (Tryz.f96.body).getD .skip

noncomputable def B97 : Code := (Tryz.f97.body).getD .skip

noncomputable def B101 : Code := (Tryz.f101.body).getD .skip

noncomputable def B115 : Code := (Tryz.f115.body).getD .skip

noncomputable def B118 : Code := (Tryz.f118.body).getD .skip

noncomputable def B119 : Code := (Tryz.f119.body).getD .skip

noncomputable def B120 : Code := (Tryz.f120.body).getD .skip

noncomputable def B121 : Code := (Tryz.f121.body).getD .skip

noncomputable def B122 : Code := (Tryz.f122.body).getD .skip

noncomputable def B123 : Code := (Tryz.f123.body).getD .skip

noncomputable def B124 : Code := (Tryz.f124.body).getD .skip

noncomputable def B128 : Code := (Tryz.f128.body).getD .skip

noncomputable def B129 : Code := (Tryz.f129.body).getD .skip

noncomputable def B130 : Code := (Tryz.f130.body).getD .skip

noncomputable def B131 : Code := (Tryz.f131.body).getD .skip

noncomputable def B132 : Code := (Tryz.f132.body).getD .skip

noncomputable def B137 : Code := (Tryz.f137.body).getD .skip

noncomputable def B138 : Code := (Tryz.f138.body).getD .skip

noncomputable def B139 : Code := (Tryz.f139.body).getD .skip

noncomputable def B141 : Code := (Tryz.f141.body).getD .skip

noncomputable def B145 : Code := (Tryz.f145.body).getD .skip

noncomputable def B157 : Code := (Tryz.f157.body).getD .skip

noncomputable def B159 : Code := (Tryz.f159.body).getD .skip

noncomputable def B160 : Code := (Tryz.f160.body).getD .skip

noncomputable def B161 : Code := (Tryz.f161.body).getD .skip

noncomputable def B162 : Code := (Tryz.f162.body).getD .skip

noncomputable def B174 : Code := (Tryz.f174.body).getD .skip

noncomputable def B176 : Code := (Tryz.f176.body).getD .skip

noncomputable def B177 : Code := (Tryz.f177.body).getD .skip

noncomputable def B179 : Code := (Tryz.f179.body).getD .skip

noncomputable def B180 : Code := (Tryz.f180.body).getD .skip

noncomputable def B181 : Code := (Tryz.f181.body).getD .skip

noncomputable def B182 : Code := (Tryz.f182.body).getD .skip

noncomputable def B183 : Code := (Tryz.f183.body).getD .skip

noncomputable def B184 : Code := (Tryz.f184.body).getD .skip

noncomputable def B185 : Code := (Tryz.f185.body).getD .skip

noncomputable def B186 : Code := (Tryz.f186.body).getD .skip

noncomputable def B187 : Code := (Tryz.f187.body).getD .skip

noncomputable def B188 : Code := (Tryz.f188.body).getD .skip

noncomputable def B189 : Code := (Tryz.f189.body).getD .skip

noncomputable def B192 : Code := (Tryz.f192.body).getD .skip

noncomputable def B193 : Code := (Tryz.f193.body).getD .skip

noncomputable def B196 : Code := (Tryz.f196.body).getD .skip

noncomputable def B197 : Code := (Tryz.f197.body).getD .skip

noncomputable def B203 : Code := (Tryz.f203.body).getD .skip

noncomputable def B204 : Code := (Tryz.f204.body).getD .skip

noncomputable def B205 : Code := (Tryz.f205.body).getD .skip

noncomputable def B206 : Code := (Tryz.f206.body).getD .skip

noncomputable def B221 : Code := (Tryz.f221.body).getD .skip

noncomputable def B222 : Code := (Tryz.f222.body).getD .skip

noncomputable def B223 : Code := (Tryz.f223.body).getD .skip

noncomputable def B224 : Code := (Tryz.f224.body).getD .skip

noncomputable def B225 : Code := (Tryz.f225.body).getD .skip

noncomputable def B226 : Code := (Tryz.f226.body).getD .skip

noncomputable def B227 : Code := (Tryz.f227.body).getD .skip

noncomputable def B228 : Code := (Tryz.f228.body).getD .skip

noncomputable def B229 : Code := (Tryz.f229.body).getD .skip

noncomputable def B230 : Code := (Tryz.f230.body).getD .skip

noncomputable def B231 : Code := (Tryz.f231.body).getD .skip

noncomputable def B232 : Code := (Tryz.f232.body).getD .skip

noncomputable def B233 : Code := (Tryz.f233.body).getD .skip

noncomputable def B234 : Code := (Tryz.f234.body).getD .skip

noncomputable def B238 : Code := (Tryz.f238.body).getD .skip

noncomputable def B241 : Code := (Tryz.f241.body).getD .skip

noncomputable def B242 : Code := (Tryz.f242.body).getD .skip

noncomputable def B245 : Code := (Tryz.f245.body).getD .skip

noncomputable def B246 : Code := (Tryz.f246.body).getD .skip

noncomputable def B247 : Code := (Tryz.f247.body).getD .skip

noncomputable def B248 : Code := (Tryz.f248.body).getD .skip

noncomputable def B250 : Code := (Tryz.f250.body).getD .skip

noncomputable def B252 : Code := (Tryz.f252.body).getD .skip

def J0 := Ys 111 B23 []
def Q1 := Yq 110 B23

def Post.z0 (r : Nat × Z) (v : Value) (w' : World) : Prop :=
 ∃ S' gq Ee0, v = (pt gq 0) ∧ Ext S0 w0 S' w' ∧ Hp nz wz S' w' (PL Ee0 (Lr)) ∧ Pa 80 S' r.1 gq ∧ PS S' w' Ee0 r.2

theorem W.z0 (pl : Z) (r : Nat × Z) (h : M.a4q pl = some r) {nz wz S0 w0 Lr} (Epl) (p0 : Hp nz wz S0 w0 (PL Epl (Lr))) (fpl : PS S0 w0 Epl pl) :
  Calls Tryz.prog 23 #[] w0 (Rets (Post.z0 nz wz S0 w0 Lr r)) := by
 refine Zf Tryz.f23 B23 6 ?_
 refine Gj 6 [] fun junk => ?_
 delta M.a4q at h
 refine Hn 6 (Zr Q1 [0, 1, 2, 3, 4, 5] J0) ?_
 refine Op_.mkM 77 1 77 77 0 (Value.int .u64) (kSl kT55) p0 rfl fpl.za Goes.v fun g1 S2 w2 E2 z2 p2 a3 f4 => ?_
 refine Op_.mkM 78 2 78 78 1 Value.string (kInt .u64) p2 rfl (fpl.zb.ext z2) Goes.v fun g5 S3 w3 E6 z3 p3 a7 f8 => ?_
 refine Op_.mkM 79 3 79 79 2 Value.string (kPp 126) p3 rfl (fpl.zc.ext (z2.t z3)) Goes.v fun g9 S4 w4 E10 z4 p4 a11 f12 => ?_
 refine Hn 1 (Zr Q1 [4, 5] J0) ?_
 refine Gl h fun v13 e14 h => ?_
 refine Op_.boxP 81 (.tmp 4) 5 24 80 3 (.agg #[.map (some g1), .map (some g5), .map (some g9)]) [.map (some g1), .map (some g5), .map (some g9)] (⟨(some pl.za.length), (some pl.zb.length), (some pl.zc.length)⟩ : T80) v13 p4 rfl (fpl.zd.ext ((z2.t z3).t z4)) Goes.v (by kernel_rfl) (by kernel_rfl) ⟨[.map (some g1)], [.map (some g5), .map (some g9)], rfl, (show (kMp 77).rep S4 w4 [.map (some g1)] (some pl.za.length) from (MpO.mk (a3.ext (z3.t z4)))), ⟨[.map (some g5)], [.map (some g9)], rfl, (show (kMp 78).rep S4 w4 [.map (some g5)] (some pl.zb.length) from (MpO.mk (a7.ext z4))), (show (kMp 79).rep S4 w4 [.map (some g9)] (some pl.zc.length) from (MpO.mk a11))⟩⟩ e14 fun g15 S5 w5 E16 z5 p5 a17 f18 => ?_
 refine Hn 2 J0 ?_
 obtain rfl := sj h
 exact Hr Tryz.f23 ⟨_, _, {Epl with za := E2, zb := E6, zc := E10, zd := E16}, rfl, (((z2.t z3).t z4).t z5), p5, a17, (PS.uzd (PS.uzc (PS.uzb (PS.uza (fpl.ext (((z2.t z3).t z4).t z5)) (f4.ext ((z3.t z4).t z5))) (f8.ext (z4.t z5))) (f12.ext z5)) f18)⟩

def J3 := Ys 111 B59 []
def Q3 := Yq 110 B59

def Post.z1 (Epl : ZE) (pl : Z) (r : Bool) (v : Value) (w' : World) : Prop :=
 ∃ S', v = .bool r ∧ Ext S0 w0 S' w' ∧ Hp nz wz S' w' (PL Epl (Lr))

theorem W.z1 (x0 : Nat) (pl : Z) (r : Bool) (h : M.a7 x0 pl = some r) {nz wz S0 w0 Lr} (gx0 Epl) (p0 : Hp nz wz S0 w0 (PL Epl (Lr))) (fx0 : Pa 80 S0 x0 gx0) (fpl : PS S0 w0 Epl pl) :
  Calls Tryz.prog 59 #[(pt gx0 0)] w0 (Rets (Post.z1 nz wz S0 w0 Lr Epl pl r)) := by
 refine Zf Tryz.f59 B59 11 ?_
 refine Gj 12 [(0, (pt gx0 0))] fun junk => ?_
 delta M.a7 at h
 refine Hn 12 (Zr Q3 [6, 7, 8, 9] J3) ?_
 obtain ⟨cs1, q2, l3, e4, f5⟩ := Pl.row p0 3 rfl fpl.zd fx0
 obtain ⟨_, _, rfl, q8, ⟨_, _, rfl, q11, q14⟩⟩ := q2
 obtain ⟨v6, rfl, f7⟩ := kMp_one (w := w0) q8
 obtain ⟨v9, rfl, f10⟩ := kMp_one (w := w0) q11
 obtain ⟨v12, rfl, f13⟩ := kMp_one (w := w0) q14
 refine Hd (f5 0 _ rfl) ?_
 refine Gl h fun v19 h15 h => ?_
 rcases v19 with _ | y16
 ·
  try dsimp only at h
  obtain rfl := MpO.nil f7 h15
  refine Hn 4 J3 ?_
  obtain rfl := sj h
  exact Hr Tryz.f59 ⟨_, rfl, (Ext.refl S0 w0), p0⟩
 ·
  try dsimp only at h
  obtain ⟨g17, rfl, f18⟩ := MpO.got f7 h15
  refine Hn 4 J3 ?_
  obtain rfl := sj h
  exact Hr Tryz.f59 ⟨_, rfl, (Ext.refl S0 w0), p0⟩

def J6 := Zb 0 (Ys 111 B204 [])
def J7 := Ys 11001 B204 J6
def J9 := Ys 1100111 B204 J6
def Jc := Ys 1111 B204 []

def Post.z2 (r : Bool) (v : Value) (w' : World) : Prop :=
 ∃ S', v = .bool r ∧ Ext S0 w0 S' w' ∧ Hp nz wz S' w' (Lr)

def L.z3 : Int × Bool × Bool → Bool → Prop := fun ⟨x0, x1, x5⟩ r => ∀ S1 w1, Ext S0 w0 S1 w1 → ∀ (_ : Hp nz wz S1 w1 (Lr)) (junk : Nat → Value),
 Goes Tryz.prog (base 204) J7 ⟨lfr 29 [(0, .int .u8 x0), (1, .bool x1), (5, .bool x5)] junk, []⟩ w1 (Done Tryz.prog 204 (Rets (Post.z2 nz wz S0 w0 Lr r)))

theorem W.z3 {nz wz S0 w0 Lr} : ∀ a r, M.a3p a = some r → L.z3 nz wz S0 w0 Lr a r := by
 intro ⟨x0, x1, x5⟩ r h S1 w1 hx p1 junk
 rw [M.a3p] at h
 try dsimp only at h
 refine Hb [(5, .bool x5)] ?_
 refine Gi h (fun h3 h => ?_) fun h3 h => ?_
 ·
  rw [h3]
  refine Hn 5 (Ys 1100101 B204 J6) ?_
  obtain rfl := sj h
  exact Hr Tryz.f204 ⟨_, rfl, hx, p1⟩
 ·
  rw [bf h3]
  refine Hn 6 (Yt 1100110 B204 [3, 4, 5, 6] J9) ?_
  refine Hb [(22, .bool (decide (x0 ≥ 48))), (23, .bool (decide (x0 ≥ 48)))] ?_
  refine Gi h (fun h4 h => ?_) fun h4 h => ?_
  ·
   rw [dt h4]
   refine Hn 5 J9 ?_
   refine Hb [(25, .bool (decide (x0 ≤ 57))), (26, .bool (decide (x0 ≤ 57))), (20, .bool (decide (x0 ≤ 57)))] ?_
   refine Gi h (fun h5 h => ?_) fun h5 h => ?_
   ·
    rw [dt h5]
    refine Hn 7 (Ys 110011101 B204 J6) ?_
    obtain rfl := sj h
    exact Hr Tryz.f204 ⟨_, rfl, hx, p1⟩
   ·
    rw [df h5]
    refine Hn 7 Jc ?_
    obtain rfl := sj h
    exact Hr Tryz.f204 ⟨_, rfl, hx, p1⟩
  ·
   rw [df h4]
   refine Hn 12 Jc ?_
   obtain rfl := sj h
   exact Hr Tryz.f204 ⟨_, rfl, hx, p1⟩

def Jd := Ys 11000111 B204 J7

def L.z4 : Int × Bool × Bool → Bool → Prop := fun ⟨x0, x1, x5⟩ r => ∀ S1 w1, Ext S0 w0 S1 w1 → ∀ (_ : Hp nz wz S1 w1 (Lr)) (junk : Nat → Value),
 Goes Tryz.prog (base 204) Jd ⟨lfr 29 [(0, .int .u8 x0), (1, .bool x1), (5, .bool x5)] junk, []⟩ w1 (Done Tryz.prog 204 (Rets (Post.z2 nz wz S0 w0 Lr r)))

theorem W.z4 {nz wz S0 w0 Lr} : ∀ a r, M.a5q a = some r → L.z4 nz wz S0 w0 Lr a r := by
 intro ⟨x0, x1, x5⟩ r h S1 w1 hx p1 junk
 rw [M.a5q] at h
 try dsimp only at h
 refine Hb [(5, .bool x5)] ?_
 refine Gi h (fun h6 h => ?_) fun h6 h => ?_
 ·
  rw [h6]
  refine Hn 2 J7 ?_
  exact Gk (W.z3 _ _ h _ _ hx p1)
 ·
  rw [bf h6]
  refine Hn 5 (Yt 110001111 B204 [3, 4, 5, 6] J7) ?_
  refine Hb [(15, .bool (decide (x0 ≥ 65))), (16, .bool (decide (x0 ≥ 65)))] ?_
  refine Gi h (fun h7 h => ?_) fun h7 h => ?_
  ·
   rw [dt h7]
   refine Hn 5 J7 ?_
   exact Gk (W.z3 _ _ h _ _ hx p1)
  ·
   rw [df h7]
   refine Hn 5 J7 ?_
   exact Gk (W.z3 _ _ h _ _ hx p1)


theorem W.z2 (x0 : Int) (x1 : Bool) (r : Bool) (h : M.a5c x0 x1 = some r) {nz wz S0 w0 Lr} (p0 : Hp nz wz S0 w0 (Lr)) :
  Calls Tryz.prog 204 #[.int .u8 x0, .bool x1] w0 (Rets (Post.z2 nz wz S0 w0 Lr r)) := by
 refine Zf Tryz.f204 B204 27 ?_
 refine Gj 29 [(0, .int .u8 x0), (1, .bool x1)] fun junk => ?_
 delta M.a5c at h
 refine Hn 13 (Ys 110001 B204 J7) ?_
 refine Hb [(7, .bool (decide (x0 = 95))), (5, .bool (decide (x0 = 95)))] ?_
 refine Gi h (fun h1 h => ?_) fun h1 h => ?_
 ·
  rw [dt h1]
  refine Hn 2 J7 ?_
  exact Gk (W.z3 _ _ h _ _ (Ext.refl S0 w0) p0)
 ·
  rw [df h1]
  refine Hn 6 (Yt 11000110 B204 [3, 4, 5, 6] Jd) ?_
  refine Hb [(9, .bool (decide (x0 ≥ 97))), (10, .bool (decide (x0 ≥ 97)))] ?_
  refine Gi h (fun h2 h => ?_) fun h2 h => ?_
  ·
   rw [dt h2]
   refine Hn 5 Jd ?_
   exact Gk (W.z4 _ _ h _ _ (Ext.refl S0 w0) p0)
  ·
   rw [df h2]
   refine Hn 5 Jd ?_
   exact Gk (W.z4 _ _ h _ _ (Ext.refl S0 w0) p0)

def Qg := Yq 110100 B159
def Jj := Zl Qg (Zb 0 (Ys 111 B159 []))
def Jk := Zc Qg Jj
def Jo := Zb 1 (Ys 110100111 B159 Jj)
def Jp := Ys 110100110011 B159 Jo
def Ql := Yq 110100110010 B159
def Jt := Ys 1111 B159 []

def Post.z5 (r : Bool) (v : Value) (w' : World) : Prop :=
 ∃ S', v = .bool r ∧ Ext S0 w0 S' w' ∧ Hp nz wz S' w' (Lr)

def L.z6 : ByteArray × Int × Int → Bool → Prop := fun ⟨x0, x5, x6⟩ r => ∀ S1 w1, Ext S0 w0 S1 w1 → ∀ (_ : Hp nz wz S1 w1 (Lr)) (junk : Nat → Value),
 Goes Tryz.prog (base 159) Jk ⟨lfr 24 [(0, .string x0), (5, .i x5), (6, .i x6)] junk, []⟩ w1 (Done Tryz.prog 159 (Rets (Post.z5 nz wz S0 w0 Lr r)))

theorem W.z6 {nz wz S0 w0 Lr} : ∀ a r, M.a1y a = some r → (L.z6 nz wz S0 w0 Lr) a r := by
 refine M.a1y.partial_correctness (motive := (L.z6 nz wz S0 w0 Lr)) ?_
 intro u0 u1 ⟨x0, x5, x6⟩ r h S1 w1 hx p1 junk
 try dsimp only at h
 refine Hn 5 (Ys 11010010 B159 (Ys 11010011 B159 Jj)) ?_
 refine Hb [(7, .bool (decide (x6 < x5)))] ?_
 refine Gi h (fun h1 h => ?_) fun h1 h => ?_
 ·
  rw [dt h1]
  refine Hn 13 (Zr Ql [2, 3, 4, 5, 6] Jp) ?_
  refine Gg h fun g2 h => ?_
  refine Gg h fun g3 h => ?_
  refine Op_.ixS 9 (.tmp 9) (.tmp 10) 11 5 .i64 x0 x6 Goes.v (by kernel_rfl) (by kernel_rfl) (by kernel_rfl) g2 g3 ?_
  refine Hn 2 (Zr Ql [5, 6] Jp) ?_
  refine Gb h fun y4 e5 h => ?_
  refine Gc (kc 204 [11, 13] #[5, 4]) 14 4 204 _ (W.z2 (bt x0 x6) (decide (x6 = 0)) y4 e5  p1 ) ?_
  rintro _ w2 ⟨S2, rfl, z2, p2⟩
  refine Hn 2 Jp ?_
  refine Hb [(14, .bool y4), (15, .bool (!y4))] ?_
  refine Gi h (fun h6 h => ?_) fun h6 h => ?_
  ·
   rw [h6]
   refine Hn 8 Jk ?_
   exact Gk (u1 _ _ h _ _ (hx.t z2) p2)
  ·
   rw [bf h6]
   refine Hn 5 (Ys 11010011001101 B159 Jo) ?_
   obtain rfl := sj h
   exact Hr Tryz.f159 ⟨_, rfl, (hx.t z2), p2⟩
 ·
  rw [df h1]
  refine Hn 7 (Yt 1110 B159 [3, 4, 5, 6, 7] Jt) ?_
  refine Hb [(18, .bool (!(x0.toList == (⟨#[]⟩ : ByteArray).toList))), (19, .bool (!(x0.toList == (⟨#[]⟩ : ByteArray).toList)))] ?_
  refine Gi h (fun h7 h => ?_) fun h7 h => ?_
  ·
   rw [h7]
   refine Hn 6 Jt ?_
   obtain rfl := sj h
   exact Hr Tryz.f159 ⟨_, rfl, hx, p1⟩
  ·
   rw [bf h7]
   refine Hn 6 Jt ?_
   obtain rfl := sj h
   exact Hr Tryz.f159 ⟨_, rfl, hx, p1⟩

theorem W.z5 (x0 : ByteArray) (r : Bool) (h : M.a3u x0 = some r) {nz wz S0 w0 Lr} (p0 : Hp nz wz S0 w0 (Lr)) :
  Calls Tryz.prog 159 #[.string x0] w0 (Rets (Post.z5 nz wz S0 w0 Lr r)) := by
 refine Zf Tryz.f159 B159 23 ?_
 refine Gj 24 [(0, .string x0)] fun junk => ?_
 delta M.a3u at h
 refine Hn 13 Jk ?_
 exact Gk (W.z6 _ _ h _ _ (Ext.refl S0 w0) p0)

def Jw := Zb 0 (Ys 11111 B96 [])
def Qq := Yq 11110100 B96
def Jx := Zl Qq Jw
def Jy := Zc Qq Jx
def J10 := Zb 1 (Ys 11110100111 B96 Jx)
def Qs := Yq 11110100110011 B96
def J11 := Zc Qs J10
def J12 := Ys 111101001100101 B96 J11
def Qy := Yq 111101001100100 B96

def Post.z7 (r : Int) (v : Value) (w' : World) : Prop :=
 ∃ S', v = .i r ∧ Ext S0 w0 S' w' ∧ Hp nz wz S' w' (Lr)

def L.z8 : ByteArray × (List T55) × Int × Int → Int → Prop := fun ⟨x3, x14, x15, x16⟩ r => ∀ S1 w1, Ext S0 w0 S1 w1 → ∀ u2 u3 u4 (_ : Hp nz wz S1 w1 (Lr)) (_ : Rd kT55 S1 w1 u2 u4 x14) (_ : x14.length = u3) (junk : Nat → Value),
 Goes Tryz.prog (base 96) Jy ⟨lfr 44 [(3, .string x3), (14, .slice u2 u3 u4), (15, .i x15), (16, .i x16)] junk, []⟩ w1 (Done Tryz.prog 96 (Rets (Post.z7 nz wz S0 w0 Lr r)))

def L.z9 : T55 × (List T55) × Int × Int × Bool → Int → Prop := fun ⟨x5v, x14, x15, x16, x40⟩ r => ∀ S1 w1, Ext S0 w0 S1 w1 → ∀ gx5 u2 u3 u4 (_ : Hp nz wz S1 w1 ((some gx5, .row 56 (vT55 x5v) 2 0) :: Lr)) (_ : Rd kT55 S1 w1 u2 u4 x14) (_ : x14.length = u3) (junk : Nat → Value),
 Goes Tryz.prog (base 96) J12 ⟨lfr 44 [(5, (pt gx5 0)), (14, .slice u2 u3 u4), (15, .i x15), (16, .i x16), (40, .bool x40)] junk, []⟩ w1 (Done Tryz.prog 96 (Rets (Post.z7 nz wz S0 w0 Lr r)))

theorem W.za {nz wz S0 w0 Lr} : (∀ a r, M.a1q a = some r → (L.z8 nz wz S0 w0 Lr) a r) ∧ (∀ a r, M.a14 a = some r → (L.z9 nz wz S0 w0 Lr) a r) := by
 refine M.a1q.mutual_partial_correctness (L.z8 nz wz S0 w0 Lr) (L.z9 nz wz S0 w0 Lr) ?_ ?_
 ·
  intro u5 u6 ⟨x3, x14, x15, x16⟩ r h S1 w1 hx u2 u3 u4 p1 u7 u8 junk
  try dsimp only at h
  subst u8
  refine Hn 5 (Ys 1111010010 B96 (Ys 1111010011 B96 Jx)) ?_
  refine Hb [(17, .bool (decide (x16 < x15)))] ?_
  refine Gi h (fun h3 h => ?_) fun h3 h => ?_
  ·
   rw [dt h3]
   refine Hn 6 (Yt 1111010011000 B96 [0, 1, 2, 3] (Ys 1111010011001 B96 J10)) ?_
   refine Gg h fun g4 h => ?_
   refine Gg h fun g5 h => ?_
   refine Oi 38 (.tmp 14) (.tmp 16) 18 0 56 .i64 x16 (gi x14 x16) rfl rfl u7 Goes.v g4 g5 fun a6 _ f7 q8 => ?_
   obtain ⟨_, _, rfl, rfl, rfl⟩ := q8
   refine Goes.ldN 56 (.tmp 18) 19 56 a6 ([.string ((gi x14 x16).Name)] ++ [.string ((gi x14 x16).Value)]) (f7.cell) ?_
   refine Oa 56 5 0 (.agg #[.string (⟨#[]⟩ : ByteArray), .string (⟨#[]⟩ : ByteArray)]) [.string (⟨#[]⟩ : ByteArray), .string (⟨#[]⟩ : ByteArray)] p1 Goes.v fun b9 w2 z2 p2 => ?_
   refine So 56 (.tmp 5) (.tmp 19) 0 0 b9 0 ((ag (vT55 (gi x14 x16)))) (vT55 (gi x14 x16)) p2 rfl Goes.s fun w3 z3 p3 => ?_
   refine Hn 5 (Zr Qy [1, 2, 3, 4, 5, 6, 7, 8, 9, 10, 11, 12, 13, 14, 15, 16, 17, 18, 19, 20] J12) ?_
   refine Hd (p3.e 0 0) ?_
   refine Gb h fun y11 e12 h => ?_
   refine Gc (kc 159 [21] #[9]) 22 4 159 _ (W.z5 ((gi x14 x16).Name) y11 e12  p3 ) ?_
   rintro _ w4 ⟨S4, rfl, z4, p4⟩
   refine Hn 2 (Zr Qy [5, 6, 7, 8, 9, 10, 11, 12, 13, 14, 15, 16, 17, 18, 19, 20] J12) ?_
   refine Hb [(22, .bool y11), (23, .bool (!y11)), (24, .bool (!y11))] ?_
   refine Gi h (fun h13 h => ?_) fun h13 h => ?_
   ·
    rw [h13]
    refine Hn 1 (Zr Qy [6, 7, 8, 9, 10, 11, 12, 13, 14, 15, 16, 17, 18, 19, 20] J12) ?_
    refine Hd (p4.e 0 0) ?_
    refine Hn 4 (Zr Qy [11, 12, 13, 14, 15, 16, 17, 18, 19, 20] J12) ?_
    refine Hb [(28, .bool (Op.bytesLess ((gi x14 x16).Name).toList x3.toList || ((gi x14 x16).Name).toList == x3.toList)), (29, .bool (Op.bytesLess ((gi x14 x16).Name).toList x3.toList || ((gi x14 x16).Name).toList == x3.toList)), (30, .bool (Op.bytesLess ((gi x14 x16).Name).toList x3.toList || ((gi x14 x16).Name).toList == x3.toList))] ?_
    refine Gi h (fun h14 h => ?_) fun h14 h => ?_
    ·
     rw [h14]
     refine Hn 11 J12 ?_
     exact Gk (u6 _ _ h _ _ (((hx.t z2).t z3).t z4) _ _ _ _ p4 (u7.ext ((z2.t z3).t z4)) rfl)
    ·
     rw [bf h14]
     refine Hn 1 (Zr Qy [12, 13, 14, 15, 16, 17, 18, 19, 20] J12) ?_
     refine Hd (p4.e 0 1) ?_
     refine Hn 3 (Zr Qy [16, 17, 18, 19, 20] J12) ?_
     refine Hb [(33, .bool (((gi x14 x16).Value).toList == (⟨#[]⟩ : ByteArray).toList)), (34, .bool (((gi x14 x16).Value).toList == (⟨#[]⟩ : ByteArray).toList)), (35, .bool (((gi x14 x16).Value).toList == (⟨#[]⟩ : ByteArray).toList))] ?_
     refine Gi h (fun h16 h => ?_) fun h16 h => ?_
     ·
      rw [h16]
      refine Hn 6 J12 ?_
      exact Gk (u6 _ _ h _ _ (((hx.t z2).t z3).t z4) _ _ _ _ p4 (u7.ext ((z2.t z3).t z4)) rfl)
     ·
      rw [bf h16]
      refine Hn 1 (Zr Qy [17, 18, 19, 20] J12) ?_
      refine Hd (p4.e 0 1) ?_
      refine Hn 4 J12 ?_
      exact Gk (u6 _ _ h _ _ (((hx.t z2).t z3).t z4) _ _ _ _ p4 (u7.ext ((z2.t z3).t z4)) rfl)
   ·
    rw [bf h13]
    refine Hn 14 (Zr Qy [19, 20] J12) ?_
    refine Hn 3 J12 ?_
    exact Gk (u6 _ _ h _ _ (((hx.t z2).t z3).t z4) _ _ _ _ p4 (u7.ext ((z2.t z3).t z4)) rfl)
  ·
   rw [df h3]
   refine Hn 6 (Ys 111111 B96 []) ?_
   obtain rfl := sj h
   exact Hr Tryz.f96 ⟨_, rfl, hx, p1⟩
 ·
  intro uc ud ⟨x5v, x14, x15, x16, x40⟩ r h S1 w1 hx gx5 u2 u3 u4 p1 u7 u8 junk
  try dsimp only at h
  subst u8
  refine Hb [(40, .bool x40)] ?_
  refine Gi h (fun h17 h => ?_) fun h17 h => ?_
  ·
   rw [h17]
   refine Hn 5 (Ys 11110100110010101 B96 J11) ?_
   obtain rfl := sj h
   have p1 := p1.dp 0
   exact Hr Tryz.f96 ⟨_, rfl, hx, p1⟩
  ·
   rw [bf h17]
   refine Hn 4 (Zr Qs [1, 2] J10) ?_
   refine Hd (p1.e 0 0) ?_
   refine Hn 8 Jy ?_
   have p1 := p1.dp 0
   exact Gk (ud _ _ h _ _ hx _ _ _ p1 u7 rfl)

theorem W.z8 {nz wz S0 w0 Lr} : ∀ a r, M.a1q a = some r → (L.z8 nz wz S0 w0 Lr) a r := (W.za).1

theorem W.z9 {nz wz S0 w0 Lr} : ∀ a r, M.a14 a = some r → (L.z9 nz wz S0 w0 Lr) a r := (W.za).2

def J1i := Ys 111 B96 []
def J1j := Ys 1101 B96 J1i

def L.zb : (List T55) × Bool → Int → Prop := fun ⟨x0, x13⟩ r => ∀ S1 w1, Ext S0 w0 S1 w1 → ∀ Ax0 nx0 cx0 (_ : Hp nz wz S1 w1 (Lr)) (_ : Rd kT55 S1 w1 Ax0 cx0 x0) (_ : x0.length = nx0) (junk : Nat → Value),
 Goes Tryz.prog (base 96) J1j ⟨lfr 44 [(0, .slice Ax0 nx0 cx0), (13, .bool x13)] junk, []⟩ w1 (Done Tryz.prog 96 (Rets (Post.z7 nz wz S0 w0 Lr r)))

theorem W.zb {nz wz S0 w0 Lr} : ∀ a r, M.a2x a = some r → L.zb nz wz S0 w0 Lr a r := by
 intro ⟨x0, x13⟩ r h S1 w1 hx Ax0 nx0 cx0 p1 fx0 lx0 junk
 rw [M.a2x] at h
 try dsimp only at h
 subst lx0
 refine Hb [(13, .bool x13)] ?_
 refine Gi h (fun h2 h => ?_) fun h2 h => ?_
 ·
  rw [h2]
  refine Hn 5 (Ys 110101 B96 J1i) ?_
  obtain rfl := sj h
  exact Hr Tryz.f96 ⟨_, rfl, hx, p1⟩
 ·
  rw [bf h2]
  refine Hn 14 (Ys 1111010 B96 Jw) ?_
  refine Hn 1 Jy ?_
  exact Gk (W.z8 _ _ h _ _ hx _ _ _ p1 fx0 rfl)


theorem W.z7 (x0 : List T55) (r : Int) (h : M.a3v x0 = some r) {nz wz S0 w0 Lr} (Ax0 nx0 cx0) (p0 : Hp nz wz S0 w0 (Lr)) (fx0 : Rd kT55 S0 w0 Ax0 cx0 x0) (lx0 : x0.length = nx0) :
  Calls Tryz.prog 96 #[.slice Ax0 nx0 cx0] w0 (Rets (Post.z7 nz wz S0 w0 Lr r)) := by
 subst lx0
 refine Zf Tryz.f96 B96 43 ?_
 refine Gj 44 [(0, .slice Ax0 x0.length cx0)] fun junk => ?_
 delta M.a3v at h
 refine Hn 11 (Yt 1100 B96 [4, 5, 6, 7] J1j) ?_
 refine Hb [(8, .bool (decide ((x0.length : Int) = 0))), (9, .bool (decide ((x0.length : Int) = 0)))] ?_
 refine Gi h (fun h1 h => ?_) fun h1 h => ?_
 ·
  rw [dt h1]
  refine Hn 5 J1j ?_
  exact Gk (W.zb _ _ h _ _ (Ext.refl S0 w0) _ _ _ p0 fx0 rfl)
 ·
  rw [df h1]
  refine Hn 5 J1j ?_
  exact Gk (W.zb _ _ h _ _ (Ext.refl S0 w0) _ _ _ p0 fx0 rfl)


def Post.zc (r : Int) (v : Value) (w' : World) : Prop :=
 ∃ S', v = .u r ∧ Ext S0 w0 S' w' ∧ Hp nz wz S' w' (Lr)

theorem W.zc (x0 : Int) (r : Int) (h : M.a5d x0 = some r) {nz wz S0 w0 Lr} (p0 : Hp nz wz S0 w0 (Lr)) :
  Calls Tryz.prog 197 #[.u x0] w0 (Rets (Post.zc nz wz S0 w0 Lr r)) := by
 refine Zf Tryz.f197 B197 3 ?_
 refine Gj 4 [(0, .u x0)] fun junk => ?_
 delta M.a5d at h
 refine Hn 9 (Ys 111 B197 []) ?_
 obtain rfl := sj h
 exact Hr Tryz.f197 ⟨_, rfl, (Ext.refl S0 w0), p0⟩

def Q18 := Yq 1111000 B196
def J1q := Zl Q18 (Zb 0 (Ys 11111 B196 []))
def J1r := Zc Q18 J1q
def J1x := Ys 111111 B196 []

def Post.zd (r : List Int) (v : Value) (w' : World) : Prop :=
 ∃ S' Gq nq cq csq, v = .slice (Gp Gq) nq cq ∧ Ext S0 w0 S' w' ∧ Hp nz wz S' w' ((Gq, .row 5 csq (cq * (kInt .u8).size) 0) :: Lr) ∧ Els (kInt .u8) S' w' csq r ∧ r.length = nq

def L.ze : (List Int) × Int → (List Int) → Prop := fun ⟨x7, x8⟩ r => ∀ S1 w1, Ext S0 w0 S1 w1 → ∀ Gx7 nx7 cx7 uf (_ : Hp nz wz S1 w1 ((Gx7, .row 5 uf (cx7 * (kInt .u8).size) 0) :: Lr)) (_ : Els (kInt .u8) S1 w1 uf x7) (_ : x7.length = nx7) (junk : Nat → Value),
 Goes Tryz.prog (base 196) J1r ⟨lfr 33 [(7, .slice (Gp Gx7) nx7 cx7), (8, .u x8)] junk, []⟩ w1 (Done Tryz.prog 196 (Rets (Post.zd nz wz S0 w0 Lr r)))

theorem W.ze {nz wz S0 w0 Lr} : ∀ a r, M.a1z a = some r → (L.ze nz wz S0 w0 Lr) a r := by
 refine M.a1z.partial_correctness (motive := (L.ze nz wz S0 w0 Lr)) ?_
 intro ug uh ⟨x7, x8⟩ r h S1 w1 hx Gx7 nx7 cx7 uf p1 fx7 lx7 junk
 try dsimp only at h
 subst lx7
 refine Hn 6 (Ys 111100001 B196 (Ys 11110001 B196 J1q)) ?_
 refine Hb [(19, .bool (decide (x8 > 127)))] ?_
 refine Gi h (fun h18 h => ?_) fun h18 h => ?_
 ·
  rw [dt h18]
  refine Hn 9 (Yt 1111000100 B196 [4, 5, 6] (Zb 1 (Ys 111100011 B196 J1q))) ?_
  have f20 : Els (kInt .u8) S1 w1 ([.int .u8 (ior .u8 (wr .u8 x8) 128)] : List Value) [ior .u8 (wr .u8 x8) 128] := by exact (Els.cons (K := (kInt .u8)) (vs := [.int .u8 (ior .u8 (wr .u8 x8) 128)]) (x := ior .u8 (wr .u8 x8) 128) rfl Els.nil)
  refine Om (.buildSlice 86 1 #[(0, (.tmp 25))]) 26 86 (fun b => .slice (Gp (some b)) 1 1) 5 ([.int .u8 (ior .u8 (wr .u8 x8) 128)] : List Value) (1 * (kInt .u8).size) p1 Goes.v fun b19 w5 z5 p5 => ?_
  refine Gg h fun g25 h => ?_
  refine On (K := (kInt .u8)) 86 (.tmp 22) (.tmp 26) 27 86 5 1 (.int .u8 0) 1 x7.length cx7 1 x7 [ior .u8 (wr .u8 x8) 128] (x7 ++ [ior .u8 (wr .u8 x8) 128]) (Gp (some b19)) 1 rfl rfl rfl p5 rfl (fx7.ext z5) Goes.v (f20.ext z5) (src_own p5 (q := 0) rfl) g25 fun w6 G26 c27 ui z6 p6 f29 => ?_
  refine Hn 9 J1r ?_
  have p6 := p6.dp 0
  exact Gk (uh _ _ h _ _ ((hx.t z5).t z6) _ _ _ _ p6 f29 rfl)
 ·
  rw [df h18]
  refine Hn 7 (Yt 111110 B196 [3, 4, 5] J1x) ?_
  have f31 : Els (kInt .u8) S1 w1 ([.int .u8 (wr .u8 x8)] : List Value) [wr .u8 x8] := by exact (Els.cons (K := (kInt .u8)) (vs := [.int .u8 (wr .u8 x8)]) (x := wr .u8 x8) rfl Els.nil)
  refine Om (.buildSlice 86 1 #[(0, (.tmp 30))]) 31 86 (fun b => .slice (Gp (some b)) 1 1) 5 ([.int .u8 (wr .u8 x8)] : List Value) (1 * (kInt .u8).size) p1 Goes.v fun b30 w7 z7 p7 => ?_
  refine Gg h fun g36 h => ?_
  refine On (K := (kInt .u8)) 86 (.tmp 28) (.tmp 31) 32 86 5 1 (.int .u8 0) 1 x7.length cx7 1 x7 [wr .u8 x8] (x7 ++ [wr .u8 x8]) (Gp (some b30)) 1 rfl rfl rfl p7 rfl (fx7.ext z7) Goes.v (f31.ext z7) (src_own p7 (q := 0) rfl) g36 fun w8 G37 c38 uj z8 p8 f40 => ?_
  refine Hn 2 J1x ?_
  obtain rfl := sj h
  have p8 := p8.dp 0
  exact Hr Tryz.f196 ⟨_, _, _, _, _, rfl, ((hx.t z7).t z8), p8, f40, rfl⟩

def J1z := Ys 111 B196 []
def Q1g := Yq 110 B196

theorem W.zd (x0 : List Int) (x1 : Int) (r : List Int) (h : M.a3w x0 x1 = some r) {nz wz S0 w0 Lr} (Ax0 nx0 cx0) (p0 : Hp nz wz S0 w0 (Lr)) (fx0 : Rd (kInt .u8) S0 w0 Ax0 cx0 x0) (lx0 : x0.length = nx0) :
  Calls Tryz.prog 196 #[.slice Ax0 nx0 cx0, .u x1, .func (.func 197) #[] #[]] w0 (Rets (Post.zd nz wz S0 w0 Lr r)) := by
 subst lx0
 refine Zf Tryz.f196 B196 30 ?_
 refine Gj 33 [(0, .slice Ax0 x0.length cx0), (1, .u x1), (2, .func (.func 197) #[] #[])] fun junk => ?_
 delta M.a3w at h
 refine Hn 9 (Zr Q1g [3, 4, 5, 6] J1z) ?_
 refine Gg h fun g1 h => ?_
 refine Gg h fun g2 h => ?_
 refine Op_.mk_n (K := (kInt .u8)) 86 (.const (.int .i64 0)) (.tmp 11) 12 86 5 .i64 .i64 0 (wr .i64 ((x0.length : Int) + 10)) (.int .u8 0) [.int .u8 0] 1 (0 : Int) ([] : List Int) rfl p0 Goes.v (by kernel_rfl) (by kernel_rfl) (by kernel_rfl) (by kernel_rfl) (by kernel_rfl) (fun _ _ => rfl) (by decide : (0 : Int) ≤ 0) g1 (by have := g2; omega) (by have := g2; omega) fun b3 w2 cs4 z2 p2 f5 => ?_
 refine Hn 1 (Zr Q1g [5, 6] J1z) ?_
 obtain ⟨ns7, f8, f9⟩ := src_rd (fx0.ext z2)
 refine Gg h fun g10 h => ?_
 refine On (K := (kInt .u8)) 86 (.tmp 12) (.tmp 13) 14 86 5 0 (.int .u8 0) 1 (([] : List Int).length) ((wr .i64 ((x0.length : Int) + 10) : Int).toNat) x0.length ([] : List Int) x0 x0 Ax0 cx0 rfl rfl (List.nil_append _) p2 rfl f5 Goes.v f8 f9 g10 fun w3 G11 c12 uk z3 p3 f14 => ?_
 refine Hn 6 (Yt 1110 B196 [2, 3] (Ys 1111 B196 [])) ?_
 refine Gb h fun y15 e16 h => ?_
 refine Gc (.call { callee := .value (.tmp 15), args := #[(.tmp 16)], argTypes := #[35] }) 17 35 197 _ (W.zc x1 y15 e16  p3 ) ?_
 rintro _ w4 ⟨S4, rfl, z4, p4⟩
 refine Hn 5 J1r ?_
 exact Gk (W.ze _ _ h _ _ ((z2.t z3).t z4) _ _ _ _ p4 (f14.ext z4) rfl)

def J24 := Ys 111 B141 []

def Post.zf (r : List Int) (v : Value) (w' : World) : Prop :=
 ∃ S' Gq nq cq csq, v = .slice (Gp Gq) nq cq ∧ Ext S0 w0 S' w' ∧ Hp nz wz S' w' ((Gq, .row 5 csq (cq * (kInt .u8).size) 0) :: Lr) ∧ Els (kInt .u8) S' w' csq r ∧ r.length = nq

theorem W.zf (x0 : List Int) (x1 : Int) (r : List Int) (h : M.a2y x0 x1 = some r) {nz wz S0 w0 Lr} (Ax0 nx0 cx0) (p0 : Hp nz wz S0 w0 (Lr)) (fx0 : Rd (kInt .u8) S0 w0 Ax0 cx0 x0) (lx0 : x0.length = nx0) :
  Calls Tryz.prog 141 #[.slice Ax0 nx0 cx0, .u x1] w0 (Rets (Post.zf nz wz S0 w0 Lr r)) := by
 subst lx0
 refine Zf Tryz.f141 B141 6 ?_
 refine Gj 8 [(0, .slice Ax0 x0.length cx0), (1, .u x1)] fun junk => ?_
 delta M.a2y at h
 refine Hn 8 (Yt 110 B141 [2, 3] J24) ?_
 refine Gb h fun y1 e2 h => ?_
 refine Gc (.call { callee := .value (.func 196), args := #[(.tmp 5), (.tmp 6), (.func 197)], argTypes := #[86, 35, 172] }) 7 86 196 _ (W.zd x0 x1 y1 e2 _ _ _ p0 fx0 rfl) ?_
 rintro _ w2 ⟨S2, ul, um, un, uo, rfl, z2, p2, up, rfl⟩
 refine Hn 2 J24 ?_
 obtain rfl := sj h
 exact Hr Tryz.f141 ⟨_, _, _, _, _, rfl, z2, p2, up, rfl⟩

def J26 := Ys 111 B145 []
def J29 := Ys 1111 B145 []
def Q1p := Yq 1110 B145

def Post.zg (r : (List Int) × Int) (v : Value) (w' : World) : Prop :=
 ∃ S' uq ur ut uu, v = .tuple #[.slice (Gp uq) ur ut, .i r.2] ∧ Ext S0 w0 S' w' ∧ Hp nz wz S' w' ((uq, .row 5 uu (ut * (kInt .u8).size) 0) :: Lr) ∧ Els (kInt .u8) S' w' uu r.1 ∧ r.1.length = ur

theorem W.zg (x0 : List Int) (x1 : List Int) (r : (List Int) × Int) (h : M.a2z x0 x1 = some r) {nz wz S0 w0 Lr} (Ax0 nx0 cx0 Ax1 nx1 cx1) (p0 : Hp nz wz S0 w0 (Lr)) (fx0 : Rd (kInt .u8) S0 w0 Ax0 cx0 x0) (lx0 : x0.length = nx0) (fx1 : Rd (kInt .u8) S0 w0 Ax1 cx1 x1) (lx1 : x1.length = nx1) :
  Calls Tryz.prog 145 #[.slice Ax0 nx0 cx0, .slice Ax1 nx1 cx1] w0 (Rets (Post.zg nz wz S0 w0 Lr r)) := by
 subst lx0
 subst lx1
 refine Zf Tryz.f145 B145 14 ?_
 refine Gj 16 [(0, .slice Ax0 x0.length cx0), (1, .slice Ax1 x1.length cx1)] fun junk => ?_
 delta M.a2z at h
 refine Hn 12 (Ys 1101 B145 J26) ?_
 refine Hb [(8, .bool (decide ((x1.length : Int) > 65536)))] ?_
 refine Gi h (fun h1 h => ?_) fun h1 h => ?_
 ·
  rw [dt h1]
  refine Hn 6 (Ys 110101 B145 J26) ?_
  have p0 : Hp nz wz S0 w0 ((none, .row 5 [] (0 * (kInt .u8).size) 0) :: Lr) := p0.nilRow' 5
  obtain rfl := sj h
  exact Hr Tryz.f145 ⟨_, _, _, _, _, rfl, (Ext.refl S0 w0), p0, (Els.nil (K := (kInt .u8))), rfl⟩
 ·
  rw [df h1]
  refine Hn 8 (Zr Q1p [4, 5, 6, 7, 8] J29) ?_
  refine Gb h fun y3 e4 h => ?_
  refine Gc (kc 141 [9, 12] #[86, 35]) 13 86 141 _ (W.zf x0 (wr .u64 (x1.length : Int)) y3 e4 _ _ _ p0 fx0 rfl) ?_
  rintro _ w2 ⟨S2, ul, um, un, uo, rfl, z2, p2, up, rfl⟩
  refine Hn 1 (Zr Q1p [6, 7, 8] J29) ?_
  obtain ⟨ns6, f7, f8⟩ := src_rd (fx1.ext z2)
  refine Gg h fun g9 h => ?_
  refine On (K := (kInt .u8)) 86 (.tmp 13) (.tmp 14) 15 86 5 0 (.int .u8 0) 1 y3.length un x1.length y3 x1 (y3 ++ x1) Ax1 cx1 rfl rfl rfl p2 rfl up Goes.v f7 f8 g9 fun w3 G10 c11 uv z3 p3 f13 => ?_
  refine Hn 3 J29 ?_
  obtain rfl := sj h
  exact Hr Tryz.f145 ⟨_, _, _, _, _, rfl, (z2.t z3), p3, f13, rfl⟩

def Q1r := Yq 11110100 B120
def J2e := Zl Q1r (Zb 0 (Ys 11111 B120 []))
def J2f := Zc Q1r J2e
def J2j := Zb 1 (Ys 11110100111 B120 J2e)
def Q1x := Yq 11110100110011 B120

def Post.zh (r : (List Int) × Int) (v : Value) (w' : World) : Prop :=
 ∃ S' uq ur ut uu, v = .tuple #[.slice (Gp uq) ur ut, .i r.2] ∧ Ext S0 w0 S' w' ∧ Hp nz wz S' w' ((uq, .row 5 uu (ut * (kInt .u8).size) 0) :: Lr) ∧ Els (kInt .u8) S' w' uu r.1 ∧ r.1.length = ur

def L.zi : (List Int) × (List T55) × Int × Int → ((List Int) × Int) → Prop := fun ⟨x7, x20, x21, x22⟩ r => ∀ S1 w1, Ext S0 w0 S1 w1 → ∀ Gx7 nx7 cx7 uf uw ux uy (_ : Hp nz wz S1 w1 ((Gx7, .row 5 uf (cx7 * (kInt .u8).size) 0) :: Lr)) (_ : Els (kInt .u8) S1 w1 uf x7) (_ : x7.length = nx7) (_ : Rd kT55 S1 w1 uw uy x20) (_ : x20.length = ux) (junk : Nat → Value),
 Goes Tryz.prog (base 120) J2f ⟨lfr 44 [(7, .slice (Gp Gx7) nx7 cx7), (20, .slice uw ux uy), (21, .i x21), (22, .i x22)] junk, []⟩ w1 (Done Tryz.prog 120 (Rets (Post.zh nz wz S0 w0 Lr r)))

theorem W.zi {nz wz S0 w0 Lr} : ∀ a r, M.a20 a = some r → (L.zi nz wz S0 w0 Lr) a r := by
 refine M.a20.partial_correctness (motive := (L.zi nz wz S0 w0 Lr)) ?_
 intro uz u10 ⟨x7, x20, x21, x22⟩ r h S1 w1 hx Gx7 nx7 cx7 uf uw ux uy p1 fx7 lx7 u11 u12 junk
 try dsimp only at h
 subst lx7
 subst u12
 refine Hn 5 (Ys 1111010010 B120 (Ys 1111010011 B120 J2e)) ?_
 refine Hb [(23, .bool (decide (x22 < x21)))] ?_
 refine Gi h (fun h9 h => ?_) fun h9 h => ?_
 ·
  rw [dt h9]
  refine Hn 6 (Yt 1111010011000 B120 [0, 1, 2, 3] (Ys 1111010011001 B120 J2j)) ?_
  refine Gg h fun g10 h => ?_
  refine Gg h fun g11 h => ?_
  refine Oi 38 (.tmp 20) (.tmp 22) 24 0 56 .i64 x22 (gi x20 x22) rfl rfl u11 Goes.v g10 g11 fun a12 _ f13 q14 => ?_
  obtain ⟨_, _, rfl, rfl, rfl⟩ := q14
  refine Goes.ldN 56 (.tmp 24) 25 56 a12 ([.string ((gi x20 x22).Name)] ++ [.string ((gi x20 x22).Value)]) (f13.cell) ?_
  refine Oa 56 9 0 (.agg #[.string (⟨#[]⟩ : ByteArray), .string (⟨#[]⟩ : ByteArray)]) [.string (⟨#[]⟩ : ByteArray), .string (⟨#[]⟩ : ByteArray)] p1 Goes.v fun b15 w4 z4 p4 => ?_
  refine So 56 (.tmp 9) (.tmp 25) 0 0 b15 0 ((ag (vT55 (gi x20 x22)))) (vT55 (gi x20 x22)) p4 rfl Goes.s fun w5 z5 p5 => ?_
  refine Hn 5 (Yt 11110100110010 B120 [2, 3, 4, 5, 6, 7, 8] (Zc Q1x J2j)) ?_
  refine Hd (p5.e 0 0) ?_
  refine Op_.s2b_n 9 86 (.tmp 29) 30 86 5 ((gi x20 x22).Name) (s2b ((gi x20 x22).Name)) rfl p5 Goes.v (by kernel_rfl) (by kernel_rfl) (by kernel_rfl) (by kernel_rfl) fun S6 w6 A17 c18 z6 p6 f19 => ?_
  obtain ⟨S7, z7, p7, f20⟩ := p6.freezeRd 1 rfl (fx7.ext ((z4.t z5).t z6)) (by decide)
  refine Gb h fun y21 e22 h => ?_
  refine Gc (kc 145 [27, 30] #[86, 86]) 31 87 145 _ (W.zg x7 (s2b ((gi x20 x22).Name)) y21 e22 _ _ _ _ _ _ p7 f20 rfl (f19.ext z7) rfl) ?_
  rintro _ w8 ⟨S8, u13, u14, u15, u16, rfl, z8, p8, u17, rfl⟩
  have p8 := p8.dp 2
  refine Hn 8 (Zr Q1x [2, 3, 4, 5, 6, 7, 8] J2j) ?_
  refine Hd (p8.e 1 1) ?_
  refine Op_.s2b_n 9 86 (.tmp 37) 38 86 5 ((gi x20 x22).Value) (s2b ((gi x20 x22).Value)) rfl p8 Goes.v (by kernel_rfl) (by kernel_rfl) (by kernel_rfl) (by kernel_rfl) fun S9 w9 A24 c25 z9 p9 f26 => ?_
  obtain ⟨S10, z10, p10, f27⟩ := p9.freezeRd 0 rfl (u17.ext z9) (by decide)
  refine Gb h fun y28 e29 h => ?_
  refine Gc (kc 145 [35, 38] #[86, 86]) 39 87 145 _ (W.zg y21.1 (s2b ((gi x20 x22).Value)) y28 e29 _ _ _ _ _ _ p10 f27 rfl (f26.ext z10) rfl) ?_
  rintro _ w11 ⟨S11, u18, u19, u1a, u1b, rfl, z11, p11, u1c, rfl⟩
  have p11 := (p11.dp 1).dp 1
  refine Hn 11 J2f ?_
  exact Gk (u10 _ _ h _ _ ((((((((hx.t z4).t z5).t z6).t z7).t z8).t z9).t z10).t z11) _ _ _ _ _ _ _ p11 u1c rfl (u11.ext (((((((z4.t z5).t z6).t z7).t z8).t z9).t z10).t z11)) rfl)
 ·
  rw [df h9]
  refine Hn 8 (Ys 111111 B120 []) ?_
  obtain rfl := sj h
  exact Hr Tryz.f120 ⟨_, _, _, _, _, rfl, hx, p1, fx7, rfl⟩

def J2q := Ys 111 B120 []

theorem W.zh (x0 : List Int) (x1 : List T55) (r : (List Int) × Int) (h : M.a3x x0 x1 = some r) {nz wz S0 w0 Lr} (Ax0 nx0 cx0 Ax1 nx1 cx1) (p0 : Hp nz wz S0 w0 (Lr)) (fx0 : Rd (kInt .u8) S0 w0 Ax0 cx0 x0) (lx0 : x0.length = nx0) (fx1 : Rd kT55 S0 w0 Ax1 cx1 x1) (lx1 : x1.length = nx1) :
  Calls Tryz.prog 120 #[.slice Ax0 nx0 cx0, .slice Ax1 nx1 cx1] w0 (Rets (Post.zh nz wz S0 w0 Lr r)) := by
 subst lx0
 subst lx1
 refine Zf Tryz.f120 B120 42 ?_
 refine Gj 44 [(0, .slice Ax0 x0.length cx0), (1, .slice Ax1 x1.length cx1)] fun junk => ?_
 delta M.a3x at h
 refine Hn 9 (Yt 1100 B120 [1, 2] (Ys 1101 B120 J2q)) ?_
 refine Gb h fun y1 e2 h => ?_
 refine Gc (kc 96 [10] #[38]) 11 39 96 _ (W.z7 x1 y1 e2 _ _ _ p0 fx1 rfl) ?_
 rintro _ w2 ⟨S2, rfl, z2, p2⟩
 refine Hn 7 (Ys 11011 B120 J2q) ?_
 refine Hb [(13, .bool (!(decide (y1 = 0))))] ?_
 refine Gi h (fun h3 h => ?_) fun h3 h => ?_
 ·
  rw [dt h3]
  refine Hn 8 (Yt 1110 B120 [4, 5] (Ys 1111 B120 [])) ?_
  refine Gb h fun y4 e5 h => ?_
  refine Gc (kc 141 [15, 18] #[86, 35]) 19 86 141 _ (W.zf x0 (wr .u64 (x1.length : Int)) y4 e5 _ _ _ p2 (fx0.ext z2) rfl) ?_
  rintro _ w3 ⟨S3, u1d, u1e, u1f, u1g, rfl, z3, p3, u1h, rfl⟩
  refine Hn 11 J2f ?_
  exact Gk (W.zi _ _ h _ _ (z2.t z3) _ _ _ _ _ _ _ p3 u1h rfl (fx1.ext (z2.t z3)) rfl)
 ·
  rw [df h3]
  refine Hn 7 (Ys 1101101 B120 J2q) ?_
  have p2 : Hp nz wz S2 w2 ((none, .row 5 [] (0 * (kInt .u8).size) 0) :: Lr) := p2.nilRow' 5
  obtain rfl := sj h
  exact Hr Tryz.f120 ⟨_, _, _, _, _, rfl, z2, p2, (Els.nil (K := (kInt .u8))), rfl⟩

def J2z := Ys 1111 B65 []

def Post.zj (r : ByteArray × Int) (v : Value) (w' : World) : Prop :=
 ∃ S', v = .tuple #[.string r.1, .i r.2] ∧ Ext S0 w0 S' w' ∧ Hp nz wz S' w' (Lr)

theorem W.zj (x0 : List T55) (r : ByteArray × Int) (h : M.a21 x0 = some r) {nz wz S0 w0 Lr} (Ax0 nx0 cx0) (p0 : Hp nz wz S0 w0 (Lr)) (fx0 : Rd kT55 S0 w0 Ax0 cx0 x0) (lx0 : x0.length = nx0) :
  Calls Tryz.prog 65 #[.slice Ax0 nx0 cx0] w0 (Rets (Post.zj nz wz S0 w0 Lr r)) := by
 subst lx0
 refine Zf Tryz.f65 B65 13 ?_
 refine Gj 14 [(0, .slice Ax0 x0.length cx0)] fun junk => ?_
 delta M.a21 at h
 refine Hn 8 (Yt 110 B65 [1, 2, 3, 4, 5, 6] (Ys 111 B65 [])) ?_
 refine Gb h fun y1 e2 h => ?_
 refine Gc (.call { callee := .value (.func 120), args := #[(.const (.slice none 0 0)), (.tmp 7)], argTypes := #[86, 38] }) 8 87 120 _ (W.zh ([] : List Int) x0 y1 e2 none 0 0 _ _ _ p0 Rd.none_ rfl fx0 rfl) ?_
 rintro _ w2 ⟨S2, u1i, u1j, u1k, u1l, rfl, z2, p2, u1m, rfl⟩
 refine Hn 9 (Yt 1110 B65 [1, 2, 3, 4] J2z) ?_
 obtain ⟨S3, z3, p3, f4⟩ := p2.freezeRd 0 rfl u1m (by decide)
 refine Op_.b2s_n 86 9 (.tmp 11) 12 9 5 (b2s y1.1) rfl rfl f4 Goes.v (by kernel_rfl) (by kernel_rfl) (by kernel_rfl) (by kernel_rfl) ?_
 refine Hn 4 J2z ?_
 obtain rfl := sj h
 have p3 := p3.dp 0
 exact Hr Tryz.f65 ⟨_, rfl, (z2.t z3), p3⟩

def J31 := Ys 111 B66 []
def J35 := Ys 1111 B66 []
def Q2g := Yq 1110 B66

def Post.zk (r : List T55) (v : Value) (w' : World) : Prop :=
 ∃ S' Gq nq cq csq, v = .slice (Gp Gq) nq cq ∧ Ext S0 w0 S' w' ∧ Hp nz wz S' w' ((Gq, .row 56 csq (cq * kT55.size) 0) :: Lr) ∧ Els kT55 S' w' csq r ∧ r.length = nq

theorem W.zk (x0 : List T55) (r : List T55) (h : M.a5h x0 = some r) {nz wz S0 w0 Lr} (Ax0 nx0 cx0) (p0 : Hp nz wz S0 w0 (Lr)) (fx0 : Rd kT55 S0 w0 Ax0 cx0 x0) (lx0 : x0.length = nx0) :
  Calls Tryz.prog 66 #[.slice Ax0 nx0 cx0] w0 (Rets (Post.zk nz wz S0 w0 Lr r)) := by
 subst lx0
 refine Zf Tryz.f66 B66 7 ?_
 refine Gj 8 [(0, .slice Ax0 x0.length cx0)] fun junk => ?_
 delta M.a5h at h
 refine Hn 8 (Yt 1100 B66 [1] (Ys 1101 B66 J31)) ?_
 rcases Rd.isnil fx0 with ⟨rfl, rfl, rfl⟩ | ⟨a1, rfl⟩
 ·
  replace h : (some ([] : List T55)) = some r := by first | exact h | (simpa using h) | (simp at h ⊢; exact h)
  refine Hn 7 (Ys 110101 B66 J31) ?_
  have p0 : Hp nz wz S0 w0 ((none, .row 56 [] (0 * kT55.size) 0) :: Lr) := p0.nilRow' 56
  obtain rfl := sj h
  exact Hr Tryz.f66 ⟨_, _, _, _, _, rfl, (Ext.refl S0 w0), p0, (Els.nil (K := kT55)), rfl⟩
 ·
  refine Hn 6 (Zr Q2g [0, 1, 2, 3] J35) ?_
  have f4 : Els kT55 S0 w0 ([] : List Value) ([] : List T55) := by exact Els.nil
  refine Om (.buildSlice 38 0 #[]) 5 38 (fun b => .slice (Gp (some b)) 0 0) 56 ([] : List Value) (0 * kT55.size) p0 Goes.v fun b3 w2 z2 p2 => ?_
  refine Hn 1 (Zr Q2g [2, 3] J35) ?_
  obtain ⟨ns6, f7, f8⟩ := src_rd (fx0.ext z2)
  refine Gg h fun g9 h => ?_
  refine On (K := kT55) 38 (.tmp 5) (.tmp 6) 7 38 56 0 (.agg #[.string ⟨#[]⟩, .string ⟨#[]⟩]) 32 0 0 x0.length ([] : List T55) x0 x0 (some a1) cx0 rfl rfl (List.nil_append _) p2 rfl (f4.ext z2) Goes.v f7 f8 g9 fun w3 G10 c11 uv z3 p3 f13 => ?_
  refine Hn 2 J35 ?_
  obtain rfl := sj h
  exact Hr Tryz.f66 ⟨_, _, _, _, _, rfl, (z2.t z3), p3, f13, rfl⟩

def J38 := Ys 111 B121 []
def Q2i := Yq 110 B121

def Post.zl (r : Nat × Z) (v : Value) (w' : World) : Prop :=
 ∃ S' gq Ee0, v = (pt gq 0) ∧ Ext S0 w0 S' w' ∧ Hp nz wz S' w' (PL Ee0 (Lr)) ∧ Pa 236 S' r.1 gq ∧ PS S' w' Ee0 r.2

theorem W.zl (pl : Z) (r : Nat × Z) (h : M.a72 pl = some r) {nz wz S0 w0 Lr} (Epl) (p0 : Hp nz wz S0 w0 (PL Epl (Lr))) (fpl : PS S0 w0 Epl pl) :
  Calls Tryz.prog 121 #[] w0 (Rets (Post.zl nz wz S0 w0 Lr r)) := by
 refine Zf Tryz.f121 B121 5 ?_
 refine Gj 5 [] fun junk => ?_
 delta M.a72 at h
 refine Hn 6 (Zr Q2i [0, 1, 2, 3, 4] J38) ?_
 refine Op_.mkM 233 1 233 233 8 Value.string (kSl (kInt .u64)) p0 rfl fpl.zi Goes.v fun g1 S2 w2 E2 z2 p2 a3 f4 => ?_
 refine Hn 2 (Zr Q2i [3, 4] J38) ?_
 refine Gl h fun v5 e6 h => ?_
 refine Op_.boxP 237 (.tmp 3) 4 125 236 9 (.agg #[.map (some g1)]) [.map (some g1)] (⟨(⟨(some pl.zi.length)⟩ : T234)⟩ : T236) v5 p2 rfl (fpl.zj.ext z2) Goes.v (by kernel_rfl) (by kernel_rfl) (show (kMp 233).rep S2 w2 [.map (some g1)] (some pl.zi.length) from (MpO.mk a3)) e6 fun g7 S3 w3 E8 z3 p3 a9 f10 => ?_
 refine Hn 2 J38 ?_
 obtain rfl := sj h
 exact Hr Tryz.f121 ⟨_, _, {Epl with zi := E2, zj := E8}, rfl, (z2.t z3), p3, a9, (PS.uzj (PS.uzi (fpl.ext (z2.t z3)) (f4.ext z3)) f10)⟩

def J3b := Ys 111 B67 []
def Q2k := Yq 110 B67

def Post.zm (r : Nat × Z) (v : Value) (w' : World) : Prop :=
 ∃ S' gq Ee0, v = (pt gq 0) ∧ Ext S0 w0 S' w' ∧ Hp nz wz S' w' (PL Ee0 (Lr)) ∧ Pa 126 S' r.1 gq ∧ PS S' w' Ee0 r.2

theorem W.zm (pl : Z) (r : Nat × Z) (h : M.a15 pl = some r) {nz wz S0 w0 Lr} (Epl) (p0 : Hp nz wz S0 w0 (PL Epl (Lr))) (fpl : PS S0 w0 Epl pl) :
  Calls Tryz.prog 67 #[] w0 (Rets (Post.zm nz wz S0 w0 Lr r)) := by
 refine Zf Tryz.f67 B67 7 ?_
 refine Gj 7 [] fun junk => ?_
 delta M.a15 at h
 refine Hn 6 (Zr Q2k [0, 1, 2, 3, 4, 5, 6] J3b) ?_
 refine Op_.mkM 121 1 121 121 4 Value.string (kMp 122) p0 rfl fpl.ze Goes.v fun g1 S2 w2 E2 z2 p2 a3 f4 => ?_
 refine Op_.mkM 78 2 78 78 1 Value.string (kInt .u64) p2 rfl (fpl.zb.ext z2) Goes.v fun g5 S3 w3 E6 z3 p3 a7 f8 => ?_
 refine Op_.mkM 124 3 124 124 6 (Value.int .u64) kStr p3 rfl (fpl.zg.ext (z2.t z3)) Goes.v fun g9 S4 w4 E10 z4 p4 a11 f12 => ?_
 refine Gb h fun y13 e14 h => ?_
 refine Gc (kc 121 [] #[]) 4 125 121 _ (W.zl ({pl with zb := (pl.zb ++ [[]]), ze := (pl.ze ++ [[]]), zg := (pl.zg ++ [[]])}) y13 e14 ({Epl with zb := E6, ze := E2, zg := E10}) p4 (PS.uzg (PS.uze (PS.uzb (fpl.ext ((z2.t z3).t z4)) (f8.ext z4)) (f4.ext (z3.t z4))) f12)) ?_
 rintro _ w5 ⟨S5, u1n, u1o, rfl, z5, p5, u1p, u1q⟩
 refine Hn 1 (Zr Q2k [5, 6] J3b) ?_
 refine Gl h fun v15 e16 h => ?_
 refine Op_.boxP 127 (.tmp 5) 6 119 126 7 (.agg #[.map (some g1), .map (some g5), .map (some g9), (pt u1n 0), .u 0, .i 0]) [.map (some g1), .map (some g5), .map (some g9), (pt u1n 0), .u 0, .i 0] (⟨(some pl.ze.length), (some pl.zb.length), (some pl.zg.length), (some y13.1), 0, 0⟩ : T126) v15 p5 rfl u1q.zh Goes.v (by kernel_rfl) (by kernel_rfl) ⟨[.map (some g1)], [.map (some g5), .map (some g9), (pt u1n 0), .u 0, .i 0], rfl, (show (kMp 121).rep S5 w5 [.map (some g1)] (some pl.ze.length) from (MpO.mk (a3.ext ((z3.t z4).t z5)))), ⟨[.map (some g5)], [.map (some g9), (pt u1n 0), .u 0, .i 0], rfl, (show (kMp 78).rep S5 w5 [.map (some g5)] (some pl.zb.length) from (MpO.mk (a7.ext (z4.t z5)))), ⟨[.map (some g9)], [(pt u1n 0), .u 0, .i 0], rfl, (show (kMp 124).rep S5 w5 [.map (some g9)] (some pl.zg.length) from (MpO.mk (a11.ext z5))), ⟨[(pt u1n 0)], [.u 0, .i 0], rfl, (show (kPp 236).rep S5 w5 [(pt u1n 0)] (some y13.1) from (PpO.mk u1p)), ⟨[.u 0], [.i 0], rfl, rfl, rfl⟩⟩⟩⟩⟩ e16 fun g17 S6 w6 E18 z6 p6 a19 f20 => ?_
 refine Hn 2 J3b ?_
 obtain rfl := sj h
 exact Hr Tryz.f67 ⟨_, _, {u1o with zh := E18}, rfl, ((((z2.t z3).t z4).t z5).t z6), p6, a19, (PS.uzh (u1q.ext z6) f20)⟩


def Post.zn (r : ByteArray) (v : Value) (w' : World) : Prop :=
 ∃ S' u1r, v = .func (.func 222) #[] #[(pt u1r 0)] ∧ Ext S0 w0 S' w' ∧ Hp nz wz S' w' ((some u1r, .row 9 [.string r] 1 0) :: Lr)

theorem W.zn (x0 : ByteArray) (r : ByteArray) (h : M.a5f x0 = some r) {nz wz S0 w0 Lr} (p0 : Hp nz wz S0 w0 (Lr)) :
  Calls Tryz.prog 179 #[.string x0] w0 (Rets (Post.zn nz wz S0 w0 Lr r)) := by
 refine Zf Tryz.f179 B179 3 ?_
 refine Gj 4 [(0, .string x0)] fun junk => ?_
 delta M.a5f at h
 refine Hn 2 (Yt 10 B179 [0, 1] (Ys 11 B179 [])) ?_
 refine Ob 9 (.tmp 0) 1 0 (.string x0) [.string x0] p0 Goes.v fun b1 w2 z2 p2 => ?_
 refine Hn 7 (Ys 111 B179 []) ?_
 obtain rfl := sj h
 exact Hr Tryz.f179 ⟨_, _, rfl, z2, p2⟩

def J3h := Zb 1 []
def Q2o := Yq 1101010 B174
def J3i := Zr Q2o [0, 1, 2, 3, 4] J3h
def J3j := Zr Q2o [2, 3, 4] J3h
def Q2p := Yq 11010 B174
def Q2q := Yq 110101 B174

def Post.zo (lk : Nat) (rk : Nat) (jkk : Nat → Value) (u1s : Nat) (u1t : Nat) (u1u : ByteArray) (r : List ByteArray) (v : Value) (w' : World) : Prop :=
 ∃ S' u1v u1w u1x u1y, v = .bool true ∧ Ext S0 w0 S' w' ∧ Hp nz wz S' w' ((some lk, .obj (lpst 174 (lfr 13 [(2, (pt u1s 0)), (6, .func (.func 222) #[] #[(pt u1t 0)])] jkk) #[7] (rfAssign (Q2p)) (rfBody (Q2p)) rk .ready none)) :: (some u1s, .row 28 [.slice (Gp u1v) u1w u1x] 1 0) :: (u1v, .row 9 u1y (u1x * kStr.size) 0) :: (some u1t, .row 9 [.string u1u] 1 0) :: Lr) ∧ Els kStr S' w' u1y r ∧ r.length = u1w

theorem W.zo (u1z : List ByteArray) (u1u : ByteArray) (a0 : ByteArray) (r : List ByteArray) (h : M.a5e u1z u1u a0 = some r) {nz wz S0 w0 Lr} (lk rk jkk u1s u20 u21 u22 u23 u1t) (p0 : Hp nz wz S0 w0 ((some lk, .obj (lpst 174 (lfr 13 [(2, (pt u1s 0)), (6, .func (.func 222) #[] #[(pt u1t 0)])] jkk) #[7] (rfAssign (Q2p)) (rfBody (Q2p)) rk .ready none)) :: (some u1s, .row 28 [.slice (Gp u20) u21 u22] 1 0) :: (u20, .row 9 u23 (u22 * kStr.size) 0) :: (some u1t, .row 9 [.string u1u] 1 0) :: Lr)) (u24 : Els kStr S0 w0 u23 u1z) (u25 : u1z.length = u21) :
  Goes Tryz.prog (rbase 174 lk) [.code (rfAssign (Q2p)), .beginRound, .code (rfBody (Q2p))] ⟨setp (lfr 13 [(2, (pt u1s 0)), (6, .func (.func 222) #[] #[(pt u1t 0)])] jkk) #[7] #[.string a0], []⟩ w0 (DoneR (Post.zo nz wz S0 w0 Lr lk rk jkk u1s u1t u1u r)) := by
 subst u25
 refine Gj 13 [(2, (pt u1s 0)), (6, .func (.func 222) #[] #[(pt u1t 0)]), (7, .string a0)] fun junk => ?_
 delta M.a5e at h
 refine Hn 3 [.beginRound, .code (Q2q)] ?_
 refine Goes.beginR 0 rfl p0 rfl fun w2 z2 p2 => ?_
 refine Hn 2 J3i ?_
 refine Hd (p2.e 1 0) ?_
 refine Hn 1 J3j ?_
 have f6 : Els kStr S0 w2 ([.string a0] : List Value) [a0] := by exact (Els.cons (K := kStr) (vs := [.string a0]) (x := a0) rfl Els.nil)
 refine Om (.buildSlice 28 1 #[(0, (.tmp 9))]) 10 28 (fun b => .slice (Gp (some b)) 1 1) 9 ([.string a0] : List Value) (1 * kStr.size) p2 Goes.v fun b5 w3 z3 p3 => ?_
 refine Gg h fun g11 h => ?_
 refine On (K := kStr) 28 (.tmp 8) (.tmp 10) 11 28 9 3 (.string ⟨#[]⟩) 16 u1z.length u22 1 u1z [a0] (u1z ++ [a0]) (Gp (some b5)) 1 rfl rfl rfl p3 rfl (u24.ext (z2.t z3)) Goes.v (f6.ext z3) (src_own p3 (q := 0) rfl) g11 fun w4 G12 c13 u26 z4 p4 f15 => ?_
 refine So 28 (.tmp 2) (.tmp 11) 0 2 u1s 0 (.slice (Gp G12) ((u1z ++ [a0]).length) c13) [.slice (Gp G12) ((u1z ++ [a0]).length) c13] p4 rfl Goes.s fun w5 z5 p5 => ?_
 refine Hn 2 [] ?_
 have p5 := p5.dp 0
 obtain rfl := sj h
 refine Goes.endR 0 p5 rfl fun w6 z6 p6 => ?_
 exact ⟨S0, G12, (u1z ++ [a0]).length, c13, u26, rfl, ((((z2.t z3).t z4).t z5).t z6), p6, (f15.ext (z5.t z6)), rfl⟩

def J3k := Zb 0 []
def Q2r := Yq 1100 B222
def J3l := Zl Q2r J3k
def J3m := Zc Q2r J3l
def J3r := Ys 1100110011 B222 (Zb 1 (Ys 1100111 B222 J3l))
def Q2w := Yq 1100110010 B222

def Post.zp (lx0 : Nat) (rx0 : Nat) (u27 : Nat → Value) (u28 : Nat) (u29 : Nat) (u2a : ByteArray) (r : List ByteArray) (v : Value) (w' : World) : Prop :=
 ∃ S' u1v u1w u1x u1y, v = .tuple #[] ∧ Ext S0 w0 S' w' ∧ Hp nz wz S' w' ((some lx0, .obj (lpst 174 (lfr 13 [(2, (pt u28 0)), (6, .func (.func 222) #[] #[(pt u29 0)])] u27) #[7] (rfAssign (Q2p)) (rfBody (Q2p)) rx0 .ready none)) :: (some u28, .row 28 [.slice (Gp u1v) u1w u1x] 1 0) :: (u1v, .row 9 u1y (u1x * kStr.size) 0) :: (some u29, .row 9 [.string u2a] 1 0) :: Lr) ∧ Els kStr S' w' u1y r ∧ r.length = u1w

def L.zq (lx0 : Nat) (rx0 : Nat) (u27 : Nat → Value) (u28 : Nat) (u29 : Nat) : Int × Int × (List ByteArray) × ByteArray → (List ByteArray) → Prop := fun ⟨x7, x8, u2b, u2a⟩ r => ∀ S1 w1, Ext S0 w0 S1 w1 → ∀ u1v u1w u1x u1y (_ : Hp nz wz S1 w1 ((some lx0, .obj (lpst 174 (lfr 13 [(2, (pt u28 0)), (6, .func (.func 222) #[] #[(pt u29 0)])] u27) #[7] (rfAssign (Q2p)) (rfBody (Q2p)) rx0 .ready none)) :: (some u28, .row 28 [.slice (Gp u1v) u1w u1x] 1 0) :: (u1v, .row 9 u1y (u1x * kStr.size) 0) :: (some u29, .row 9 [.string u2a] 1 0) :: Lr)) (_ : Els kStr S1 w1 u1y u2b) (_ : u2b.length = u1w) (junk : Nat → Value),
 Goes Tryz.prog (base 222) J3m ⟨lfr 20 [(0, yieldV lx0), (1, (pt u29 0)), (7, .i x7), (8, .i x8)] junk, []⟩ w1 (Done Tryz.prog 222 (Rets (Post.zp nz wz S0 w0 Lr lx0 rx0 u27 u28 u29 u2a r)))

theorem W.zq {nz wz S0 w0 Lr} (lx0 : Nat) (rx0 : Nat) (u27 : Nat → Value) (u28 : Nat) (u29 : Nat) : ∀ a r, M.a22 a = some r → (L.zq nz wz S0 w0 Lr lx0 rx0 u27 u28 u29) a r := by
 refine M.a22.partial_correctness (motive := (L.zq nz wz S0 w0 Lr lx0 rx0 u27 u28 u29)) ?_
 intro u2c u2d ⟨x7, x8, u2b, u2a⟩ r h S1 w1 hx u1v u1w u1x u1y p1 u2e u2f junk
 try dsimp only at h
 subst u2f
 refine Hn 5 (Ys 110010 B222 (Ys 110011 B222 J3l)) ?_
 refine Hb [(9, .bool (decide (x8 < x7)))] ?_
 refine Gi h (fun h6 h => ?_) fun h6 h => ?_
 ·
  rw [dt h6]
  refine Hn 12 (Zr Q2w [1, 2, 3, 4, 5, 6, 7] J3r) ?_
  refine Hd (p1.e 3 0) ?_
  refine Hn 3 (Zr Q2w [5, 6, 7] J3r) ?_
  refine Gg h fun g7 h => ?_
  refine Gg h fun g8 h => ?_
  refine Gg h fun g9 h => ?_
  refine Op_.slS_n 9 (.tmp 12) (some (.tmp 13)) (some (.tmp 15)) 16 9 u2a x8 (wr .i64 (x8 + 3)) (ss u2a x8 (wr .i64 (x8 + 3))) rfl Goes.v (by kernel_rfl) (by kernel_rfl) (Bnd.at_ .i64 (by kernel_rfl)) (Bnd.at_ .i64 (by kernel_rfl)) g7 g8 g9 ?_
  refine Gb h fun y10 e11 h => ?_
  refine Goes.yieldAt (.call { callee := .value (.tmp 11), args := #[(.tmp 16)], argTypes := #[9] }) 17 4 0 lx0 #[.string (ss u2a x8 (wr .i64 (x8 + 3)))] p1 rfl (by kernel_rfl) rfl (fun _ => by kernel_rfl) rfl (W.zo u2b u2a (ss u2a x8 (wr .i64 (x8 + 3))) y10 e11 _ _ _ _ _ _ _ _ _ p1 u2e rfl) ?_
  rintro _ w2 ⟨S2, u2g, u2h, u2i, u2j, rfl, z2, p2, u2k, rfl⟩
  refine Hn 10 J3m ?_
  exact Gk (u2d _ _ h _ _ (hx.t z2) _ _ _ _ p2 u2k rfl)
 ·
  rw [df h6]
  refine Hn 2 [] ?_
  obtain rfl := sj h
  exact Goes.end_ (fn := Tryz.f222) (by kernel_rfl) (v := .tuple #[]) (by kernel_rfl) ⟨S1, u1v, u2b.length, u1x, u1y, rfl, hx, p1, u2e, rfl⟩


theorem W.zp (u2l : List ByteArray) (u2a : ByteArray) (r : List ByteArray) (h : M.a3y u2l u2a = some r) {nz wz S0 w0 Lr} (lx0 rx0 u27 u28 u2m u2n u2o u2p u29) (p0 : Hp nz wz S0 w0 ((some lx0, .obj (lpst 174 (lfr 13 [(2, (pt u28 0)), (6, .func (.func 222) #[] #[(pt u29 0)])] u27) #[7] (rfAssign (Q2p)) (rfBody (Q2p)) rx0 .ready none)) :: (some u28, .row 28 [.slice (Gp u2m) u2n u2o] 1 0) :: (u2m, .row 9 u2p (u2o * kStr.size) 0) :: (some u29, .row 9 [.string u2a] 1 0) :: Lr)) (u2q : Els kStr S0 w0 u2p u2l) (u2r : u2l.length = u2n) :
  Calls Tryz.prog 222 #[yieldV lx0, (pt u29 0)] w0 (Rets (Post.zp nz wz S0 w0 Lr lx0 rx0 u27 u28 u29 u2a r)) := by
 subst u2r
 refine Zf Tryz.f222 B222 18 ?_
 refine Gj 20 [(0, yieldV lx0), (1, (pt u29 0))] fun junk => ?_
 delta M.a3y at h
 refine Hn 2 (Yt 10 B222 [0, 1, 2, 3, 4] (Ys 11 B222 [])) ?_
 refine Hd (p0.e 3 0) ?_
 refine Hn 7 J3m ?_
 exact Gk (W.zq lx0 rx0 u27 u28 u29 _ _ h _ _ (Ext.refl S0 w0) _ _ _ _ p0 u2q rfl)

def J3x := Yt 10 B174 [0, 1] (Ys 11 B174 [])
def J3z := Zb 0 (Ys 111 B174 [])
def J40 := Zc Q2p J3z
def J41 := Ys 1111 B174 []
def J42 := Yt 1110 B174 [0, 1] J41

def Post.zr (u2s : Nat) (u2t : ByteArray) (r : List ByteArray) (v : Value) (w' : World) : Prop :=
 ∃ S' Gq nq cq csq, v = .slice (Gp Gq) nq cq ∧ Ext S0 w0 S' w' ∧ Hp nz wz S' w' ((Gq, .row 9 csq (cq * kStr.size) 0) :: (some u2s, .row 9 [.string u2t] 1 0) :: Lr) ∧ Els kStr S' w' csq r ∧ r.length = nq

theorem W.zr (u2t : ByteArray) (r : List ByteArray) (h : M.a3z u2t = some r) {nz wz S0 w0 Lr} (u2s) (p0 : Hp nz wz S0 w0 ((some u2s, .row 9 [.string u2t] 1 0) :: Lr)) :
  Calls Tryz.prog 174 #[.slice none 0 0, .func (.func 222) #[] #[(pt u2s 0)]] w0 (Rets (Post.zr nz wz S0 w0 Lr u2s u2t r)) := by
 refine Zf Tryz.f174 B174 11 ?_
 refine Gj 13 [(0, .slice none 0 0), (1, .func (.func 222) #[] #[(pt u2s 0)])] fun junk => ?_
 delta M.a3z at h
 refine Hn 2 J3x ?_
 refine Ob 28 (.tmp 0) 2 0 (.slice none 0 0) [.slice none 0 0] p0 Goes.v fun b2 w2 z2 p2 => ?_
 refine Hn 8 J40 ?_
 refine Gj 13 [(2, (pt b2 0)), (6, .func (.func 222) #[] #[(pt u2s 0)])] (fun u2u => ?_)
 refine Goes.rangeF (f := 174) (.tmp 6) #[7] 222 #[] #[(pt u2s 0)] (by kernel_rfl) (by kernel_rfl) (fun _ => by kernel_rfl) p2 fun r5 l6 w3 z3 p3 => ?_
 have p3 : Hp nz wz S0 w3 ((none, .row 9 [] (0 * kStr.size) 0) :: (some l6, .obj (lpst 174 (lfr 13 [(2, (pt b2 0)), (6, .func (.func 222) #[] #[(pt u2s 0)])] u2u) #[7] (rfAssign (Q2p)) (rfBody (Q2p)) r5 .ready none)) :: (some r5, .obj (.deferred (some []))) :: (some b2, .row 28 [.slice none 0 0] 1 0) :: (some u2s, .row 9 [.string u2t] 1 0) :: Lr) := p3.nilRow' 9
 have p3 := (((p3.fr 4).fr 1).fr 4).fr 3
 refine Gb h fun y10 e11 h => ?_
 refine ⟨_, W.zp ([] : List ByteArray) u2t y10 e11 _ _ _ _ none 0 0 [] _ p3 (Els.nil (K := kStr)) rfl, ?_⟩
 rintro _ w4 ⟨S4, u2v, u2w, u2x, u2y, rfl, z4, p4, u2z, rfl⟩
 refine Goes.endF 0 p4 rfl rfl fun w5 z5 p5 => ?_
 replace p5 : Hp nz wz S4 w5 ((some b2, .row 28 [.slice (Gp u2v) y10.length u2x] 1 0) :: (u2v, .row 9 u2y (u2x * kStr.size) 0) :: (some u2s, .row 9 [.string u2t] 1 0) :: (some r5, .obj (.deferred (some []))) :: Lr) := (p5.front 0 _ rfl).drop
 show Goes _ _ J3z _ _ _
 refine Hn 3 J42 ?_
 refine Hd (p5.e 0 0) ?_
 refine Hn 2 J41 ?_
 obtain rfl := sj h
 have p5 := p5.dp 0
 have p5 := p5.fr 2
 refine Goes.retL ?_
 refine lvs_mark 0 rfl rfl p5 rfl fun w6 z6 p6 => ?_
 replace p6 : Hp nz wz S4 w6 ((u2v, .row 9 u2y (u2x * kStr.size) 0) :: (some u2s, .row 9 [.string u2t] 1 0) :: Lr) := p6.drop
 exact lvs_done (fn := Tryz.f174) rfl rfl rfl rfl (by kernel_rfl) (v := .slice (Gp u2v) y10.length u2x) (by kernel_rfl) ⟨S4, u2v, y10.length, u2x, u2y, rfl, ((((z2.t z3).t z4).t z5).t z6), p6, (u2z.ext (z5.t z6)), rfl⟩

def J43 := Ys 111 B115 []
def J44 := Yt 110 B115 [1, 2] J43

def Post.zs (u30 : Nat) (u31 : ByteArray) (r : List ByteArray) (v : Value) (w' : World) : Prop :=
 ∃ S' Gq nq cq csq, v = .slice (Gp Gq) nq cq ∧ Ext S0 w0 S' w' ∧ Hp nz wz S' w' ((Gq, .row 9 csq (cq * kStr.size) 0) :: (some u30, .row 9 [.string u31] 1 0) :: Lr) ∧ Els kStr S' w' csq r ∧ r.length = nq

theorem W.zs (u31 : ByteArray) (r : List ByteArray) (h : M.a40 u31 = some r) {nz wz S0 w0 Lr} (u30) (p0 : Hp nz wz S0 w0 ((some u30, .row 9 [.string u31] 1 0) :: Lr)) :
  Calls Tryz.prog 115 #[.func (.func 222) #[] #[(pt u30 0)]] w0 (Rets (Post.zs nz wz S0 w0 Lr u30 u31 r)) := by
 refine Zf Tryz.f115 B115 4 ?_
 refine Gj 5 [(0, .func (.func 222) #[] #[(pt u30 0)])] fun junk => ?_
 delta M.a40 at h
 refine Hn 7 J44 ?_
 refine Gb h fun y2 e3 h => ?_
 refine Gc (.call { callee := .value (.func 174), args := #[(.const (.slice none 0 0)), (.tmp 3)], argTypes := #[28, 117] }) 4 28 174 _ (W.zr u31 y2 e3 _ p0 ) ?_
 rintro _ w2 ⟨S2, ul, um, un, uo, rfl, z2, p2, up, rfl⟩
 refine Hn 2 J43 ?_
 obtain rfl := sj h
 exact Hr Tryz.f115 ⟨_, _, _, _, _, rfl, z2, p2, up, rfl⟩

def J46 := Yt 110 B60 [1, 2] (Ys 111 B60 [])
def J48 := Yt 1110 B60 [1] (Ys 1111 B60 [])
def J49 := Ys 11111 B60 []

def Post.zt (u30 : Nat) (u31 : ByteArray) (r : List ByteArray) (v : Value) (w' : World) : Prop :=
 ∃ S' Gq nq cq csq, v = .slice (Gp Gq) nq cq ∧ Ext S0 w0 S' w' ∧ Hp nz wz S' w' ((Gq, .row 9 csq (cq * kStr.size) 0) :: (some u30, .row 9 [.string u31] 1 0) :: Lr) ∧ Els kStr S' w' csq r ∧ r.length = nq

theorem W.zt (u31 : ByteArray) (r : List ByteArray) (h : M.a41 u31 = some r) {nz wz S0 w0 Lr} (u30) (p0 : Hp nz wz S0 w0 ((some u30, .row 9 [.string u31] 1 0) :: Lr)) :
  Calls Tryz.prog 60 #[.func (.func 222) #[] #[(pt u30 0)]] w0 (Rets (Post.zt nz wz S0 w0 Lr u30 u31 r)) := by
 refine Zf Tryz.f60 B60 8 ?_
 refine Gj 9 [(0, .func (.func 222) #[] #[(pt u30 0)])] fun junk => ?_
 delta M.a41 at h
 refine Hn 7 J46 ?_
 refine Gb h fun y2 e3 h => ?_
 refine Gc (kc 115 [4] #[117]) 5 28 115 _ (W.zs u31 y2 e3 _ p0 ) ?_
 rintro _ w2 ⟨S2, ul, um, un, uo, rfl, z2, p2, up, rfl⟩
 refine Hn 5 J48 ?_
 refine Gg h fun g5 h => ?_
 refine Gc (kc 116 [6] #[28]) 7 0 116 _ (sortS_calls Tryz.sortS p2 up rfl g5) ?_
 rintro _ w3 ⟨rfl, z3, cs6, p3, f7⟩
 refine Hn 6 J49 ?_
 obtain rfl := sj h
 exact Hr Tryz.f60 ⟨_, _, _, _, _, rfl, (z2.t z3), p3, f7, (srtS_len rfl)⟩

def J4a := Ys 111 B122 []

def Post.zu (r : List ByteArray) (v : Value) (w' : World) : Prop :=
 ∃ S' Gq nq cq csq, v = .slice (Gp Gq) nq cq ∧ Ext S0 w0 S' w' ∧ Hp nz wz S' w' ((Gq, .row 9 csq (cq * kStr.size) 0) :: Lr) ∧ Els kStr S' w' csq r ∧ r.length = nq

theorem W.zu (x0 : ByteArray) (r : List ByteArray) (h : M.a30 x0 = some r) {nz wz S0 w0 Lr} (p0 : Hp nz wz S0 w0 (Lr)) :
  Calls Tryz.prog 122 #[.string x0] w0 (Rets (Post.zu nz wz S0 w0 Lr r)) := by
 refine Zf Tryz.f122 B122 6 ?_
 refine Gj 7 [(0, .string x0)] fun junk => ?_
 delta M.a30 at h
 refine Hn 7 (Yt 110 B122 [1, 2, 3, 4] J4a) ?_
 refine Gb h fun y1 e2 h => ?_
 refine Gc (kc 179 [3] #[9]) 4 117 179 _ (W.zn x0 y1 e2  p0 ) ?_
 rintro _ w2 ⟨S2, u32, rfl, z2, p2⟩
 refine Gb h fun y4 e5 h => ?_
 refine Gc (kc 60 [4] #[117]) 5 28 60 _ (W.zt y1 y4 e5 _ p2 ) ?_
 rintro _ w3 ⟨S3, u1d, u1e, u1f, u1g, rfl, z3, p3, u1h, rfl⟩
 have p3 := p3.dp 1
 refine Gg h fun g7 h => ?_
 refine Gc (kc 178 [5] #[28]) 6 28 178 _ (compactS_calls (zs := (cmpL y4)) Tryz.compS p3 u1h rfl rfl g7) ?_
 rintro _ w4 ⟨rfl, z4, cs8, p4, f9⟩
 refine Hn 2 J4a ?_
 obtain rfl := sj h
 exact Hr Tryz.f122 ⟨_, _, _, _, _, rfl, ((z2.t z3).t z4), p4, f9, rfl⟩

def J4c := Ys 111 B180 []
def Q3e := Yq 110 B180

def Post.zv (Epl : ZE) (pl : Z) (r : Bool) (v : Value) (w' : World) : Prop :=
 ∃ S', v = .bool r ∧ Ext S0 w0 S' w' ∧ Hp nz wz S' w' (PL Epl (Lr))

theorem W.zv (x0 : Option Nat) (pl : Z) (r : Bool) (h : M.a2b x0 pl = some r) {nz wz S0 w0 Lr} (vx0 Epl) (p0 : Hp nz wz S0 w0 (PL Epl (Lr))) (fx0 : PpO 236 S0 vx0 x0) (fpl : PS S0 w0 Epl pl) :
  Calls Tryz.prog 180 #[vx0] w0 (Rets (Post.zv nz wz S0 w0 Lr Epl pl r)) := by
 refine Zf Tryz.f180 B180 12 ?_
 refine Gj 13 [(0, vx0)] fun junk => ?_
 delta M.a2b at h
 refine Hn 7 (Zr Q3e [1, 2, 3, 4, 5, 6, 7, 8, 9, 10] J4c) ?_
 refine Gl h fun v18 h1 h => ?_
 rcases v18 with _ | y2
 ·
  try dsimp only at h
  obtain rfl := PpO.nil fx0 h1
  refine Hn 11 J4c ?_
  obtain rfl := sj h
  exact Hr Tryz.f180 ⟨_, rfl, (Ext.refl S0 w0), p0⟩
 ·
  try dsimp only at h
  obtain ⟨g3, rfl, f4⟩ := PpO.got fx0 h1
  refine Hn 6 (Zr Q3e [7, 8, 9, 10] J4c) ?_
  obtain ⟨cs5, q6, l7, e8, f9⟩ := Pl.row p0 9 rfl fpl.zj f4
  have q12 := q6
  obtain ⟨v10, rfl, f11⟩ := kMp_one (w := w0) q12
  refine Hd (f9 0 _ rfl) ?_
  refine Gl h fun v17 h13 h => ?_
  rcases v17 with _ | y14
  ·
   try dsimp only at h
   obtain rfl := MpO.nil f11 h13
   refine Hn 4 J4c ?_
   obtain rfl := sj h
   exact Hr Tryz.f180 ⟨_, rfl, (Ext.refl S0 w0), p0⟩
  ·
   try dsimp only at h
   obtain ⟨g15, rfl, f16⟩ := MpO.got f11 h13
   refine Hn 4 J4c ?_
   obtain rfl := sj h
   exact Hr Tryz.f180 ⟨_, rfl, (Ext.refl S0 w0), p0⟩

def Q3g := Yq 110100 B224
def J4h := Zl Q3g (Zb 0 (Ys 111 B224 []))
def J4i := Zc Q3g J4h
def J4m := Zb 1 (Ys 11010011 B224 J4h)

def Post.zw (r : Bool) (v : Value) (w' : World) : Prop :=
 ∃ S', v = .bool r ∧ Ext S0 w0 S' w' ∧ Hp nz wz S' w' (Lr)

def L.zx : (List Int) × Int → Bool → Prop := fun ⟨x0, x3⟩ r => ∀ S1 w1, Ext S0 w0 S1 w1 → ∀ Ax0 nx0 cx0 (_ : Hp nz wz S1 w1 (Lr)) (_ : Rd (kInt .u64) S1 w1 Ax0 cx0 x0) (_ : x0.length = nx0) (junk : Nat → Value),
 Goes Tryz.prog (base 224) J4i ⟨lfr 20 [(0, .slice Ax0 nx0 cx0), (3, .i x3)] junk, []⟩ w1 (Done Tryz.prog 224 (Rets (Post.zw nz wz S0 w0 Lr r)))

theorem W.zx {nz wz S0 w0 Lr} : ∀ a r, M.a23 a = some r → (L.zx nz wz S0 w0 Lr) a r := by
 refine M.a23.partial_correctness (motive := (L.zx nz wz S0 w0 Lr)) ?_
 intro u33 u34 ⟨x0, x3⟩ r h S1 w1 hx Ax0 nx0 cx0 p1 fx0 lx0 junk
 try dsimp only at h
 subst lx0
 refine Hn 8 (Ys 11010001 B224 (Ys 1101001 B224 J4h)) ?_
 refine Hb [(7, .bool (decide (x3 < (x0.length : Int))))] ?_
 refine Gi h (fun h1 h => ?_) fun h1 h => ?_
 ·
  rw [dt h1]
  refine Hn 5 (Ys 1101001000 B224 (Ys 1101001001 B224 J4m)) ?_
  have z2 : Ext S1 w1 S1 (w1).drew := Ext.draw
  have p2 := p1.draw
  refine Gd [] (Fc S1 (w1).drew []) 4 10 ?_
  generalize (w1).drew = w2 at z2 p2 ⊢
  refine Hq [0, 1, 2] 3 (Fc.here trivial) ?_
  refine Gg h fun g2 h => ?_
  refine Gg h fun g3 h => ?_
  refine Hy 3 35 .i64 rfl rfl (fx0.ext z2) (Fc.here trivial) g2 g3 fun a4 _ f5 q6 => ?_
  obtain rfl := q6
  refine Hl 4 (Fc.here trivial) (fun _ h => f5.fc h 0 _ rfl) ?_
  refine Hq [5, 6] 2 (Fc.here trivial) ?_
  refine Gg h fun g7 h => ?_
  refine Hy 7 35 .i64 rfl rfl (fx0.ext z2) (Fc.here trivial) g7 h1 fun a8 _ f9 q10 => ?_
  obtain rfl := q10
  refine Hl 8 (Fc.here trivial) (fun _ h => f9.fc h 0 _ rfl) ?_
  refine Hq [9] 1 (Fc.here trivial) ?_
  refine Ad ?_
  refine Hb [(19, .bool (decide (gi x0 (wr .i64 (x3 - 1)) ≥ gi x0 x3)))] ?_
  refine Gi h (fun h11 h => ?_) fun h11 h => ?_
  ·
   rw [dt h11]
   refine Hn 5 (Ys 110100100101 B224 J4m) ?_
   obtain rfl := sj h
   exact Hr Tryz.f224 ⟨_, rfl, (hx.t z2), p2⟩
  ·
   rw [df h11]
   refine Hn 9 J4i ?_
   exact Gk (u34 _ _ h _ _ (hx.t z2) _ _ _ p2 (fx0.ext z2) rfl)
 ·
  rw [df h1]
  refine Hn 6 (Ys 1111 B224 []) ?_
  obtain rfl := sj h
  exact Hr Tryz.f224 ⟨_, rfl, hx, p1⟩

theorem W.zw (x0 : List Int) (r : Bool) (h : M.a42 x0 = some r) {nz wz S0 w0 Lr} (Ax0 nx0 cx0) (p0 : Hp nz wz S0 w0 (Lr)) (fx0 : Rd (kInt .u64) S0 w0 Ax0 cx0 x0) (lx0 : x0.length = nx0) :
  Calls Tryz.prog 224 #[.slice Ax0 nx0 cx0] w0 (Rets (Post.zw nz wz S0 w0 Lr r)) := by
 subst lx0
 refine Zf Tryz.f224 B224 19 ?_
 refine Gj 20 [(0, .slice Ax0 x0.length cx0)] fun junk => ?_
 delta M.a42 at h
 refine Hn 11 J4i ?_
 exact Gk (W.zx _ _ h _ _ (Ext.refl S0 w0) _ _ _ p0 fx0 rfl)

def J4r := Ys 111 B187 []
def J4s := Ys 1101 B187 J4r

def Post.zy (r : Int) (v : Value) (w' : World) : Prop :=
 ∃ S', v = .i r ∧ Ext S0 w0 S' w' ∧ Hp nz wz S' w' (Lr)

theorem W.zy (x0 : List Int) (r : Int) (h : M.a1r x0 = some r) {nz wz S0 w0 Lr} (Ax0 nx0 cx0) (p0 : Hp nz wz S0 w0 (Lr)) (fx0 : Rd (kInt .u64) S0 w0 Ax0 cx0 x0) (lx0 : x0.length = nx0) :
  Calls Tryz.prog 187 #[.slice Ax0 nx0 cx0] w0 (Rets (Post.zy nz wz S0 w0 Lr r)) := by
 subst lx0
 refine Zf Tryz.f187 B187 5 ?_
 refine Gj 6 [(0, .slice Ax0 x0.length cx0)] fun junk => ?_
 delta M.a1r at h
 refine Hn 8 (Yt 1100 B187 [1, 2] J4s) ?_
 refine Gb h fun y1 e2 h => ?_
 refine Gc (kc 224 [3] #[31]) 4 4 224 _ (W.zw x0 y1 e2 _ _ _ p0 fx0 rfl) ?_
 rintro _ w2 ⟨S2, rfl, z2, p2⟩
 refine Hn 2 J4s ?_
 refine Hb [(4, .bool y1), (5, .bool (!y1))] ?_
 refine Gi h (fun h3 h => ?_) fun h3 h => ?_
 ·
  rw [h3]
  refine Hn 6 (Ys 1111 B187 []) ?_
  obtain rfl := sj h
  exact Hr Tryz.f187 ⟨_, rfl, z2, p2⟩
 ·
  rw [bf h3]
  refine Hn 5 (Ys 110101 B187 J4r) ?_
  obtain rfl := sj h
  exact Hr Tryz.f187 ⟨_, rfl, z2, p2⟩

def J4w := Ys 111 B97 []
def J50 := Ys 1111 B97 []
def Q3y := Yq 1110 B97

def Post.zz (r : List Int) (v : Value) (w' : World) : Prop :=
 ∃ S' Gq nq cq csq, v = .slice (Gp Gq) nq cq ∧ Ext S0 w0 S' w' ∧ Hp nz wz S' w' ((Gq, .row 35 csq (cq * (kInt .u64).size) 0) :: Lr) ∧ Els (kInt .u64) S' w' csq r ∧ r.length = nq

theorem W.zz (x0 : List Int) (r : List Int) (h : M.ap x0 = some r) {nz wz S0 w0 Lr} (Ax0 nx0 cx0) (p0 : Hp nz wz S0 w0 (Lr)) (fx0 : Rd (kInt .u64) S0 w0 Ax0 cx0 x0) (lx0 : x0.length = nx0) :
  Calls Tryz.prog 97 #[.slice Ax0 nx0 cx0] w0 (Rets (Post.zz nz wz S0 w0 Lr r)) := by
 subst lx0
 refine Zf Tryz.f97 B97 7 ?_
 refine Gj 8 [(0, .slice Ax0 x0.length cx0)] fun junk => ?_
 delta M.ap at h
 refine Hn 8 (Yt 1100 B97 [1] (Ys 1101 B97 J4w)) ?_
 rcases Rd.isnil fx0 with ⟨rfl, rfl, rfl⟩ | ⟨a1, rfl⟩
 ·
  replace h : (some ([] : List Int)) = some r := by first | exact h | (simpa using h) | (simp at h ⊢; exact h)
  refine Hn 7 (Ys 110101 B97 J4w) ?_
  have p0 : Hp nz wz S0 w0 ((none, .row 35 [] (0 * (kInt .u64).size) 0) :: Lr) := p0.nilRow' 35
  obtain rfl := sj h
  exact Hr Tryz.f97 ⟨_, _, _, _, _, rfl, (Ext.refl S0 w0), p0, (Els.nil (K := (kInt .u64))), rfl⟩
 ·
  refine Hn 6 (Zr Q3y [0, 1, 2, 3] J50) ?_
  have f4 : Els (kInt .u64) S0 w0 ([] : List Value) ([] : List Int) := by exact Els.nil
  refine Om (.buildSlice 31 0 #[]) 5 31 (fun b => .slice (Gp (some b)) 0 0) 35 ([] : List Value) (0 * (kInt .u64).size) p0 Goes.v fun b3 w2 z2 p2 => ?_
  refine Hn 1 (Zr Q3y [2, 3] J50) ?_
  obtain ⟨ns6, f7, f8⟩ := src_rd (fx0.ext z2)
  refine Gg h fun g9 h => ?_
  refine On (K := (kInt .u64)) 31 (.tmp 5) (.tmp 6) 7 31 35 0 (.u 0) 8 0 0 x0.length ([] : List Int) x0 x0 (some a1) cx0 rfl rfl (List.nil_append _) p2 rfl (f4.ext z2) Goes.v f7 f8 g9 fun w3 G10 c11 uv z3 p3 f13 => ?_
  refine Hn 2 J50 ?_
  obtain rfl := sj h
  exact Hr Tryz.f97 ⟨_, _, _, _, _, rfl, (z2.t z3), p3, f13, rfl⟩


def Post.z10 (r : (List Int) × (List Int)) (v : Value) (w' : World) : Prop :=
 ∃ S' u1r u35 u36 u37 u38 u39 u3a u3b, v = .func (.func 250) #[] #[(pt u1r 0), (pt u38 0)] ∧ Ext S0 w0 S' w' ∧ Hp nz wz S' w' ((some u1r, .row 31 [.slice u35 u36 u37] 1 0) :: (some u38, .row 31 [.slice u39 u3a u3b] 1 0) :: Lr) ∧ Rd (kInt .u64) S' w' u35 u37 r.1 ∧ r.1.length = u36 ∧ Rd (kInt .u64) S' w' u39 u3b r.2 ∧ r.2.length = u3a

theorem W.z10 (x0 : List Int) (x1 : List Int) (r : (List Int) × (List Int)) (h : M.a31 x0 x1 = some r) {nz wz S0 w0 Lr} (Ax0 nx0 cx0 Ax1 nx1 cx1) (p0 : Hp nz wz S0 w0 (Lr)) (fx0 : Rd (kInt .u64) S0 w0 Ax0 cx0 x0) (lx0 : x0.length = nx0) (fx1 : Rd (kInt .u64) S0 w0 Ax1 cx1 x1) (lx1 : x1.length = nx1) :
  Calls Tryz.prog 238 #[.slice Ax0 nx0 cx0, .slice Ax1 nx1 cx1] w0 (Rets (Post.z10 nz wz S0 w0 Lr r)) := by
 subst lx0
 subst lx1
 refine Zf Tryz.f238 B238 4 ?_
 refine Gj 6 [(0, .slice Ax0 x0.length cx0), (1, .slice Ax1 x1.length cx1)] fun junk => ?_
 delta M.a31 at h
 refine Hn 2 (Yt 10 B238 [0, 1, 2] (Ys 11 B238 [])) ?_
 refine Ob 31 (.tmp 0) 2 0 (.slice Ax0 x0.length cx0) [.slice Ax0 x0.length cx0] p0 Goes.v fun b1 w2 z2 p2 => ?_
 refine Ob 31 (.tmp 1) 3 0 (.slice Ax1 x1.length cx1) [.slice Ax1 x1.length cx1] p2 Goes.v fun b3 w3 z3 p3 => ?_
 refine Hn 7 (Ys 111 B238 []) ?_
 obtain rfl := sj h
 have p3 := p3.fr 1
 exact Hr Tryz.f238 ⟨_, _, _, _, _, _, _, _, _, rfl, (z2.t z3), p3, (fx0.ext (z2.t z3)), rfl, (fx1.ext (z2.t z3)), rfl⟩


def Post.z11 (r : Bool) (v : Value) (w' : World) : Prop :=
 ∃ S', v = .bool r ∧ Ext S0 w0 S' w' ∧ Hp nz wz S' w' (Lr)

theorem W.z11 (x0 : Int) (r : Bool) (h : M.a73 x0 = some r) {nz wz S0 w0 Lr} (p0 : Hp nz wz S0 w0 (Lr)) :
  Calls Tryz.prog 205 #[.i x0] w0 (Rets (Post.z11 nz wz S0 w0 Lr r)) := by
 refine Zf Tryz.f205 B205 4 ?_
 refine Gj 5 [(0, .i x0)] fun junk => ?_
 delta M.a73 at h
 refine Hn 10 (Ys 111 B205 []) ?_
 obtain rfl := sj h
 exact Hr Tryz.f205 ⟨_, rfl, (Ext.refl S0 w0), p0⟩

def J57 := Ys 111010101 B206 J3h
def Q44 := Yq 111010100 B206
def J58 := Zr Q44 [0, 1, 2] J57
def J59 := Zr Q44 [2] J57
def Q45 := Yq 1110101010 B206
def J5a := Zr Q45 [0, 1, 2, 3, 4] J3h
def J5b := Zr Q45 [2, 3, 4] J3h
def Q46 := Yq 111010 B206
def Q47 := Yq 1110101 B206

def Post.z12 (lk : Nat) (rk : Nat) (jkk : Nat → Value) (u3c : Nat) (u3d : Nat) (u3e : Nat) (u3f : Option Addr) (u3g : Nat) (u3h : Nat) (u3i : Nat) (u3j : Option Addr) (u3k : Nat) (u3l : Nat) (u3m : List Int) (u3n : List Int) (r : List Int) (v : Value) (w' : World) : Prop :=
 ∃ S' u3o u3p u3q u3r, v = .bool true ∧ Ext S0 w0 S' w' ∧ Hp nz wz S' w' ((some lk, .obj (lpst 206 (lfr 23 [(5, (pt u3c 0)), (7, (pt u3d 0)), (12, .func (.func 250) #[] #[(pt u3e 0), (pt u3i 0)])] jkk) #[13, 14] (rfAssign (Q46)) (rfBody (Q46)) rk .ready none)) :: (some u3c, .row 218 [.func (.func 205) #[] #[]] 1 0) :: (some u3d, .row 31 [.slice (Gp u3o) u3p u3q] 1 0) :: (u3o, .row 35 u3r (u3q * (kInt .u64).size) 0) :: (some u3e, .row 31 [.slice u3f u3g u3h] 1 0) :: (some u3i, .row 31 [.slice u3j u3k u3l] 1 0) :: Lr) ∧ Els (kInt .u64) S' w' u3r r ∧ r.length = u3p

theorem W.z12 (u3s : List Int) (u3m : List Int) (u3n : List Int) (a0 : Int) (a1 : Int) (r : List Int) (h : M.a5g u3s u3m u3n a0 a1 = some r) {nz wz S0 w0 Lr} (lk rk jkk u3c u3d u3t u3u u3v u3w u3e u3f u3g u3h u3i u3j u3k u3l) (p0 : Hp nz wz S0 w0 ((some lk, .obj (lpst 206 (lfr 23 [(5, (pt u3c 0)), (7, (pt u3d 0)), (12, .func (.func 250) #[] #[(pt u3e 0), (pt u3i 0)])] jkk) #[13, 14] (rfAssign (Q46)) (rfBody (Q46)) rk .ready none)) :: (some u3c, .row 218 [.func (.func 205) #[] #[]] 1 0) :: (some u3d, .row 31 [.slice (Gp u3t) u3u u3v] 1 0) :: (u3t, .row 35 u3w (u3v * (kInt .u64).size) 0) :: (some u3e, .row 31 [.slice u3f u3g u3h] 1 0) :: (some u3i, .row 31 [.slice u3j u3k u3l] 1 0) :: Lr)) (u3x : Els (kInt .u64) S0 w0 u3w u3s) (u3y : u3s.length = u3u) (u3z : Rd (kInt .u64) S0 w0 u3f u3h u3m) (u40 : u3m.length = u3g) (u41 : Rd (kInt .u64) S0 w0 u3j u3l u3n) (u42 : u3n.length = u3k) :
  Goes Tryz.prog (rbase 206 lk) [.code (rfAssign (Q46)), .beginRound, .code (rfBody (Q46))] ⟨setp (lfr 23 [(5, (pt u3c 0)), (7, (pt u3d 0)), (12, .func (.func 250) #[] #[(pt u3e 0), (pt u3i 0)])] jkk) #[13, 14] #[.u a0, .i a1], []⟩ w0 (DoneR (Post.z12 nz wz S0 w0 Lr lk rk jkk u3c u3d u3e u3f u3g u3h u3i u3j u3k u3l u3m u3n r)) := by
 subst u3y
 subst u40
 subst u42
 refine Gj 23 [(5, (pt u3c 0)), (7, (pt u3d 0)), (12, .func (.func 250) #[] #[(pt u3e 0), (pt u3i 0)]), (13, .u a0), (14, .i a1)] fun junk => ?_
 delta M.a5g at h
 refine Hn 7 [.beginRound, .code (Q47)] ?_
 refine Goes.beginR 0 rfl p0 rfl fun w2 z2 p2 => ?_
 refine Hn 3 J58 ?_
 refine Hd (p2.e 1 0) ?_
 refine Hn 1 J59 ?_
 refine Gb h fun y7 e8 h => ?_
 refine Gc (.call { callee := .value (.tmp 15), args := #[(.tmp 16)], argTypes := #[3] }) 17 4 205 _ (W.z11 a1 y7 e8  p2 ) ?_
 rintro _ w3 ⟨S3, rfl, z3, p3⟩
 refine Hn 1 J57 ?_
 refine Hb [(17, .bool y7)] ?_
 refine Gi h (fun h9 h => ?_) fun h9 h => ?_
 ·
  rw [h9]
  refine Hn 2 J5a ?_
  refine Hd (p3.e 2 0) ?_
  refine Hn 1 J5b ?_
  have f11 : Els (kInt .u64) S3 w3 ([.u a0] : List Value) [a0] := by exact (Els.cons (K := (kInt .u64)) (vs := [.u a0]) (x := a0) rfl Els.nil)
  refine Om (.buildSlice 31 1 #[(0, (.tmp 19))]) 20 31 (fun b => .slice (Gp (some b)) 1 1) 35 ([.u a0] : List Value) (1 * (kInt .u64).size) p3 Goes.v fun b10 w4 z4 p4 => ?_
  refine Gg h fun g16 h => ?_
  refine On (K := (kInt .u64)) 31 (.tmp 18) (.tmp 20) 21 31 35 4 (.u 0) 8 u3s.length u3v 1 u3s [a0] (u3s ++ [a0]) (Gp (some b10)) 1 rfl rfl rfl p4 rfl (u3x.ext ((z2.t z3).t z4)) Goes.v (f11.ext z4) (src_own p4 (q := 0) rfl) g16 fun w5 G17 c18 u43 z5 p5 f20 => ?_
  refine So 31 (.tmp 7) (.tmp 21) 0 3 u3d 0 (.slice (Gp G17) ((u3s ++ [a0]).length) c18) [.slice (Gp G17) ((u3s ++ [a0]).length) c18] p5 rfl Goes.s fun w6 z6 p6 => ?_
  refine Hn 2 [] ?_
  have p6 := p6.dp 0
  obtain rfl := sj h
  refine Goes.endR 0 p6 rfl fun w7 z7 p7 => ?_
  exact ⟨S3, G17, (u3s ++ [a0]).length, c18, u43, rfl, (((((z2.t z3).t z4).t z5).t z6).t z7), p7, (f20.ext (z6.t z7)), rfl⟩
 ·
  rw [bf h9]
  refine Hn 3 [] ?_
  obtain rfl := sj h
  refine Goes.endR 0 p3 rfl fun w8 z8 p8 => ?_
  exact ⟨S3, u3t, u3s.length, u3v, u3w, rfl, ((z2.t z3).t z8), p8, (u3x.ext ((z2.t z3).t z8)), rfl⟩

def Q48 := Yq 100 B250
def J5c := Zl Q48 J3k
def J5d := Zc Q48 J5c
def J5f := Ys 10001 B250 (Ys 1001 B250 J5c)
def J5g := Zb 1 J5c
def J5h := Ys 1001011 B250 J5g
def J5i := Ys 10010101 B250 J5h
def J5j := Ys 10010111 B250 J5g
def J5k := Ys 100101101 B250 J5j
def J5l := Ys 1001011111 B250 J5g
def J5m := Ys 10010111111 B250 J5g
def Q4h := Yq 10000 B250
def J5n := Zr Q4h [0, 1, 2, 3, 4, 5, 6, 7] J5f
def J5o := Zr Q4h [4, 5, 6, 7] J5f
def J5p := Ys 10010100 B250 J5i
def J5q := Ys 100101100 B250 J5k
def J5r := Ys 10010111101 B250 J5l
def J5s := Ys 100101111010 B250 J5l
def J5t := Ys 100101111101 B250 J5m
def J5u := Ys 1001011111010 B250 J5m
def J5w := Yt 100101111110 B250 [3, 4] (Ys 100101111111 B250 J5g)

def Post.z13 (lx0 : Nat) (rx0 : Nat) (u27 : Nat → Value) (u44 : Nat) (u45 : Nat) (u46 : Nat) (u47 : Nat) (r : (List Int) × (List Int) × (List Int)) (v : Value) (w' : World) : Prop :=
 ∃ S' u3o u3p u3q u3r u48 u49 u4a u4b u4c u4d, v = .tuple #[] ∧ Ext S0 w0 S' w' ∧ Hp nz wz S' w' ((some lx0, .obj (lpst 206 (lfr 23 [(5, (pt u44 0)), (7, (pt u45 0)), (12, .func (.func 250) #[] #[(pt u46 0), (pt u47 0)])] u27) #[13, 14] (rfAssign (Q46)) (rfBody (Q46)) rx0 .ready none)) :: (some u44, .row 218 [.func (.func 205) #[] #[]] 1 0) :: (some u45, .row 31 [.slice (Gp u3o) u3p u3q] 1 0) :: (u3o, .row 35 u3r (u3q * (kInt .u64).size) 0) :: (some u46, .row 31 [.slice u48 u49 u4a] 1 0) :: (some u47, .row 31 [.slice u4b u4c u4d] 1 0) :: Lr) ∧ Els (kInt .u64) S' w' u3r r.1 ∧ r.1.length = u3p ∧ Rd (kInt .u64) S' w' u48 u4a r.2.1 ∧ r.2.1.length = u49 ∧ Rd (kInt .u64) S' w' u4b u4d r.2.2 ∧ r.2.2.length = u4c

def L.z14 (lx0 : Nat) (rx0 : Nat) (u27 : Nat → Value) (u44 : Nat) (u45 : Nat) (u46 : Nat) (u47 : Nat) : (List Int) × (List Int) × (List Int) → ((List Int) × (List Int) × (List Int)) → Prop := fun ⟨u4e, u4f, u4g⟩ r => ∀ S1 w1, Ext S0 w0 S1 w1 → ∀ u3o u3p u3q u3r u48 u49 u4a u4b u4c u4d (_ : Hp nz wz S1 w1 ((some lx0, .obj (lpst 206 (lfr 23 [(5, (pt u44 0)), (7, (pt u45 0)), (12, .func (.func 250) #[] #[(pt u46 0), (pt u47 0)])] u27) #[13, 14] (rfAssign (Q46)) (rfBody (Q46)) rx0 .ready none)) :: (some u44, .row 218 [.func (.func 205) #[] #[]] 1 0) :: (some u45, .row 31 [.slice (Gp u3o) u3p u3q] 1 0) :: (u3o, .row 35 u3r (u3q * (kInt .u64).size) 0) :: (some u46, .row 31 [.slice u48 u49 u4a] 1 0) :: (some u47, .row 31 [.slice u4b u4c u4d] 1 0) :: Lr)) (_ : Els (kInt .u64) S1 w1 u3r u4e) (_ : u4e.length = u3p) (_ : Rd (kInt .u64) S1 w1 u48 u4a u4f) (_ : u4f.length = u49) (_ : Rd (kInt .u64) S1 w1 u4b u4d u4g) (_ : u4g.length = u4c) (junk : Nat → Value),
 Goes Tryz.prog (base 250) J5d ⟨lfr 73 [(0, yieldV lx0), (1, (pt u46 0)), (2, (pt u47 0))] junk, []⟩ w1 (Done Tryz.prog 250 (Rets (Post.z13 nz wz S0 w0 Lr lx0 rx0 u27 u44 u45 u46 u47 r)))

def L.z15 (lx0 : Nat) (rx0 : Nat) (u27 : Nat → Value) (u44 : Nat) (u45 : Nat) (u46 : Nat) (u47 : Nat) : Bool × (List Int) × (List Int) × (List Int) → ((List Int) × (List Int) × (List Int)) → Prop := fun ⟨x13, u4e, u4f, u4g⟩ r => ∀ S1 w1, Ext S0 w0 S1 w1 → ∀ u3o u3p u3q u3r u48 u49 u4a u4b u4c u4d (_ : Hp nz wz S1 w1 ((some lx0, .obj (lpst 206 (lfr 23 [(5, (pt u44 0)), (7, (pt u45 0)), (12, .func (.func 250) #[] #[(pt u46 0), (pt u47 0)])] u27) #[13, 14] (rfAssign (Q46)) (rfBody (Q46)) rx0 .ready none)) :: (some u44, .row 218 [.func (.func 205) #[] #[]] 1 0) :: (some u45, .row 31 [.slice (Gp u3o) u3p u3q] 1 0) :: (u3o, .row 35 u3r (u3q * (kInt .u64).size) 0) :: (some u46, .row 31 [.slice u48 u49 u4a] 1 0) :: (some u47, .row 31 [.slice u4b u4c u4d] 1 0) :: Lr)) (_ : Els (kInt .u64) S1 w1 u3r u4e) (_ : u4e.length = u3p) (_ : Rd (kInt .u64) S1 w1 u48 u4a u4f) (_ : u4f.length = u49) (_ : Rd (kInt .u64) S1 w1 u4b u4d u4g) (_ : u4g.length = u4c) (junk : Nat → Value),
 Goes Tryz.prog (base 250) J5f ⟨lfr 73 [(0, yieldV lx0), (1, (pt u46 0)), (2, (pt u47 0)), (13, .bool x13)] junk, []⟩ w1 (Done Tryz.prog 250 (Rets (Post.z13 nz wz S0 w0 Lr lx0 rx0 u27 u44 u45 u46 u47 r)))

def L.z16 (lx0 : Nat) (rx0 : Nat) (u27 : Nat → Value) (u44 : Nat) (u45 : Nat) (u46 : Nat) (u47 : Nat) : Int × Bool × (List Int) × (List Int) × (List Int) → ((List Int) × (List Int) × (List Int)) → Prop := fun ⟨x4, x30, u4e, u4f, u4g⟩ r => ∀ S1 w1, Ext S0 w0 S1 w1 → ∀ u3o u3p u3q u3r u48 u49 u4a u4b u4c u4d (_ : Hp nz wz S1 w1 ((some lx0, .obj (lpst 206 (lfr 23 [(5, (pt u44 0)), (7, (pt u45 0)), (12, .func (.func 250) #[] #[(pt u46 0), (pt u47 0)])] u27) #[13, 14] (rfAssign (Q46)) (rfBody (Q46)) rx0 .ready none)) :: (some u44, .row 218 [.func (.func 205) #[] #[]] 1 0) :: (some u45, .row 31 [.slice (Gp u3o) u3p u3q] 1 0) :: (u3o, .row 35 u3r (u3q * (kInt .u64).size) 0) :: (some u46, .row 31 [.slice u48 u49 u4a] 1 0) :: (some u47, .row 31 [.slice u4b u4c u4d] 1 0) :: Lr)) (_ : Els (kInt .u64) S1 w1 u3r u4e) (_ : u4e.length = u3p) (_ : Rd (kInt .u64) S1 w1 u48 u4a u4f) (_ : u4f.length = u49) (_ : Rd (kInt .u64) S1 w1 u4b u4d u4g) (_ : u4g.length = u4c) (junk : Nat → Value),
 Goes Tryz.prog (base 250) J5i ⟨lfr 73 [(0, yieldV lx0), (1, (pt u46 0)), (2, (pt u47 0)), (4, .i x4), (30, .bool x30)] junk, []⟩ w1 (Done Tryz.prog 250 (Rets (Post.z13 nz wz S0 w0 Lr lx0 rx0 u27 u44 u45 u46 u47 r)))

def L.z17 (lx0 : Nat) (rx0 : Nat) (u27 : Nat → Value) (u44 : Nat) (u45 : Nat) (u46 : Nat) (u47 : Nat) : Int × (List Int) × (List Int) × (List Int) → ((List Int) × (List Int) × (List Int)) → Prop := fun ⟨x4, u4e, u4f, u4g⟩ r => ∀ S1 w1, Ext S0 w0 S1 w1 → ∀ u3o u3p u3q u3r u48 u49 u4a u4b u4c u4d (_ : Hp nz wz S1 w1 ((some lx0, .obj (lpst 206 (lfr 23 [(5, (pt u44 0)), (7, (pt u45 0)), (12, .func (.func 250) #[] #[(pt u46 0), (pt u47 0)])] u27) #[13, 14] (rfAssign (Q46)) (rfBody (Q46)) rx0 .ready none)) :: (some u44, .row 218 [.func (.func 205) #[] #[]] 1 0) :: (some u45, .row 31 [.slice (Gp u3o) u3p u3q] 1 0) :: (u3o, .row 35 u3r (u3q * (kInt .u64).size) 0) :: (some u46, .row 31 [.slice u48 u49 u4a] 1 0) :: (some u47, .row 31 [.slice u4b u4c u4d] 1 0) :: Lr)) (_ : Els (kInt .u64) S1 w1 u3r u4e) (_ : u4e.length = u3p) (_ : Rd (kInt .u64) S1 w1 u48 u4a u4f) (_ : u4f.length = u49) (_ : Rd (kInt .u64) S1 w1 u4b u4d u4g) (_ : u4g.length = u4c) (junk : Nat → Value),
 Goes Tryz.prog (base 250) J5h ⟨lfr 73 [(0, yieldV lx0), (1, (pt u46 0)), (2, (pt u47 0)), (4, .i x4)] junk, []⟩ w1 (Done Tryz.prog 250 (Rets (Post.z13 nz wz S0 w0 Lr lx0 rx0 u27 u44 u45 u46 u47 r)))

def L.z18 (lx0 : Nat) (rx0 : Nat) (u27 : Nat → Value) (u44 : Nat) (u45 : Nat) (u46 : Nat) (u47 : Nat) : Int × Bool × (List Int) × (List Int) × (List Int) → ((List Int) × (List Int) × (List Int)) → Prop := fun ⟨x4, x49, u4e, u4f, u4g⟩ r => ∀ S1 w1, Ext S0 w0 S1 w1 → ∀ u3o u3p u3q u3r u48 u49 u4a u4b u4c u4d (_ : Hp nz wz S1 w1 ((some lx0, .obj (lpst 206 (lfr 23 [(5, (pt u44 0)), (7, (pt u45 0)), (12, .func (.func 250) #[] #[(pt u46 0), (pt u47 0)])] u27) #[13, 14] (rfAssign (Q46)) (rfBody (Q46)) rx0 .ready none)) :: (some u44, .row 218 [.func (.func 205) #[] #[]] 1 0) :: (some u45, .row 31 [.slice (Gp u3o) u3p u3q] 1 0) :: (u3o, .row 35 u3r (u3q * (kInt .u64).size) 0) :: (some u46, .row 31 [.slice u48 u49 u4a] 1 0) :: (some u47, .row 31 [.slice u4b u4c u4d] 1 0) :: Lr)) (_ : Els (kInt .u64) S1 w1 u3r u4e) (_ : u4e.length = u3p) (_ : Rd (kInt .u64) S1 w1 u48 u4a u4f) (_ : u4f.length = u49) (_ : Rd (kInt .u64) S1 w1 u4b u4d u4g) (_ : u4g.length = u4c) (junk : Nat → Value),
 Goes Tryz.prog (base 250) J5k ⟨lfr 73 [(0, yieldV lx0), (1, (pt u46 0)), (2, (pt u47 0)), (4, .i x4), (49, .bool x49)] junk, []⟩ w1 (Done Tryz.prog 250 (Rets (Post.z13 nz wz S0 w0 Lr lx0 rx0 u27 u44 u45 u46 u47 r)))

def L.z19 (lx0 : Nat) (rx0 : Nat) (u27 : Nat → Value) (u44 : Nat) (u45 : Nat) (u46 : Nat) (u47 : Nat) : Int × (List Int) × (List Int) × (List Int) → ((List Int) × (List Int) × (List Int)) → Prop := fun ⟨x4, u4e, u4f, u4g⟩ r => ∀ S1 w1, Ext S0 w0 S1 w1 → ∀ u3o u3p u3q u3r u48 u49 u4a u4b u4c u4d (_ : Hp nz wz S1 w1 ((some lx0, .obj (lpst 206 (lfr 23 [(5, (pt u44 0)), (7, (pt u45 0)), (12, .func (.func 250) #[] #[(pt u46 0), (pt u47 0)])] u27) #[13, 14] (rfAssign (Q46)) (rfBody (Q46)) rx0 .ready none)) :: (some u44, .row 218 [.func (.func 205) #[] #[]] 1 0) :: (some u45, .row 31 [.slice (Gp u3o) u3p u3q] 1 0) :: (u3o, .row 35 u3r (u3q * (kInt .u64).size) 0) :: (some u46, .row 31 [.slice u48 u49 u4a] 1 0) :: (some u47, .row 31 [.slice u4b u4c u4d] 1 0) :: Lr)) (_ : Els (kInt .u64) S1 w1 u3r u4e) (_ : u4e.length = u3p) (_ : Rd (kInt .u64) S1 w1 u48 u4a u4f) (_ : u4f.length = u49) (_ : Rd (kInt .u64) S1 w1 u4b u4d u4g) (_ : u4g.length = u4c) (junk : Nat → Value),
 Goes Tryz.prog (base 250) J5j ⟨lfr 73 [(0, yieldV lx0), (1, (pt u46 0)), (2, (pt u47 0)), (4, .i x4)] junk, []⟩ w1 (Done Tryz.prog 250 (Rets (Post.z13 nz wz S0 w0 Lr lx0 rx0 u27 u44 u45 u46 u47 r)))

def L.z1a (lx0 : Nat) (rx0 : Nat) (u27 : Nat → Value) (u44 : Nat) (u45 : Nat) (u46 : Nat) (u47 : Nat) : Int × Int × (List Int) × (List Int) × (List Int) → ((List Int) × (List Int) × (List Int)) → Prop := fun ⟨x4, x5, u4e, u4f, u4g⟩ r => ∀ S1 w1, Ext S0 w0 S1 w1 → ∀ u3o u3p u3q u3r u48 u49 u4a u4b u4c u4d (_ : Hp nz wz S1 w1 ((some lx0, .obj (lpst 206 (lfr 23 [(5, (pt u44 0)), (7, (pt u45 0)), (12, .func (.func 250) #[] #[(pt u46 0), (pt u47 0)])] u27) #[13, 14] (rfAssign (Q46)) (rfBody (Q46)) rx0 .ready none)) :: (some u44, .row 218 [.func (.func 205) #[] #[]] 1 0) :: (some u45, .row 31 [.slice (Gp u3o) u3p u3q] 1 0) :: (u3o, .row 35 u3r (u3q * (kInt .u64).size) 0) :: (some u46, .row 31 [.slice u48 u49 u4a] 1 0) :: (some u47, .row 31 [.slice u4b u4c u4d] 1 0) :: Lr)) (_ : Els (kInt .u64) S1 w1 u3r u4e) (_ : u4e.length = u3p) (_ : Rd (kInt .u64) S1 w1 u48 u4a u4f) (_ : u4f.length = u49) (_ : Rd (kInt .u64) S1 w1 u4b u4d u4g) (_ : u4g.length = u4c) (junk : Nat → Value),
 Goes Tryz.prog (base 250) J5l ⟨lfr 73 [(0, yieldV lx0), (1, (pt u46 0)), (2, (pt u47 0)), (4, .i x4), (5, .u x5)] junk, []⟩ w1 (Done Tryz.prog 250 (Rets (Post.z13 nz wz S0 w0 Lr lx0 rx0 u27 u44 u45 u46 u47 r)))

def L.z1b (lx0 : Nat) (rx0 : Nat) (u27 : Nat → Value) (u44 : Nat) (u45 : Nat) (u46 : Nat) (u47 : Nat) : Int × Int × (List Int) × (List Int) × (List Int) → ((List Int) × (List Int) × (List Int)) → Prop := fun ⟨x4, x5, u4e, u4f, u4g⟩ r => ∀ S1 w1, Ext S0 w0 S1 w1 → ∀ u3o u3p u3q u3r u48 u49 u4a u4b u4c u4d (_ : Hp nz wz S1 w1 ((some lx0, .obj (lpst 206 (lfr 23 [(5, (pt u44 0)), (7, (pt u45 0)), (12, .func (.func 250) #[] #[(pt u46 0), (pt u47 0)])] u27) #[13, 14] (rfAssign (Q46)) (rfBody (Q46)) rx0 .ready none)) :: (some u44, .row 218 [.func (.func 205) #[] #[]] 1 0) :: (some u45, .row 31 [.slice (Gp u3o) u3p u3q] 1 0) :: (u3o, .row 35 u3r (u3q * (kInt .u64).size) 0) :: (some u46, .row 31 [.slice u48 u49 u4a] 1 0) :: (some u47, .row 31 [.slice u4b u4c u4d] 1 0) :: Lr)) (_ : Els (kInt .u64) S1 w1 u3r u4e) (_ : u4e.length = u3p) (_ : Rd (kInt .u64) S1 w1 u48 u4a u4f) (_ : u4f.length = u49) (_ : Rd (kInt .u64) S1 w1 u4b u4d u4g) (_ : u4g.length = u4c) (junk : Nat → Value),
 Goes Tryz.prog (base 250) J5m ⟨lfr 73 [(0, yieldV lx0), (1, (pt u46 0)), (2, (pt u47 0)), (4, .i x4), (5, .u x5)] junk, []⟩ w1 (Done Tryz.prog 250 (Rets (Post.z13 nz wz S0 w0 Lr lx0 rx0 u27 u44 u45 u46 u47 r)))

theorem W.z1c {nz wz S0 w0 Lr} (lx0 : Nat) (rx0 : Nat) (u27 : Nat → Value) (u44 : Nat) (u45 : Nat) (u46 : Nat) (u47 : Nat) : (∀ a r, M.a1s a = some r → (L.z14 nz wz S0 w0 Lr lx0 rx0 u27 u44 u45 u46 u47) a r) ∧ (∀ a r, M.a24 a = some r → (L.z15 nz wz S0 w0 Lr lx0 rx0 u27 u44 u45 u46 u47) a r) ∧ (∀ a r, M.a1t a = some r → (L.z16 nz wz S0 w0 Lr lx0 rx0 u27 u44 u45 u46 u47) a r) ∧ (∀ a r, M.a25 a = some r → (L.z17 nz wz S0 w0 Lr lx0 rx0 u27 u44 u45 u46 u47) a r) ∧ (∀ a r, M.a1u a = some r → (L.z18 nz wz S0 w0 Lr lx0 rx0 u27 u44 u45 u46 u47) a r) ∧ (∀ a r, M.a26 a = some r → (L.z19 nz wz S0 w0 Lr lx0 rx0 u27 u44 u45 u46 u47) a r) ∧ (∀ a r, M.a27 a = some r → (L.z1a nz wz S0 w0 Lr lx0 rx0 u27 u44 u45 u46 u47) a r) ∧ (∀ a r, M.a28 a = some r → (L.z1b nz wz S0 w0 Lr lx0 rx0 u27 u44 u45 u46 u47) a r) := by
 refine M.a1s.mutual_partial_correctness (L.z14 nz wz S0 w0 Lr lx0 rx0 u27 u44 u45 u46 u47) (L.z15 nz wz S0 w0 Lr lx0 rx0 u27 u44 u45 u46 u47) (L.z16 nz wz S0 w0 Lr lx0 rx0 u27 u44 u45 u46 u47) (L.z17 nz wz S0 w0 Lr lx0 rx0 u27 u44 u45 u46 u47) (L.z18 nz wz S0 w0 Lr lx0 rx0 u27 u44 u45 u46 u47) (L.z19 nz wz S0 w0 Lr lx0 rx0 u27 u44 u45 u46 u47) (L.z1a nz wz S0 w0 Lr lx0 rx0 u27 u44 u45 u46 u47) (L.z1b nz wz S0 w0 Lr lx0 rx0 u27 u44 u45 u46 u47) ?_ ?_ ?_ ?_ ?_ ?_ ?_ ?_
 ·
  intro u4h u4i ⟨u4e, u4f, u4g⟩ r h S1 w1 hx u3o u3p u3q u3r u48 u49 u4a u4b u4c u4d p1 u4j u4k u4l u4m u4n u4o junk
  try dsimp only at h
  subst u4k
  subst u4m
  subst u4o
  refine Hn 3 J5n ?_
  refine Hd (p1.e 4 0) ?_
  refine Hn 3 J5o ?_
  refine Hb [(8, .bool (decide ((u4f.length : Int) > 0))), (9, .bool (decide ((u4f.length : Int) > 0)))] ?_
  refine Gi h (fun h8 h => ?_) fun h8 h => ?_
  ·
   rw [dt h8]
   refine Hn 5 J5f ?_
   exact Gk (u4i _ _ h _ _ hx _ _ _ _ _ _ _ _ _ _ p1 u4j rfl u4l rfl u4n rfl)
  ·
   rw [df h8]
   refine Hd (p1.e 5 0) ?_
   refine Hn 4 J5f ?_
   exact Gk (u4i _ _ h _ _ hx _ _ _ _ _ _ _ _ _ _ p1 u4j rfl u4l rfl u4n rfl)
 ·
  intro u4p u4q ⟨x13, u4e, u4f, u4g⟩ r h S1 w1 hx u3o u3p u3q u3r u48 u49 u4a u4b u4c u4d p1 u4j u4k u4l u4m u4n u4o junk
  try dsimp only at h
  subst u4k
  subst u4m
  subst u4o
  refine Hb [(13, .bool x13)] ?_
  refine Gi h (fun h10 h => ?_) fun h10 h => ?_
  ·
   rw [h10]
   refine Hn 9 J5p ?_
   have z2 : Ext S1 w1 S1 (w1).drew := Ext.draw
   have p2 := p1.draw
   refine Gd [] (Fc S1 (w1).drew [(⟨u47, 0, none⟩, .slice u4b u4g.length u4d), (⟨u46, 0, none⟩, .slice u48 u4f.length u4a)]) 2 17 ?_
   generalize (w1).drew = w2 at z2 p2 ⊢
   refine Hl 0 (Fc.here (p2.cs [(5, 0, 1), (4, 0, 1)])) (fun _ h => h.2.at_ 0 rfl) ?_
   refine Hq [1, 2, 3] 3 (Fc.here (p2.cs [(5, 0, 1), (4, 0, 1)])) ?_
   refine HbA [(16, .bool (decide ((u4g.length : Int) = 0))), (17, .bool (decide ((u4g.length : Int) = 0)))] ?_
   refine Gi h (fun h11 h => ?_) fun h11 h => ?_
   ·
    rw [dt h11]
    refine Hq [4, 5, 6, 7, 8, 9, 10, 11, 12, 13, 14, 15, 16] 13 (Fc.here (p2.cs [(5, 0, 1), (4, 0, 1)])) ?_
    refine Ad ?_
    exact Gk (u4q _ _ h _ _ (hx.t z2) _ _ _ _ _ _ _ _ _ _ p2 (u4j.ext z2) rfl (u4l.ext z2) rfl (u4n.ext z2) rfl)
   ·
    rw [df h11]
    refine Hl 4 (Fc.here (p2.cs [(5, 0, 1), (4, 0, 1)])) (fun _ h => h.2.at_ 1 rfl) ?_
    refine Hq [5, 6, 7] 3 (Fc.here (p2.cs [(5, 0, 1), (4, 0, 1)])) ?_
    refine HbA [(20, .bool (decide ((u4f.length : Int) > 0))), (21, .bool (decide ((u4f.length : Int) > 0)))] ?_
    refine Gi h (fun h13 h => ?_) fun h13 h => ?_
    ·
     rw [dt h13]
     refine Hl 8 (Fc.here (p2.cs [(5, 0, 1), (4, 0, 1)])) (fun _ h => h.2.at_ 1 rfl) ?_
     refine Gg h fun g14 h => ?_
     refine Hy 9 35 .i64 rfl rfl (u4l.ext z2) (Fc.here (p2.cs [(5, 0, 1), (4, 0, 1)])) (by decide : (0 : Int) ≤ 0) g14 fun a15 _ f16 q17 => ?_
     obtain rfl := q17
     refine Hl 10 (Fc.here (p2.cs [(5, 0, 1), (4, 0, 1)])) (fun _ h => f16.fc h 0 _ rfl) ?_
     refine Hl 11 (Fc.here (p2.cs [(5, 0, 1), (4, 0, 1)])) (fun _ h => h.2.at_ 0 rfl) ?_
     refine Gg h fun g18 h => ?_
     refine Hy 12 35 .i64 rfl rfl (u4n.ext z2) (Fc.here (p2.cs [(5, 0, 1), (4, 0, 1)])) (by decide : (0 : Int) ≤ 0) g18 fun a19 _ f20 q21 => ?_
     obtain rfl := q21
     refine Hl 13 (Fc.here (p2.cs [(5, 0, 1), (4, 0, 1)])) (fun _ h => f20.fc h 0 _ rfl) ?_
     refine Hq [14, 15, 16] 3 (Fc.here (p2.cs [(5, 0, 1), (4, 0, 1)])) ?_
     refine Ad ?_
     exact Gk (u4q _ _ h _ _ (hx.t z2) _ _ _ _ _ _ _ _ _ _ p2 (u4j.ext z2) rfl (u4l.ext z2) rfl (u4n.ext z2) rfl)
    ·
     rw [df h13]
     refine Hq [8, 9, 10, 11, 12, 13, 14, 15, 16] 9 (Fc.here (p2.cs [(5, 0, 1), (4, 0, 1)])) ?_
     refine Ad ?_
     exact Gk (u4q _ _ h _ _ (hx.t z2) _ _ _ _ _ _ _ _ _ _ p2 (u4j.ext z2) rfl (u4l.ext z2) rfl (u4n.ext z2) rfl)
  ·
   rw [bf h10]
   refine Hn 2 [] ?_
   obtain rfl := sj h
   exact Goes.end_ (fn := Tryz.f250) (by kernel_rfl) (v := .tuple #[]) (by kernel_rfl) ⟨S1, u3o, u4e.length, u3q, u3r, u48, u4f.length, u4a, u4b, u4g.length, u4d, rfl, hx, p1, u4j, rfl, u4l, rfl, u4n, rfl⟩
 ·
  intro u4s u4t ⟨x4, x30, u4e, u4f, u4g⟩ r h S1 w1 hx u3o u3p u3q u3r u48 u49 u4a u4b u4c u4d p1 u4j u4k u4l u4m u4n u4o junk
  try dsimp only at h
  subst u4k
  subst u4m
  subst u4o
  refine Hb [(30, .bool x30)] ?_
  refine Gi h (fun h22 h => ?_) fun h22 h => ?_
  ·
   rw [h22]
   refine Hn 6 J5h ?_
   exact Gk (u4t _ _ h _ _ hx _ _ _ _ _ _ _ _ _ _ p1 u4j rfl u4l rfl u4n rfl)
  ·
   rw [bf h22]
   refine Hn 2 J5h ?_
   exact Gk (u4t _ _ h _ _ hx _ _ _ _ _ _ _ _ _ _ p1 u4j rfl u4l rfl u4n rfl)
 ·
  intro u4v u4w ⟨x4, u4e, u4f, u4g⟩ r h S1 w1 hx u3o u3p u3q u3r u48 u49 u4a u4b u4c u4d p1 u4j u4k u4l u4m u4n u4o junk
  try dsimp only at h
  subst u4k
  subst u4m
  subst u4o
  refine Hn 2 J5q ?_
  have z3 : Ext S1 w1 S1 (w1).drew := Ext.draw
  have p3 := p1.draw
  refine Gd [] (Fc S1 (w1).drew [(⟨u46, 0, none⟩, .slice u48 u4f.length u4a), (⟨u47, 0, none⟩, .slice u4b u4g.length u4d)]) 4 17 ?_
  generalize (w1).drew = w3 at z3 p3 ⊢
  refine Hl 0 (Fc.here (p3.cs [(4, 0, 1), (5, 0, 1)])) (fun _ h => h.2.at_ 0 rfl) ?_
  refine Hq [1, 2, 3] 3 (Fc.here (p3.cs [(4, 0, 1), (5, 0, 1)])) ?_
  refine HbA [(35, .bool (decide ((u4f.length : Int) = 0))), (36, .bool (decide ((u4f.length : Int) = 0)))] ?_
  refine Gi h (fun h24 h => ?_) fun h24 h => ?_
  ·
   rw [dt h24]
   refine Hq [4, 5, 6, 7, 8, 9, 10, 11, 12, 13, 14, 15, 16] 13 (Fc.here (p3.cs [(4, 0, 1), (5, 0, 1)])) ?_
   refine Ad ?_
   exact Gk (u4w _ _ h _ _ (hx.t z3) _ _ _ _ _ _ _ _ _ _ p3 (u4j.ext z3) rfl (u4l.ext z3) rfl (u4n.ext z3) rfl)
  ·
   rw [df h24]
   refine Hl 4 (Fc.here (p3.cs [(4, 0, 1), (5, 0, 1)])) (fun _ h => h.2.at_ 1 rfl) ?_
   refine Hq [5, 6, 7] 3 (Fc.here (p3.cs [(4, 0, 1), (5, 0, 1)])) ?_
   refine HbA [(39, .bool (decide ((u4g.length : Int) > 0))), (40, .bool (decide ((u4g.length : Int) > 0)))] ?_
   refine Gi h (fun h26 h => ?_) fun h26 h => ?_
   ·
    rw [dt h26]
    refine Hl 8 (Fc.here (p3.cs [(4, 0, 1), (5, 0, 1)])) (fun _ h => h.2.at_ 1 rfl) ?_
    refine Gg h fun g27 h => ?_
    refine Hy 9 35 .i64 rfl rfl (u4n.ext z3) (Fc.here (p3.cs [(4, 0, 1), (5, 0, 1)])) (by decide : (0 : Int) ≤ 0) g27 fun a28 _ f29 q30 => ?_
    obtain rfl := q30
    refine Hl 10 (Fc.here (p3.cs [(4, 0, 1), (5, 0, 1)])) (fun _ h => f29.fc h 0 _ rfl) ?_
    refine Hl 11 (Fc.here (p3.cs [(4, 0, 1), (5, 0, 1)])) (fun _ h => h.2.at_ 0 rfl) ?_
    refine Gg h fun g31 h => ?_
    refine Hy 12 35 .i64 rfl rfl (u4l.ext z3) (Fc.here (p3.cs [(4, 0, 1), (5, 0, 1)])) (by decide : (0 : Int) ≤ 0) g31 fun a32 _ f33 q34 => ?_
    obtain rfl := q34
    refine Hl 13 (Fc.here (p3.cs [(4, 0, 1), (5, 0, 1)])) (fun _ h => f33.fc h 0 _ rfl) ?_
    refine Hq [14, 15, 16] 3 (Fc.here (p3.cs [(4, 0, 1), (5, 0, 1)])) ?_
    refine Ad ?_
    exact Gk (u4w _ _ h _ _ (hx.t z3) _ _ _ _ _ _ _ _ _ _ p3 (u4j.ext z3) rfl (u4l.ext z3) rfl (u4n.ext z3) rfl)
   ·
    rw [df h26]
    refine Hq [8, 9, 10, 11, 12, 13, 14, 15, 16] 9 (Fc.here (p3.cs [(4, 0, 1), (5, 0, 1)])) ?_
    refine Ad ?_
    exact Gk (u4w _ _ h _ _ (hx.t z3) _ _ _ _ _ _ _ _ _ _ p3 (u4j.ext z3) rfl (u4l.ext z3) rfl (u4n.ext z3) rfl)
 ·
  intro u4x u4y ⟨x4, x49, u4e, u4f, u4g⟩ r h S1 w1 hx u3o u3p u3q u3r u48 u49 u4a u4b u4c u4d p1 u4j u4k u4l u4m u4n u4o junk
  try dsimp only at h
  subst u4k
  subst u4m
  subst u4o
  refine Hb [(49, .bool x49)] ?_
  refine Gi h (fun h35 h => ?_) fun h35 h => ?_
  ·
   rw [h35]
   refine Hn 6 J5j ?_
   exact Gk (u4y _ _ h _ _ hx _ _ _ _ _ _ _ _ _ _ p1 u4j rfl u4l rfl u4n rfl)
  ·
   rw [bf h35]
   refine Hn 2 J5j ?_
   exact Gk (u4y _ _ h _ _ hx _ _ _ _ _ _ _ _ _ _ p1 u4j rfl u4l rfl u4n rfl)
 ·
  intro u50 u51 ⟨x4, u4e, u4f, u4g⟩ r h S1 w1 hx u3o u3p u3q u3r u48 u49 u4a u4b u4c u4d p1 u4j u4k u4l u4m u4n u4o junk
  try dsimp only at h
  subst u4k
  subst u4m
  subst u4o
  refine Hn 11 J5r ?_
  refine Hb [(54, .bool (!(decide (iand .i64 x4 2 = 0))))] ?_
  refine Gi h (fun h37 h => ?_) fun h37 h => ?_
  ·
   rw [dt h37]
   refine Hn 2 J5l ?_
   exact Gk (u51 _ _ h _ _ hx _ _ _ _ _ _ _ _ _ _ p1 u4j rfl u4l rfl u4n rfl)
  ·
   rw [df h37]
   refine Hn 1 J5s ?_
   have z4 : Ext S1 w1 S1 (w1).drew := Ext.draw
   have p4 := p1.draw
   refine Gd [6] (Fc S1 (w1).drew [(⟨u47, 0, none⟩, .slice u4b u4g.length u4d)]) 8 7 ?_
   generalize (w1).drew = w4 at z4 p4 ⊢
   refine Hl 0 (Fc.here (p4.cs [(5, 0, 1)])) (fun _ h => h.2.at_ 0 rfl) ?_
   refine Gg h fun g39 h => ?_
   refine Hy 1 35 .i64 rfl rfl (u4n.ext z4) (Fc.here (p4.cs [(5, 0, 1)])) (by decide : (0 : Int) ≤ 0) g39 fun a40 _ f41 q42 => ?_
   obtain rfl := q42
   refine Hl 2 (Fc.here (p4.cs [(5, 0, 1)])) (fun _ h => f41.fc h 0 _ rfl) ?_
   refine Hl 3 (Fc.here (p4.cs [(5, 0, 1)])) (fun _ h => h.2.at_ 0 rfl) ?_
   refine Gg h fun g43 h => ?_
   refine AnyG.slR_n (i := 4) 31 (.tmp 58) (some (.const (.int .i64 1))) none 59 31 35 1 (u4g.length : Int) (sl u4g 1 (u4g.length : Int)) rfl rfl (u4n.ext z4) (by kernel_rfl) (by kernel_rfl) (Fc.here (p4.cs [(5, 0, 1)])) (by kernel_rfl) (by kernel_rfl) (by kernel_rfl) (Bnd.at_ .i64 (by kernel_rfl)) Bnd.no (by decide : (0 : Int) ≤ 1) g43 (Int.le_refl _) fun A44 c45 f46 => ?_
   refine Hq [5] 1 (Fc.here (p4.cs [(5, 0, 1)])) ?_
   refine So 31 (.tmp 2) (.tmp 59) 0 5 u47 0 (.slice A44 ((sl u4g 1 (u4g.length : Int)).length) c45) [.slice A44 ((sl u4g 1 (u4g.length : Int)).length) c45] p4 rfl (As 6) fun w5 z5 p5 => ?_
   refine AnyG.last [] (Fc S1 w5 []) (by decide) ?_
   refine Ad ?_
   exact Gk (u51 _ _ h _ _ ((hx.t z4).t z5) _ _ _ _ _ _ _ _ _ _ p5 (u4j.ext (z4.t z5)) rfl (u4l.ext (z4.t z5)) rfl (f46.ext z5) rfl)
 ·
  intro u52 u53 ⟨x4, x5, u4e, u4f, u4g⟩ r h S1 w1 hx u3o u3p u3q u3r u48 u49 u4a u4b u4c u4d p1 u4j u4k u4l u4m u4n u4o junk
  try dsimp only at h
  subst u4k
  subst u4m
  subst u4o
  refine Hn 7 J5t ?_
  refine Hb [(62, .bool (!(decide (iand .i64 x4 1 = 0))))] ?_
  refine Gi h (fun h47 h => ?_) fun h47 h => ?_
  ·
   rw [dt h47]
   refine Hn 2 J5m ?_
   exact Gk (u53 _ _ h _ _ hx _ _ _ _ _ _ _ _ _ _ p1 u4j rfl u4l rfl u4n rfl)
  ·
   rw [df h47]
   refine Hn 1 J5u ?_
   have z6 : Ext S1 w1 S1 (w1).drew := Ext.draw
   have p6 := p1.draw
   refine Gd [6] (Fc S1 (w1).drew [(⟨u46, 0, none⟩, .slice u48 u4f.length u4a)]) 10 7 ?_
   generalize (w1).drew = w6 at z6 p6 ⊢
   refine Hl 0 (Fc.here (p6.cs [(4, 0, 1)])) (fun _ h => h.2.at_ 0 rfl) ?_
   refine Gg h fun g49 h => ?_
   refine Hy 1 35 .i64 rfl rfl (u4l.ext z6) (Fc.here (p6.cs [(4, 0, 1)])) (by decide : (0 : Int) ≤ 0) g49 fun a50 _ f51 q52 => ?_
   obtain rfl := q52
   refine Hl 2 (Fc.here (p6.cs [(4, 0, 1)])) (fun _ h => f51.fc h 0 _ rfl) ?_
   refine Hl 3 (Fc.here (p6.cs [(4, 0, 1)])) (fun _ h => h.2.at_ 0 rfl) ?_
   refine Gg h fun g53 h => ?_
   refine AnyG.slR_n (i := 4) 31 (.tmp 66) (some (.const (.int .i64 1))) none 67 31 35 1 (u4f.length : Int) (sl u4f 1 (u4f.length : Int)) rfl rfl (u4l.ext z6) (by kernel_rfl) (by kernel_rfl) (Fc.here (p6.cs [(4, 0, 1)])) (by kernel_rfl) (by kernel_rfl) (by kernel_rfl) (Bnd.at_ .i64 (by kernel_rfl)) Bnd.no (by decide : (0 : Int) ≤ 1) g53 (Int.le_refl _) fun A54 c55 f56 => ?_
   refine Hq [5] 1 (Fc.here (p6.cs [(4, 0, 1)])) ?_
   refine So 31 (.tmp 1) (.tmp 67) 0 4 u46 0 (.slice A54 ((sl u4f 1 (u4f.length : Int)).length) c55) [.slice A54 ((sl u4f 1 (u4f.length : Int)).length) c55] p6 rfl (As 6) fun w7 z7 p7 => ?_
   refine AnyG.last [] (Fc S1 w7 []) (by decide) ?_
   refine Ad ?_
   exact Gk (u53 _ _ h _ _ ((hx.t z6).t z7) _ _ _ _ _ _ _ _ _ _ p7 (u4j.ext (z6.t z7)) rfl (f56.ext z7) rfl (u4n.ext (z6.t z7)) rfl)
 ·
  intro u54 u55 ⟨x4, x5, u4e, u4f, u4g⟩ r h S1 w1 hx u3o u3p u3q u3r u48 u49 u4a u4b u4c u4d p1 u4j u4k u4l u4m u4n u4o junk
  try dsimp only at h
  subst u4k
  subst u4m
  subst u4o
  refine Hn 5 J5w ?_
  refine Gb h fun y57 e58 h => ?_
  refine Goes.yieldAt (.call { callee := .value (.tmp 68), args := #[(.tmp 69), (.tmp 70)], argTypes := #[35, 3] }) 71 4 0 lx0 #[.u x5, .i x4] p1 rfl (by kernel_rfl) rfl (fun _ => by kernel_rfl) rfl (W.z12 u4e u4f u4g x5 x4 y57 e58 _ _ _ _ _ _ _ _ _ _ _ _ _ _ _ _ _ p1 u4j rfl u4l rfl u4n rfl) ?_
  rintro _ w8 ⟨S8, u56, u57, u58, u59, rfl, z8, p8, u5a, rfl⟩
  refine Hn 6 J5d ?_
  exact Gk (u55 _ _ h _ _ (hx.t z8) _ _ _ _ _ _ _ _ _ _ p8 u5a rfl (u4l.ext z8) rfl (u4n.ext z8) rfl)

theorem W.z14 {nz wz S0 w0 Lr} (lx0 : Nat) (rx0 : Nat) (u27 : Nat → Value) (u44 : Nat) (u45 : Nat) (u46 : Nat) (u47 : Nat) : ∀ a r, M.a1s a = some r → (L.z14 nz wz S0 w0 Lr lx0 rx0 u27 u44 u45 u46 u47) a r := (W.z1c lx0 rx0 u27 u44 u45 u46 u47).1

theorem W.z15 {nz wz S0 w0 Lr} (lx0 : Nat) (rx0 : Nat) (u27 : Nat → Value) (u44 : Nat) (u45 : Nat) (u46 : Nat) (u47 : Nat) : ∀ a r, M.a24 a = some r → (L.z15 nz wz S0 w0 Lr lx0 rx0 u27 u44 u45 u46 u47) a r := (W.z1c lx0 rx0 u27 u44 u45 u46 u47).2.1

theorem W.z16 {nz wz S0 w0 Lr} (lx0 : Nat) (rx0 : Nat) (u27 : Nat → Value) (u44 : Nat) (u45 : Nat) (u46 : Nat) (u47 : Nat) : ∀ a r, M.a1t a = some r → (L.z16 nz wz S0 w0 Lr lx0 rx0 u27 u44 u45 u46 u47) a r := (W.z1c lx0 rx0 u27 u44 u45 u46 u47).2.2.1

theorem W.z17 {nz wz S0 w0 Lr} (lx0 : Nat) (rx0 : Nat) (u27 : Nat → Value) (u44 : Nat) (u45 : Nat) (u46 : Nat) (u47 : Nat) : ∀ a r, M.a25 a = some r → (L.z17 nz wz S0 w0 Lr lx0 rx0 u27 u44 u45 u46 u47) a r := (W.z1c lx0 rx0 u27 u44 u45 u46 u47).2.2.2.1

theorem W.z18 {nz wz S0 w0 Lr} (lx0 : Nat) (rx0 : Nat) (u27 : Nat → Value) (u44 : Nat) (u45 : Nat) (u46 : Nat) (u47 : Nat) : ∀ a r, M.a1u a = some r → (L.z18 nz wz S0 w0 Lr lx0 rx0 u27 u44 u45 u46 u47) a r := (W.z1c lx0 rx0 u27 u44 u45 u46 u47).2.2.2.2.1

theorem W.z19 {nz wz S0 w0 Lr} (lx0 : Nat) (rx0 : Nat) (u27 : Nat → Value) (u44 : Nat) (u45 : Nat) (u46 : Nat) (u47 : Nat) : ∀ a r, M.a26 a = some r → (L.z19 nz wz S0 w0 Lr lx0 rx0 u27 u44 u45 u46 u47) a r := (W.z1c lx0 rx0 u27 u44 u45 u46 u47).2.2.2.2.2.1

theorem W.z1a {nz wz S0 w0 Lr} (lx0 : Nat) (rx0 : Nat) (u27 : Nat → Value) (u44 : Nat) (u45 : Nat) (u46 : Nat) (u47 : Nat) : ∀ a r, M.a27 a = some r → (L.z1a nz wz S0 w0 Lr lx0 rx0 u27 u44 u45 u46 u47) a r := (W.z1c lx0 rx0 u27 u44 u45 u46 u47).2.2.2.2.2.2.1

theorem W.z1b {nz wz S0 w0 Lr} (lx0 : Nat) (rx0 : Nat) (u27 : Nat → Value) (u44 : Nat) (u45 : Nat) (u46 : Nat) (u47 : Nat) : ∀ a r, M.a28 a = some r → (L.z1b nz wz S0 w0 Lr lx0 rx0 u27 u44 u45 u46 u47) a r := (W.z1c lx0 rx0 u27 u44 u45 u46 u47).2.2.2.2.2.2.2

theorem W.z13 (u5b : List Int) (u5c : List Int) (u5d : List Int) (r : (List Int) × (List Int) × (List Int)) (h : M.a43 u5b u5c u5d = some r) {nz wz S0 w0 Lr} (lx0 rx0 u27 u44 u45 u5e u5f u5g u5h u46 u5i u5j u5k u47 u5l u5m u5n) (p0 : Hp nz wz S0 w0 ((some lx0, .obj (lpst 206 (lfr 23 [(5, (pt u44 0)), (7, (pt u45 0)), (12, .func (.func 250) #[] #[(pt u46 0), (pt u47 0)])] u27) #[13, 14] (rfAssign (Q46)) (rfBody (Q46)) rx0 .ready none)) :: (some u44, .row 218 [.func (.func 205) #[] #[]] 1 0) :: (some u45, .row 31 [.slice (Gp u5e) u5f u5g] 1 0) :: (u5e, .row 35 u5h (u5g * (kInt .u64).size) 0) :: (some u46, .row 31 [.slice u5i u5j u5k] 1 0) :: (some u47, .row 31 [.slice u5l u5m u5n] 1 0) :: Lr)) (u5o : Els (kInt .u64) S0 w0 u5h u5b) (u5p : u5b.length = u5f) (u5q : Rd (kInt .u64) S0 w0 u5i u5k u5c) (u5r : u5c.length = u5j) (u5s : Rd (kInt .u64) S0 w0 u5l u5n u5d) (u5t : u5d.length = u5m) :
  Calls Tryz.prog 250 #[yieldV lx0, (pt u46 0), (pt u47 0)] w0 (Rets (Post.z13 nz wz S0 w0 Lr lx0 rx0 u27 u44 u45 u46 u47 r)) := by
 subst u5p
 subst u5r
 subst u5t
 refine Zf Tryz.f250 B250 70 ?_
 refine Gj 73 [(0, yieldV lx0), (1, (pt u46 0)), (2, (pt u47 0))] fun junk => ?_
 delta M.a43 at h
 refine Hn 2 J5d ?_
 exact Gk (W.z14 lx0 rx0 u27 u44 u45 u46 u47 _ _ h _ _ (Ext.refl S0 w0) _ _ _ _ _ _ _ _ _ _ p0 u5o rfl u5q rfl u5s rfl)

def J5y := Yt 10 B206 [0, 1] (Ys 11 B206 [])
def J60 := Yt 110 B206 [0] (Ys 111 B206 [])
def J61 := Ys 1111 B206 []
def J63 := Yt 11100 B206 [2] (Ys 11101 B206 J61)
def J64 := Zb 0 J61
def J65 := Zc Q46 J64
def J66 := Ys 11111 B206 []
def J67 := Yt 11110 B206 [0, 1] J66

def Post.z1d (r : List Int) (v : Value) (w' : World) : Prop :=
 ∃ S' Gq nq cq csq, v = .slice (Gp Gq) nq cq ∧ Ext S0 w0 S' w' ∧ Hp nz wz S' w' ((Gq, .row 35 csq (cq * (kInt .u64).size) 0) :: Lr) ∧ Els (kInt .u64) S' w' csq r ∧ r.length = nq

theorem W.z1d (x0 : List Int) (x1 : List Int) (r : List Int) (h : M.a44 x0 x1 = some r) {nz wz S0 w0 Lr} (Ax0 nx0 cx0 Ax1 nx1 cx1) (p0 : Hp nz wz S0 w0 (Lr)) (fx0 : Rd (kInt .u64) S0 w0 Ax0 cx0 x0) (lx0 : x0.length = nx0) (fx1 : Rd (kInt .u64) S0 w0 Ax1 cx1 x1) (lx1 : x1.length = nx1) :
  Calls Tryz.prog 206 #[.slice Ax0 nx0 cx0, .slice Ax1 nx1 cx1, .func (.func 205) #[] #[]] w0 (Rets (Post.z1d nz wz S0 w0 Lr r)) := by
 subst lx0
 subst lx1
 refine Zf Tryz.f206 B206 20 ?_
 refine Gj 23 [(0, .slice Ax0 x0.length cx0), (1, .slice Ax1 x1.length cx1), (2, .func (.func 205) #[] #[])] fun junk => ?_
 delta M.a44 at h
 refine Hn 2 J5y ?_
 refine Ob 218 (.tmp 2) 5 0 (.func (.func 205) #[] #[]) [.func (.func 205) #[] #[]] p0 Goes.v fun b1 w2 z2 p2 => ?_
 refine Hn 4 J60 ?_
 refine Oa 31 7 0 (.slice none 0 0) [.slice none 0 0] p2 Goes.v fun b3 w3 z3 p3 => ?_
 refine Hn 6 J63 ?_
 refine Gb h fun y5 e6 h => ?_
 refine Gc (kc 238 [10, 11] #[31, 31]) 12 279 238 _ (W.z10 x0 x1 y5 e6 _ _ _ _ _ _ p3 (fx0.ext (z2.t z3)) rfl (fx1.ext (z2.t z3)) rfl) ?_
 rintro _ w4 ⟨S4, u5u, u5v, u5w, u5x, u5y, u5z, u60, u61, rfl, z4, p4, u62, rfl, u63, rfl⟩
 refine Hn 2 J65 ?_
 refine Gj 23 [(5, (pt b1 0)), (7, (pt b3 0)), (12, .func (.func 250) #[] #[(pt u5u 0), (pt u5y 0)])] (fun u64 => ?_)
 refine Goes.rangeF (f := 206) (.tmp 12) #[13, 14] 250 #[] #[(pt u5u 0), (pt u5y 0)] (by kernel_rfl) (by kernel_rfl) (fun _ => by kernel_rfl) p4 fun r10 l11 w5 z5 p5 => ?_
 have p5 : Hp nz wz S4 w5 ((none, .row 35 [] (0 * (kInt .u64).size) 0) :: (some l11, .obj (lpst 206 (lfr 23 [(5, (pt b1 0)), (7, (pt b3 0)), (12, .func (.func 250) #[] #[(pt u5u 0), (pt u5y 0)])] u64) #[13, 14] (rfAssign (Q46)) (rfBody (Q46)) r10 .ready none)) :: (some r10, .obj (.deferred (some []))) :: (some u5u, .row 31 [.slice u5v y5.1.length u5x] 1 0) :: (some u5y, .row 31 [.slice u5z y5.2.length u61] 1 0) :: (some b3, .row 31 [.slice none 0 0] 1 0) :: (some b1, .row 218 [.func (.func 205) #[] #[]] 1 0) :: Lr) := p5.nilRow' 35
 have p5 := (((((p5.fr 4).fr 4).fr 2).fr 5).fr 6).fr 5
 refine Gb h fun y15 e16 h => ?_
 refine ⟨_, W.z13 ([] : List Int) y5.1 y5.2 y15 e16 _ _ _ _ _ none 0 0 [] _ _ _ _ _ _ _ _ p5 (Els.nil (K := (kInt .u64))) rfl (u62.ext z5) rfl (u63.ext z5) rfl, ?_⟩
 rintro _ w6 ⟨S6, u65, u66, u67, u68, u69, u6a, u6b, u6c, u6d, u6e, rfl, z6, p6, u6f, rfl, u6g, rfl, u6h, rfl⟩
 refine Goes.endF 0 p6 rfl rfl fun w7 z7 p7 => ?_
 replace p7 : Hp nz wz S6 w7 ((some b1, .row 218 [.func (.func 205) #[] #[]] 1 0) :: (some b3, .row 31 [.slice (Gp u65) y15.1.length u67] 1 0) :: (u65, .row 35 u68 (u67 * (kInt .u64).size) 0) :: (some u5u, .row 31 [.slice u69 y15.2.1.length u6b] 1 0) :: (some u5y, .row 31 [.slice u6c y15.2.2.length u6e] 1 0) :: (some r10, .obj (.deferred (some []))) :: Lr) := (p7.front 0 _ rfl).drop
 show Goes _ _ J64 _ _ _
 refine Hn 3 J67 ?_
 refine Hd (p7.e 1 0) ?_
 refine Hn 2 J66 ?_
 obtain rfl := sj h
 have p7 := (((p7.dp 0).dp 0).dp 1).dp 1
 have p7 := p7.fr 1
 refine Goes.retL ?_
 refine lvs_mark 0 rfl rfl p7 rfl fun w8 z8 p8 => ?_
 replace p8 : Hp nz wz S6 w8 ((u65, .row 35 u68 (u67 * (kInt .u64).size) 0) :: Lr) := p8.drop
 exact lvs_done (fn := Tryz.f206) rfl rfl rfl rfl (by kernel_rfl) (v := .slice (Gp u65) y15.1.length u67) (by kernel_rfl) ⟨S6, u65, y15.1.length, u67, u68, rfl, ((((((z2.t z3).t z4).t z5).t z6).t z7).t z8), p8, (u6f.ext (z7.t z8)), rfl⟩

def J68 := Ys 1111111 B161 []
def Q50 := Yq 1111110100 B161
def J6a := Zl Q50 (Zb 2 J68)
def J6b := Zc Q50 J6a
def J6d := Ys 111111010010 B161 (Ys 111111010011 B161 J6a)
def J6f := Zb 3 (Ys 1111110100111 B161 J6a)
def Q54 := Yq 111111010011001 B161
def J6h := Yt 111111010011000 B161 [0, 1, 2] (Zc Q54 J6f)
def J6i := Zr Q54 [3, 4] J6f
def J6j := Ys 11111111 B161 []

def Post.z1e (r : (List Int) × Int) (v : Value) (w' : World) : Prop :=
 ∃ S' uq ur ut uu, v = .tuple #[.slice (Gp uq) ur ut, .i r.2] ∧ Ext S0 w0 S' w' ∧ Hp nz wz S' w' ((uq, .row 35 uu (ut * (kInt .u64).size) 0) :: Lr) ∧ Els (kInt .u64) S' w' uu r.1 ∧ r.1.length = ur

def L.z1f : (List Int) × (List (List Int)) × Int × Int → ((List Int) × Int) → Prop := fun ⟨x9, x35, x36, x37⟩ r => ∀ S1 w1, Ext S0 w0 S1 w1 → ∀ Gx9 nx9 cx9 u6i u6j u6k u6l (_ : Hp nz wz S1 w1 ((Gx9, .row 35 u6i (cx9 * (kInt .u64).size) 0) :: Lr)) (_ : Els (kInt .u64) S1 w1 u6i x9) (_ : x9.length = nx9) (_ : Rd (kSl (kInt .u64)) S1 w1 u6j u6l x35) (_ : x35.length = u6k) (junk : Nat → Value),
 Goes Tryz.prog (base 161) J6b ⟨lfr 47 [(1, .func (.func 205) #[] #[]), (9, .slice (Gp Gx9) nx9 cx9), (35, .slice u6j u6k u6l), (36, .i x36), (37, .i x37)] junk, []⟩ w1 (Done Tryz.prog 161 (Rets (Post.z1e nz wz S0 w0 Lr r)))

theorem W.z1f {nz wz S0 w0 Lr} : ∀ a r, M.a29 a = some r → (L.z1f nz wz S0 w0 Lr) a r := by
 refine M.a29.partial_correctness (motive := (L.z1f nz wz S0 w0 Lr)) ?_
 intro u6m u6n ⟨x9, x35, x36, x37⟩ r h S1 w1 hx Gx9 nx9 cx9 u6i u6j u6k u6l p1 fx9 lx9 u6o u6p junk
 try dsimp only at h
 subst lx9
 subst u6p
 refine Hn 5 J6d ?_
 refine Hb [(38, .bool (decide (x37 < x36)))] ?_
 refine Gi h (fun h33 h => ?_) fun h33 h => ?_
 ·
  rw [dt h33]
  refine Hn 6 J6h ?_
  refine Gg h fun g34 h => ?_
  refine Gg h fun g35 h => ?_
  refine Oi 217 (.tmp 35) (.tmp 37) 39 0 31 .i64 x37 (gi x35 x37) rfl rfl u6o Goes.v g34 g35 fun a36 _ f37 q38 => ?_
  obtain ⟨A39, c40, rfl, f41⟩ := q38
  refine Hd (f37.cell 0 _ rfl) ?_
  refine Hn 6 J6i ?_
  obtain ⟨S4, z4, p4, f42⟩ := p1.freezeRd 0 rfl fx9 (by decide)
  refine Gb h fun y43 e44 h => ?_
  refine Gc (kc 206 [41, 42, 43] #[31, 31, 218]) 44 31 206 _ (W.z1d x9 (gi x35 x37) y43 e44 _ _ _ _ _ _ p4 f42 rfl (f41.ext z4) rfl) ?_
  rintro _ w5 ⟨S5, u6q, u6r, u6s, u6t, rfl, z5, p5, u1p, rfl⟩
  have p5 := p5.dp 1
  refine Hn 8 J6b ?_
  exact Gk (u6n _ _ h _ _ ((hx.t z4).t z5) _ _ _ _ _ _ _ p5 u1p rfl (u6o.ext (z4.t z5)) rfl)
 ·
  rw [df h33]
  refine Hn 8 J6j ?_
  obtain rfl := sj h
  exact Hr Tryz.f161 ⟨_, _, _, _, _, rfl, hx, p1, fx9, rfl⟩

def Q58 := Yq 1110100 B161
def J6m := Zl Q58 (Zb 0 (Ys 1111 B161 []))
def J6n := Zc Q58 J6m
def J6p := Ys 111010010 B161 (Ys 111010011 B161 J6m)
def J6r := Zb 1 (Ys 1110100111 B161 J6m)
def J6t := Yt 111010011000 B161 [0, 1, 2] (Ys 111010011001 B161 J6r)
def J6v := Yt 1110100110010 B161 [1, 2] (Ys 1110100110011 B161 J6r)
def J6w := Ys 11101001100111 B161 J6r
def J6x := Ys 1110100110011101 B161 J6r
def J6y := Ys 11111 B161 []
def J6z := Ys 111101 B161 J6y
def J70 := Ys 11110101 B161 J6y
def J72 := Yt 111110 B161 [1, 2, 3, 4] (Ys 111111 B161 [])
def J74 := Yt 11111100 B161 [1, 2, 3] (Ys 11111101 B161 J68)

def L.z1g : (List (List Int)) × (List (List Int)) × Int × Int → ((List Int) × Int) → Prop := fun ⟨x0, x15, x16, x17⟩ r => ∀ S1 w1, Ext S0 w0 S1 w1 → ∀ Ax0 nx0 cx0 u6u u6v u6w (_ : Hp nz wz S1 w1 (Lr)) (_ : Rd (kSl (kInt .u64)) S1 w1 Ax0 cx0 x0) (_ : x0.length = nx0) (_ : Rd (kSl (kInt .u64)) S1 w1 u6u u6w x15) (_ : x15.length = u6v) (junk : Nat → Value),
 Goes Tryz.prog (base 161) J6n ⟨lfr 47 [(0, .slice Ax0 nx0 cx0), (1, .func (.func 205) #[] #[]), (15, .slice u6u u6v u6w), (16, .i x16), (17, .i x17)] junk, []⟩ w1 (Done Tryz.prog 161 (Rets (Post.z1e nz wz S0 w0 Lr r)))

theorem W.z1g {nz wz S0 w0 Lr} : ∀ a r, M.a2a a = some r → (L.z1g nz wz S0 w0 Lr) a r := by
 refine M.a2a.partial_correctness (motive := (L.z1g nz wz S0 w0 Lr)) ?_
 intro u6x u6y ⟨x0, x15, x16, x17⟩ r h S1 w1 hx Ax0 nx0 cx0 u6u u6v u6w p1 fx0 lx0 u6z u70 junk
 try dsimp only at h
 subst lx0
 subst u70
 refine Hn 5 J6p ?_
 refine Hb [(18, .bool (decide (x17 < x16)))] ?_
 refine Gi h (fun h3 h => ?_) fun h3 h => ?_
 ·
  rw [dt h3]
  refine Hn 6 J6t ?_
  refine Gg h fun g4 h => ?_
  refine Gg h fun g5 h => ?_
  refine Oi 217 (.tmp 15) (.tmp 17) 19 0 31 .i64 x17 (gi x15 x17) rfl rfl u6z Goes.v g4 g5 fun a6 _ f7 q8 => ?_
  obtain ⟨A9, c10, rfl, f11⟩ := q8
  refine Hd (f7.cell 0 _ rfl) ?_
  refine Hn 5 J6v ?_
  refine Gb h fun y12 e13 h => ?_
  refine Gc (kc 187 [21] #[31]) 22 39 187 _ (W.zy (gi x15 x17) y12 e13 _ _ _ p1 f11 rfl) ?_
  rintro _ w2 ⟨S2, rfl, z2, p2⟩
  refine Hn 7 J6w ?_
  refine Hb [(24, .bool (!(decide (y12 = 0))))] ?_
  refine Gi h (fun h14 h => ?_) fun h14 h => ?_
  ·
   rw [dt h14]
   refine Hn 8 J6n ?_
   exact Gk (u6y _ _ h _ _ (hx.t z2) _ _ _ _ _ _ p2 (fx0.ext z2) rfl (u6z.ext z2) rfl)
  ·
   rw [df h14]
   refine Hn 7 J6x ?_
   have p2 : Hp nz wz S2 w2 ((none, .row 35 [] (0 * (kInt .u64).size) 0) :: Lr) := p2.nilRow' 35
   obtain rfl := sj h
   exact Hr Tryz.f161 ⟨_, _, _, _, _, rfl, (hx.t z2), p2, (Els.nil (K := (kInt .u64))), rfl⟩
 ·
  rw [df h3]
  refine Hn 9 J6z ?_
  refine Hb [(29, .bool (decide ((x0.length : Int) = 0)))] ?_
  refine Gi h (fun h16 h => ?_) fun h16 h => ?_
  ·
   rw [dt h16]
   refine Hn 6 J70 ?_
   have p1 : Hp nz wz S1 w1 ((none, .row 35 [] (0 * (kInt .u64).size) 0) :: Lr) := p1.nilRow' 35
   obtain rfl := sj h
   exact Hr Tryz.f161 ⟨_, _, _, _, _, rfl, hx, p1, (Els.nil (K := (kInt .u64))), rfl⟩
  ·
   rw [df h16]
   refine Hn 5 J72 ?_
   refine Gg h fun g18 h => ?_
   refine Oi 217 (.tmp 30) (.const (.int .i64 0)) 31 0 31 .i64 0 (gi x0 0) rfl rfl fx0 Goes.v (by decide : (0 : Int) ≤ 0) g18 fun a19 _ f20 q21 => ?_
   obtain ⟨A22, c23, rfl, f24⟩ := q21
   refine Hd (f20.cell 0 _ rfl) ?_
   refine Gb h fun y25 e26 h => ?_
   refine Gc (kc 97 [32] #[31]) 33 31 97 _ (W.zz (gi x0 0) y25 e26 _ _ _ p1 f24 rfl) ?_
   rintro _ w3 ⟨S3, u1d, u1e, u1f, u1g, rfl, z3, p3, u1h, rfl⟩
   refine Hn 6 J74 ?_
   refine Gg h fun g28 h => ?_
   refine Op_.slR_n 217 (.tmp 34) (some (.const (.int .i64 1))) none 35 217 31 1 (x0.length : Int) (sl x0 1 (x0.length : Int)) rfl rfl (fx0.ext z3) Goes.v (by kernel_rfl) (by kernel_rfl) (by kernel_rfl) (Bnd.at_ .i64 (by kernel_rfl)) Bnd.no (by decide : (0 : Int) ≤ 1) g28 (Int.le_refl _) fun A29 c30 f31 => ?_
   refine Hn 5 J6b ?_
   exact Gk (W.z1f _ _ h _ _ (hx.t z3) _ _ _ _ _ _ _ p3 u1h rfl f31 rfl)

def J75 := Ys 111 B161 []
def J76 := Ys 1101 B161 J75
def J77 := Ys 110101 B161 J75

theorem W.z1e (x0 : List (List Int)) (r : (List Int) × Int) (h : M.a45 x0 = some r) {nz wz S0 w0 Lr} (Ax0 nx0 cx0) (p0 : Hp nz wz S0 w0 (Lr)) (fx0 : Rd (kSl (kInt .u64)) S0 w0 Ax0 cx0 x0) (lx0 : x0.length = nx0) :
  Calls Tryz.prog 161 #[.slice Ax0 nx0 cx0, .func (.func 205) #[] #[]] w0 (Rets (Post.z1e nz wz S0 w0 Lr r)) := by
 subst lx0
 refine Zf Tryz.f161 B161 45 ?_
 refine Gj 47 [(0, .slice Ax0 x0.length cx0), (1, .func (.func 205) #[] #[])] fun junk => ?_
 delta M.a45 at h
 refine Hn 12 J76 ?_
 refine Hb [(14, .bool (decide ((x0.length : Int) > 4096)))] ?_
 refine Gi h (fun h1 h => ?_) fun h1 h => ?_
 ·
  rw [dt h1]
  refine Hn 6 J77 ?_
  have p0 : Hp nz wz S0 w0 ((none, .row 35 [] (0 * (kInt .u64).size) 0) :: Lr) := p0.nilRow' 35
  obtain rfl := sj h
  exact Hr Tryz.f161 ⟨_, _, _, _, _, rfl, (Ext.refl S0 w0), p0, (Els.nil (K := (kInt .u64))), rfl⟩
 ·
  rw [df h1]
  refine Hn 11 J6n ?_
  exact Gk (W.z1g _ _ h _ _ (Ext.refl S0 w0) _ _ _ _ _ _ p0 fx0 rfl fx0 rfl)

def J78 := Ys 111 B160 []

def Post.z1h (r : (List Int) × Int) (v : Value) (w' : World) : Prop :=
 ∃ S' uq ur ut uu, v = .tuple #[.slice (Gp uq) ur ut, .i r.2] ∧ Ext S0 w0 S' w' ∧ Hp nz wz S' w' ((uq, .row 35 uu (ut * (kInt .u64).size) 0) :: Lr) ∧ Els (kInt .u64) S' w' uu r.1 ∧ r.1.length = ur

theorem W.z1h (x0 : List (List Int)) (r : (List Int) × Int) (h : M.a32 x0 = some r) {nz wz S0 w0 Lr} (Ax0 nx0 cx0) (p0 : Hp nz wz S0 w0 (Lr)) (fx0 : Rd (kSl (kInt .u64)) S0 w0 Ax0 cx0 x0) (lx0 : x0.length = nx0) :
  Calls Tryz.prog 160 #[.slice Ax0 nx0 cx0] w0 (Rets (Post.z1h nz wz S0 w0 Lr r)) := by
 subst lx0
 refine Zf Tryz.f160 B160 7 ?_
 refine Gj 8 [(0, .slice Ax0 x0.length cx0)] fun junk => ?_
 delta M.a32 at h
 refine Hn 8 (Yt 110 B160 [1, 2, 3, 4, 5] J78) ?_
 refine Gb h fun y1 e2 h => ?_
 refine Gc (.call { callee := .value (.func 161), args := #[(.tmp 4), (.func 205)], argTypes := #[217, 218] }) 5 166 161 _ (W.z1e x0 y1 e2 _ _ _ p0 fx0 rfl) ?_
 rintro _ w2 ⟨S2, u1i, u1j, u1k, u1l, rfl, z2, p2, u1m, rfl⟩
 refine Hn 5 J78 ?_
 obtain rfl := sj h
 exact Hr Tryz.f160 ⟨_, _, _, _, _, rfl, z2, p2, u1m, rfl⟩

def J7a := Ys 111 B181 []

def Post.z1i (r : (List Int) × Int) (v : Value) (w' : World) : Prop :=
 ∃ S' uq ur ut uu, v = .tuple #[.slice (Gp uq) ur ut, .i r.2] ∧ Ext S0 w0 S' w' ∧ Hp nz wz S' w' ((uq, .row 35 uu (ut * (kInt .u64).size) 0) :: Lr) ∧ Els (kInt .u64) S' w' uu r.1 ∧ r.1.length = ur

theorem W.z1i (x0 : List Int) (x1 : Int) (r : (List Int) × Int) (h : M.a33 x0 x1 = some r) {nz wz S0 w0 Lr} (Ax0 nx0 cx0) (p0 : Hp nz wz S0 w0 (Lr)) (fx0 : Rd (kInt .u64) S0 w0 Ax0 cx0 x0) (lx0 : x0.length = nx0) :
  Calls Tryz.prog 181 #[.slice Ax0 nx0 cx0, .u x1] w0 (Rets (Post.z1i nz wz S0 w0 Lr r)) := by
 subst lx0
 refine Zf Tryz.f181 B181 11 ?_
 refine Gj 13 [(0, .slice Ax0 x0.length cx0), (1, .u x1)] fun junk => ?_
 delta M.a33 at h
 refine Hn 9 (Yt 110 B181 [2, 3, 4, 5, 6, 7, 8] J7a) ?_
 have f2 : Els (kInt .u64) S0 w0 ([.u x1] : List Value) [x1] := by exact (Els.cons (K := (kInt .u64)) (vs := [.u x1]) (x := x1) rfl Els.nil)
 refine Om (.buildSlice 31 1 #[(0, (.tmp 7))]) 8 31 (fun b => .slice (Gp (some b)) 1 1) 35 ([.u x1] : List Value) (1 * (kInt .u64).size) p0 Goes.v fun b1 w2 z2 p2 => ?_
 obtain ⟨S3, z3, p3, f4⟩ := p2.freezeRd 0 rfl (f2.ext z2) (by decide)
 have f6 : Els (kSl (kInt .u64)) S3 w2 ([.slice Ax0 x0.length cx0, .slice (Gp (some b1)) 1 1] : List Value) [x0, [x1]] := by exact (Els.cons (K := (kSl (kInt .u64))) (vs := [.slice Ax0 x0.length cx0]) (x := x0) ⟨_, _, rfl, (fx0.ext (z2.t z3))⟩ (Els.cons (K := (kSl (kInt .u64))) (vs := [.slice (Gp (some b1)) 1 1]) (x := [x1]) ⟨_, _, rfl, f4⟩ Els.nil))
 refine Om (.buildSlice 217 2 #[(0, (.tmp 6)), (1, (.tmp 8))]) 9 217 (fun b => .slice (Gp (some b)) 2 2) 31 ([.slice Ax0 x0.length cx0, .slice (Gp (some b1)) 1 1] : List Value) (2 * (kSl (kInt .u64)).size) p3 Goes.v fun b5 w4 z4 p4 => ?_
 obtain ⟨S5, z5, p5, f8⟩ := p4.freezeRd 0 rfl (f6.ext z4) (by decide)
 refine Gb h fun y9 e10 h => ?_
 refine Gc (kc 160 [9] #[217]) 10 166 160 _ (W.z1h [x0, [x1]] y9 e10 _ _ _ p5 f8 rfl) ?_
 rintro _ w6 ⟨S6, u71, u72, u73, u74, rfl, z6, p6, u75, rfl⟩
 have p6 := (p6.dp 1).dp 1
 refine Hn 5 J7a ?_
 obtain rfl := sj h
 exact Hr Tryz.f181 ⟨_, _, _, _, _, rfl, ((((z2.t z3).t z4).t z5).t z6), p6, u75, rfl⟩

def Q5w := Yq 11 B182
def J7c := Zc Q5w []
def J7e := Ys 10101 B182 J7c
def Q5z := Yq 10100 B182

def Post.z1j (r : Z) (v : Value) (w' : World) : Prop :=
 ∃ S' Ee0, v = .tuple #[] ∧ Ext S0 w0 S' w' ∧ Hp nz wz S' w' (PL Ee0 (Lr)) ∧ PS S' w' Ee0 r

theorem W.z1j (x0 : Nat) (x1 : ByteArray) (x2 : List Int) (pl : Z) (r : Z) (h : M.a1v x0 x1 x2 pl = some r) {nz wz S0 w0 Lr} (gx0 Ax2 nx2 cx2 Epl) (p0 : Hp nz wz S0 w0 (PL Epl (Lr))) (fx0 : Pa 236 S0 x0 gx0) (fx2 : Rd (kInt .u64) S0 w0 Ax2 cx2 x2) (lx2 : x2.length = nx2) (fpl : PS S0 w0 Epl pl) :
  Calls Tryz.prog 182 #[(pt gx0 0), .string x1, .slice Ax2 nx2 cx2] w0 (Rets (Post.z1j nz wz S0 w0 Lr r)) := by
 subst lx2
 refine Zf Tryz.f182 B182 17 ?_
 refine Gj 20 [(0, (pt gx0 0)), (1, .string x1), (2, .slice Ax2 x2.length cx2)] fun junk => ?_
 delta M.a1v at h
 refine Hn 7 (Ys 101 B182 J7c) ?_
 refine Hb [(8, .bool (decide ((x2.length : Int) = 0)))] ?_
 refine Gi h (fun h1 h => ?_) fun h1 h => ?_
 ·
  rw [dt h1]
  refine Hn 6 (Zr Q5z [3, 4, 5] J7e) ?_
  obtain ⟨cs2, q3, l4, e5, f6⟩ := Pl.row p0 9 rfl fpl.zj fx0
  have q9 := q3
  obtain ⟨v7, rfl, f8⟩ := kMp_one (w := w0) q9
  refine Hd (f6 0 _ rfl) ?_
  refine Hn 1 (Zr Q5z [5] J7e) ?_
  refine Gl h fun v17 h10 h => ?_
  rcases v17 with _ | y11
  ·
   try dsimp only at h
   obtain rfl := MpO.nil f8 h10
   refine Op_.deN 233 9 (.tmp 12) (.tmp 13) 0 9 31 x1 (enc := Value.string) (Goes.v0s (by kernel_rfl)) (by kernel_rfl) (by kernel_rfl) (by kernel_rfl) (kok_str (by kernel_rfl)) ?_
   refine Hn 1 J7e ?_
   obtain rfl := sj h
   exact Hr Tryz.f182 ⟨_, _, rfl, (Ext.refl S0 w0), p0, fpl⟩
  ·
   try dsimp only at h
   obtain ⟨g12, rfl, f13⟩ := MpO.got f8 h10
   refine Op_.deM 233 9 (.tmp 12) (.tmp 13) 0 9 31 8 x1 (sn pl.zi y11 (mdel (gn pl.zi y11) x1)) p0 rfl fpl.zi f13 (Goes.v0s (by kernel_rfl)) (by kernel_rfl) (by kernel_rfl) (by kernel_rfl) (kok_str (by kernel_rfl)) rfl fun w2 E14 z2 p2 f15 e16 => ?_
   refine Hn 1 J7e ?_
   obtain rfl := sj h
   exact Hr Tryz.f182 ⟨_, {Epl with zi := E14}, rfl, z2, p2, (PS.uzi (fpl.ext z2) f15)⟩
 ·
  rw [df h1]
  refine Hn 6 (Zr Q5w [3, 4, 5, 6] []) ?_
  obtain ⟨u76, q19, l20, e21, f22⟩ := Pl.row p0 9 rfl fpl.zj fx0
  have q25 := q19
  obtain ⟨v23, rfl, f24⟩ := kMp_one (w := w0) q25
  refine Hd (f22 0 _ rfl) ?_
  refine Hn 2 (Zr Q5w [6] []) ?_
  refine Gl h fun v33 h26 h => ?_
  rcases v33 with _ | y27
  ·
   try dsimp only at h
   obtain rfl := MpO.nil f24 h26
   cases h
  ·
   try dsimp only at h
   obtain ⟨g28, rfl, f29⟩ := MpO.got f24 h26
   refine Op_.muM 233 (.tmp 17) (.tmp 18) (.tmp 19) 0 9 31 8 x1 (.slice Ax2 x2.length cx2) x2 (sn pl.zi y27 (mset (gn pl.zi y27) x1 x2)) p0 rfl fpl.zi f29 Goes.s (by kernel_rfl) (by kernel_rfl) (by kernel_rfl) (by kernel_rfl) (kok_str (by kernel_rfl)) ⟨_, _, rfl, fx2⟩ rfl fun w3 E30 z3 p3 f31 e32 => ?_
   refine Hn 1 [] ?_
   obtain rfl := sj h
   exact Goes.end_ (fn := Tryz.f182) (by kernel_rfl) (v := .tuple #[]) (by kernel_rfl) ⟨S0, {Epl with zi := E30}, rfl, z3, p3, (PS.uzi (fpl.ext z3) f31)⟩

def J7j := Ys 111 B123 []
def J7k := Ys 1101 B123 J7j
def J7m := Ys 1111 B123 []
def Q64 := Yq 1110 B123
def J7q := Zr Q64 [8, 9, 10, 11, 12, 13] J7m
def J7s := Yt 11110 B123 [5] (Ys 11111 B123 [])
def J7t := Ys 111111 B123 []

def Post.z1k (r : Int × Z) (v : Value) (w' : World) : Prop :=
 ∃ S' Ee0, v = .i r.1 ∧ Ext S0 w0 S' w' ∧ Hp nz wz S' w' (PL Ee0 (Lr)) ∧ PS S' w' Ee0 r.2

theorem W.z1k (x0 : Option Nat) (x1 : ByteArray) (x2 : Int) (pl : Z) (r : Int × Z) (h : M.a46 x0 x1 x2 pl = some r) {nz wz S0 w0 Lr} (vx0 Epl) (p0 : Hp nz wz S0 w0 (PL Epl (Lr))) (fx0 : PpO 236 S0 vx0 x0) (fpl : PS S0 w0 Epl pl) :
  Calls Tryz.prog 123 #[vx0, .string x1, .u x2] w0 (Rets (Post.z1k nz wz S0 w0 Lr r)) := by
 refine Zf Tryz.f123 B123 28 ?_
 refine Gj 31 [(0, vx0), (1, .string x1), (2, .u x2)] fun junk => ?_
 delta M.a46 at h
 refine Hn 8 (Yt 1100 B123 [1, 2] J7k) ?_
 refine Gb h fun y1 e2 h => ?_
 refine Gc (kc 180 [9] #[125]) 10 4 180 _ (W.zv x0 pl y1 e2 _ _ p0 fx0 fpl) ?_
 rintro _ w2 ⟨S2, rfl, z2, p2⟩
 refine Hn 2 J7k ?_
 refine Hb [(10, .bool y1), (11, .bool (!y1))] ?_
 refine Gi h (fun h3 h => ?_) fun h3 h => ?_
 ·
  rw [h3]
  refine Hn 5 (Zr Q64 [1, 2, 3, 4, 5, 6, 7, 8, 9, 10, 11, 12, 13] J7m) ?_
  refine Gl h fun v40 h4 h => ?_
  rcases v40 with _ | y5
  ·
   try dsimp only at h
   obtain rfl := PpO.nil (fx0.ext z2) h4
   cases h
  ·
   try dsimp only at h
   obtain ⟨g6, rfl, f7⟩ := PpO.got (fx0.ext z2) h4
   refine Hn 3 (Zr Q64 [4, 5, 6, 7, 8, 9, 10, 11, 12, 13] J7m) ?_
   obtain ⟨cs8, q9, l10, e11, f12⟩ := Pl.row p2 9 rfl (fpl.zj.ext z2) f7
   have q15 := q9
   obtain ⟨v13, rfl, f14⟩ := kMp_one (w := w2) q15
   refine Hd (f12 0 _ rfl) ?_
   refine Hn 1 (Zr Q64 [6, 7, 8, 9, 10, 11, 12, 13] J7m) ?_
   refine Gl h fun v39 h16 h => ?_
   rcases v39 with _ | y17
   ·
    try dsimp only at h
    obtain rfl := MpO.nil f14 h16
    refine Hn 2 J7q ?_
    refine Gb h fun y20 e21 h => ?_
    refine Gc (kc 181 [19, 20] #[31, 35]) 21 166 181 _ (W.z1i ([] : List Int) x2 y20 e21 none 0 0 p2 Rd.none_ rfl) ?_
    rintro _ w3 ⟨S3, u77, u78, u79, u7a, rfl, z3, p3, u7b, rfl⟩
    refine Hn 13 J7s ?_
    obtain ⟨S4, z4, p4, f23⟩ := p3.freezeRd 0 rfl u7b (by decide)
    have p4 := p4.rt 1 10
    refine Gb h fun y24 e25 h => ?_
    refine Gc (kc 182 [26, 27, 28] #[235, 9, 31]) 29 0 182 _ (W.z1j y5 x1 y20.1 pl y24 e25 _ _ _ _ _ p4 (f7.ext (z3.t z4)) f23 rfl (fpl.ext ((z2.t z3).t z4))) ?_
    rintro _ w5 ⟨S5, u1o, rfl, z5, p5, u1q⟩
    have p5 := p5.dp 10
    refine Hn 6 J7t ?_
    obtain rfl := sj h
    exact Hr Tryz.f123 ⟨_, _, rfl, (((z2.t z3).t z4).t z5), p5, u1q⟩
   ·
    try dsimp only at h
    obtain ⟨g18, rfl, f19⟩ := MpO.got f14 h16
    refine Gl h fun v26 e27 h => ?_
    refine Op_.lkM 233 (.tmp 17) (.tmp 18) 19 31 9 31 8 (.slice none 0 0) ([] : List Int) x1 v26 p2 rfl (fpl.zi.ext z2) f19 Goes.v (by kernel_rfl) (by kernel_rfl) (by kernel_rfl) (kok_str (by kernel_rfl)) (by kernel_rfl) ⟨none, 0, rfl, Rd.none_⟩ e27 fun v28 f29 => ?_
    obtain ⟨A30, c31, rfl, f32⟩ := one_sl f29
    refine Hn 1 J7q ?_
    refine Gb h fun y33 e34 h => ?_
    refine Gc (kc 181 [19, 20] #[31, 35]) 21 166 181 _ (W.z1i v26 x2 y33 e34 _ _ _ p2 f32 rfl) ?_
    rintro _ w6 ⟨S6, u71, u72, u73, u74, rfl, z6, p6, u75, rfl⟩
    refine Hn 13 J7s ?_
    obtain ⟨S7, z7, p7, f36⟩ := p6.freezeRd 0 rfl u75 (by decide)
    have p7 := p7.rt 1 10
    refine Gb h fun y37 e38 h => ?_
    refine Gc (kc 182 [26, 27, 28] #[235, 9, 31]) 29 0 182 _ (W.z1j y5 x1 y33.1 pl y37 e38 _ _ _ _ _ p7 (f7.ext (z6.t z7)) f36 rfl (fpl.ext ((z2.t z6).t z7))) ?_
    rintro _ w8 ⟨S8, u7c, rfl, z8, p8, u7d⟩
    have p8 := p8.dp 10
    refine Hn 6 J7t ?_
    obtain rfl := sj h
    exact Hr Tryz.f123 ⟨_, _, rfl, (((z2.t z6).t z7).t z8), p8, u7d⟩
 ·
  rw [bf h3]
  refine Hn 5 (Ys 110101 B123 J7j) ?_
  obtain rfl := sj h
  exact Hr Tryz.f123 ⟨_, _, rfl, z2, p2, (fpl.ext z2)⟩

def J7v := Ys 111 B68 []
def Q6a := Yq 1111 B68

def Post.z1l (r : Z) (v : Value) (w' : World) : Prop :=
 ∃ S' Ee0, v = .tuple #[] ∧ Ext S0 w0 S' w' ∧ Hp nz wz S' w' (PL Ee0 (Lr)) ∧ PS S' w' Ee0 r

def L.z1m : Nat × Int × (Option Nat) × Z → Z → Prop := fun ⟨x0, x2, x6, e0⟩ r => ∀ S1 w1, Ext S0 w0 S1 w1 → ∀ gx0 vx6 Ee0 (_ : Hp nz wz S1 w1 (PL Ee0 (Lr))) (_ : Pa 126 S1 x0 gx0) (_ : MpO 122 S1 vx6 x6) (_ : PS S1 w1 Ee0 e0) (junk : Nat → Value),
 Goes Tryz.prog (base 68) J7v ⟨lfr 80 [(0, (pt gx0 0)), (2, .u x2), (6, vx6)] junk, []⟩ w1 (Done Tryz.prog 68 (Rets (Post.z1l nz wz S0 w0 Lr r)))

theorem W.z1m {nz wz S0 w0 Lr} : ∀ a r, M.a34 a = some r → L.z1m nz wz S0 w0 Lr a r := by
 intro ⟨x0, x2, x6, e0⟩ r h S1 w1 hx gx0 vx6 Ee0 p1 fx0 fx6 fe0 junk
 rw [M.a34] at h
 try dsimp only at h
 refine Hn 4 (Yt 1110 B68 [2] (Zc Q6a [])) ?_
 refine Gl h fun u7e u7f h => ?_
 rcases u7e with _ | u7g
 ·
  try dsimp only at h
  obtain rfl := MpO.nil fx6 u7f
  cases h
 ·
  try dsimp only at h
  obtain ⟨u7h, rfl, u7i⟩ := MpO.got fx6 u7f
  refine Gl h fun u7j u7k h => ?_
  refine Op_.muM 123 (.tmp 71) (.tmp 72) (.const (.bool true)) 0 35 4 5 x2 (.bool true) true u7j p1 rfl fe0.zf u7i Goes.s (by kernel_rfl) (by kernel_rfl) (by kernel_rfl) (by kernel_rfl) (kok_int (by kernel_rfl)) rfl u7k fun w10 u7l z10 p10 u7m u7n => ?_
  refine Hn 5 (Zr Q6a [3, 4, 5, 6, 7] []) ?_
  obtain ⟨u7o, u7p, u7q, u7r, u7s⟩ := Pl.row p10 7 rfl (fe0.zh.ext z10) (fx0.ext z10)
  obtain ⟨_, _, rfl, u7t, ⟨_, _, rfl, u7u, ⟨_, _, rfl, u7v, ⟨_, _, rfl, u7w, ⟨_, _, rfl, rfl, rfl⟩⟩⟩⟩⟩ := u7p
  obtain ⟨u7x, rfl, u7y⟩ := kMp_one (w := w10) u7t
  obtain ⟨u7z, rfl, u80⟩ := kMp_one (w := w10) u7u
  obtain ⟨u81, rfl, u82⟩ := kMp_one (w := w10) u7v
  obtain ⟨u83, rfl, u84⟩ := kPp_one (w := w10) u7w
  refine Hd (u7s 5 _ rfl) ?_
  refine Hn 3 (Zr Q6a [7] []) ?_
  obtain ⟨u85, u86, u87, u88, u89⟩ := Pl.row p10 7 rfl (fe0.zh.ext z10) (fx0.ext z10)
  obtain ⟨_, _, rfl, u8a, ⟨_, _, rfl, u8b, ⟨_, _, rfl, u8c, ⟨_, _, rfl, u8d, ⟨_, _, rfl, rfl, rfl⟩⟩⟩⟩⟩ := u86
  obtain ⟨u8e, rfl, u8f⟩ := kMp_one (w := w10) u8a
  obtain ⟨u8g, rfl, u8h⟩ := kMp_one (w := w10) u8b
  obtain ⟨u8i, rfl, u8j⟩ := kMp_one (w := w10) u8c
  obtain ⟨u8k, rfl, u8l⟩ := kPp_one (w := w10) u8d
  refine Gl h fun u8m u8n h => ?_
  refine Op_.stP 3 (.tmp 79) (.tmp 77) 0 126 7 x0 gx0 5 (.i (wr .i64 (((gn e0.zh x0).size) + 1))) [.i (wr .i64 (((gn e0.zh x0).size) + 1))] (⟨(gn e0.zh x0).values, (gn e0.zh x0).numbers, (gn e0.zh x0).texts, (gn e0.zh x0).grams, (gn e0.zh x0).next, wr .i64 (((gn e0.zh x0).size) + 1)⟩ : T126) u8m p10 rfl (fe0.zh.ext z10) u88 Goes.s (by kernel_rfl) (by kernel_rfl) (by kernel_rfl) (by kernel_rfl) (by simp only [List.length_cons, List.length_nil, List.length_append]; omega) (by simp [Value.oneCell']) ⟨[u8e], [u8g, u8i, u8k, .u ((gn e0.zh x0).next), .i (wr .i64 (((gn e0.zh x0).size) + 1))], rfl, (show (kMp 121).rep S1 w10 [u8e] (gn e0.zh x0).values from u8f), ⟨[u8g], [u8i, u8k, .u ((gn e0.zh x0).next), .i (wr .i64 (((gn e0.zh x0).size) + 1))], rfl, (show (kMp 78).rep S1 w10 [u8g] (gn e0.zh x0).numbers from u8h), ⟨[u8i], [u8k, .u ((gn e0.zh x0).next), .i (wr .i64 (((gn e0.zh x0).size) + 1))], rfl, (show (kMp 124).rep S1 w10 [u8i] (gn e0.zh x0).texts from u8j), ⟨[u8k], [.u ((gn e0.zh x0).next), .i (wr .i64 (((gn e0.zh x0).size) + 1))], rfl, (show (kPp 236).rep S1 w10 [u8k] (gn e0.zh x0).grams from u8l), ⟨[.u ((gn e0.zh x0).next)], [.i (wr .i64 (((gn e0.zh x0).size) + 1))], rfl, rfl, rfl⟩⟩⟩⟩⟩ u8n fun w11 u8o z11 p11 u8p => ?_
  refine Hn 1 [] ?_
  obtain rfl := sj h
  exact Goes.end_ (fn := Tryz.f68) (by kernel_rfl) (v := .tuple #[]) (by kernel_rfl) ⟨S1, {Ee0 with zf := u7l, zh := u8o}, rfl, ((hx.t z10).t z11), p11, (PS.uzh (PS.uzf (fe0.ext (z10.t z11)) (u7m.ext z11)) u8p)⟩

def Q6c := Yq 110101111100 B68
def J81 := Zl Q6c (Zb 0 J7v)
def J82 := Zc Q6c J81
def J87 := Ys 11010111110011001 B68 (Zb 1 (Ys 110101111100111 B68 J81))

def L.z1n : Nat × Int × Nat × (List ByteArray) × Int × Int × Z → Z → Prop := fun ⟨x0, x2, x6, x54, x55, x56, e0⟩ r => ∀ S1 w1, Ext S0 w0 S1 w1 → ∀ gx0 gx6 u8q u8r u8s u8t Ee0 (_ : Hp nz wz S1 w1 ((u8q, .row 9 u8t (u8s * kStr.size) 0) :: PL Ee0 (Lr))) (_ : Pa 126 S1 x0 gx0) (_ : Pa 122 S1 x6 gx6) (_ : Els kStr S1 w1 u8t x54) (_ : x54.length = u8r) (_ : PS S1 w1 Ee0 e0) (junk : Nat → Value),
 Goes Tryz.prog (base 68) J82 ⟨lfr 80 [(0, (pt gx0 0)), (2, .u x2), (6, .map (some gx6)), (54, .slice (Gp u8q) u8r u8s), (55, .i x55), (56, .i x56)] junk, []⟩ w1 (Done Tryz.prog 68 (Rets (Post.z1l nz wz S0 w0 Lr r)))

theorem W.z1n {nz wz S0 w0 Lr} : ∀ a r, M.a2c a = some r → (L.z1n nz wz S0 w0 Lr) a r := by
 refine M.a2c.partial_correctness (motive := (L.z1n nz wz S0 w0 Lr)) ?_
 intro u8u u8v ⟨x0, x2, x6, x54, x55, x56, e0⟩ r h S1 w1 hx gx0 gx6 u8q u8r u8s u8t Ee0 p1 fx0 fx6 u8w u8x fe0 junk
 try dsimp only at h
 subst u8x
 refine Hn 5 (Ys 11010111110010 B68 (Ys 11010111110011 B68 J81)) ?_
 refine Hb [(57, .bool (decide (x56 < x55)))] ?_
 refine Gi h (fun u8y h => ?_) fun u8y h => ?_
 ·
  rw [dt u8y]
  refine Hn 6 (Yt 11010111110011000 B68 [0, 1, 2] J87) ?_
  refine Gg h fun u8z h => ?_
  refine Gg h fun u90 h => ?_
  refine Op_.ixO_n 28 (.tmp 54) (.tmp 56) 58 0 9 .i64 x56 0 x54.length u8s (gi x54 x56) rfl rfl p1 rfl u8w Goes.v (by kernel_rfl) (by kernel_rfl) (by kernel_rfl) (by kernel_rfl) (by decide) u8z u90 ?_
  rintro u91 _ rfl u92 u93
  obtain rfl := u92
  refine Hd (u93 0 _ rfl) ?_
  refine Hn 2 J87 ?_
  obtain ⟨u94, u95, u96, u97, u98⟩ := Pl.row p1 8 rfl fe0.zh fx0
  obtain ⟨_, _, rfl, u99, ⟨_, _, rfl, u9a, ⟨_, _, rfl, u9b, ⟨_, _, rfl, u9c, ⟨_, _, rfl, rfl, rfl⟩⟩⟩⟩⟩ := u95
  obtain ⟨u9d, rfl, u9e⟩ := kMp_one (w := w1) u99
  obtain ⟨u9f, rfl, u9g⟩ := kMp_one (w := w1) u9a
  obtain ⟨u9h, rfl, u9i⟩ := kMp_one (w := w1) u9b
  obtain ⟨u9j, rfl, u9k⟩ := kPp_one (w := w1) u9c
  have z13 : Ext S1 w1 S1 (w1).drew := Ext.draw
  have p13 := p1.draw
  refine Gd [9] (Fc S1 (w1).drew [(⟨gx0, 3, none⟩, u9j), (⟨gx0, 4, none⟩, .u ((gn e0.zh x0).next))]) 9 10 ?_
  generalize (w1).drew = w13 at z13 p13 ⊢
  refine Hq [0, 1, 2] 3 (Fc.here ⟨(p13.poolCell 8 rfl u97 3 _ rfl), (p13.poolCell 8 rfl u97 4 _ rfl), trivial⟩) ?_
  refine Hl 3 (Fc.here ⟨(p13.poolCell 8 rfl u97 3 _ rfl), (p13.poolCell 8 rfl u97 4 _ rfl), trivial⟩) (fun _ h => h.2.at_ 0 rfl) ?_
  refine Hq [4, 5, 6, 7] 4 (Fc.here ⟨(p13.poolCell 8 rfl u97 3 _ rfl), (p13.poolCell 8 rfl u97 4 _ rfl), trivial⟩) ?_
  refine Hl 8 (Fc.here ⟨(p13.poolCell 8 rfl u97 3 _ rfl), (p13.poolCell 8 rfl u97 4 _ rfl), trivial⟩) (fun _ h => h.2.at_ 1 rfl) ?_
  have p13 := p13.rt 1 10
  refine Gb h fun u9l u9m h => ?_
  refine Oc (kc 123 [63, 64, 68] #[125, 9, 35]) 69 39 123 #[u9j, .string (gi x54 x56), .u ((gn e0.zh x0).next)] (Ac 9) (W.z1k ((gn e0.zh x0).grams) (gi x54 x56) ((gn e0.zh x0).next) e0 u9l u9m _ _ p13 (u9k.ext z13) (fe0.ext z13)) ?_
  rintro _ w14 ⟨S14, u9n, rfl, z14, p14, u9o⟩
  refine AnyG.last [] (Fc S14 w14 []) (by decide) ?_
  refine Ad ?_
  refine Hn 6 J82 ?_
  have p14 := p14.fr 10
  exact Gk (u8v _ _ h _ _ ((hx.t z13).t z14) _ _ (some u91) _ _ _ _ p14 (fx0.ext (z13.t z14)) (fx6.ext (z13.t z14)) (u8w.ext (z13.t z14)) rfl u9o)
 ·
  rw [df u8y]
  refine Hn 2 J7v ?_
  have p1 := p1.dp 0
  exact Gk (W.z1m _ _ h _ _ hx _ _ _ p1 fx0 (MpO.mk fx6) fe0)

def J89 := Ys 110101111 B68 J7v

def L.z1o : Nat × ByteArray × Int × Nat × Z → Z → Prop := fun ⟨x0, x1, x2, x6, e0⟩ r => ∀ S1 w1, Ext S0 w0 S1 w1 → ∀ gx0 gx6 Ee0 (_ : Hp nz wz S1 w1 (PL Ee0 (Lr))) (_ : Pa 126 S1 x0 gx0) (_ : Pa 122 S1 x6 gx6) (_ : PS S1 w1 Ee0 e0) (junk : Nat → Value),
 Goes Tryz.prog (base 68) J89 ⟨lfr 80 [(0, (pt gx0 0)), (1, .string x1), (2, .u x2), (6, .map (some gx6))] junk, []⟩ w1 (Done Tryz.prog 68 (Rets (Post.z1l nz wz S0 w0 Lr r)))

theorem W.z1o {nz wz S0 w0 Lr} : ∀ a r, M.a47 a = some r → L.z1o nz wz S0 w0 Lr a r := by
 intro ⟨x0, x1, x2, x6, e0⟩ r h S1 w1 hx gx0 gx6 Ee0 p1 fx0 fx6 fe0 junk
 rw [M.a47] at h
 try dsimp only at h
 refine Hn 3 (Yt 1101011110 B68 [1, 2, 3] (Ys 1101011111 B68 J7v)) ?_
 refine Gb h fun u9p u9q h => ?_
 refine Gc (kc 122 [53] #[9]) 54 28 122 _ (W.zu x1 u9p u9q  p1 ) ?_
 rintro _ w12 ⟨S12, u9r, u9s, u9t, u9u, rfl, z12, p12, u9v, rfl⟩
 refine Hn 5 J82 ?_
 exact Gk (W.z1n _ _ h _ _ (hx.t z12) _ _ _ _ _ _ _ p12 (fx0.ext z12) (fx6.ext z12) u9v rfl (fe0.ext z12))

def J8c := Ys 1101011 B68 J7v
def J8d := Ys 11010111 B68 J7v
def Q6n := Yq 11010110 B68

def L.z1p : Nat × ByteArray × Int × Nat × Z → Z → Prop := fun ⟨x0, x1, x2, x6, e0⟩ r => ∀ S1 w1, Ext S0 w0 S1 w1 → ∀ gx0 gx6 Ee0 (_ : Hp nz wz S1 w1 (PL Ee0 (Lr))) (_ : Pa 126 S1 x0 gx0) (_ : Pa 122 S1 x6 gx6) (_ : PS S1 w1 Ee0 e0) (junk : Nat → Value),
 Goes Tryz.prog (base 68) J8c ⟨lfr 80 [(0, (pt gx0 0)), (1, .string x1), (2, .u x2), (6, .map (some gx6))] junk, []⟩ w1 (Done Tryz.prog 68 (Rets (Post.z1l nz wz S0 w0 Lr r)))

theorem W.z1p {nz wz S0 w0 Lr} : ∀ a r, M.a48 a = some r → L.z1p nz wz S0 w0 Lr a r := by
 intro ⟨x0, x1, x2, x6, e0⟩ r h S1 w1 hx gx0 gx6 Ee0 p1 fx0 fx6 fe0 junk
 rw [M.a48] at h
 try dsimp only at h
 refine Hn 5 (Zr Q6n [3, 4, 5, 6, 7] J8d) ?_
 obtain ⟨u9w, q71, l72, e73, f74⟩ := Pl.row p1 7 rfl fe0.zh fx0
 obtain ⟨_, _, rfl, q77, ⟨_, _, rfl, q80, ⟨_, _, rfl, q83, ⟨_, _, rfl, q86, ⟨_, _, rfl, rfl, rfl⟩⟩⟩⟩⟩ := q71
 obtain ⟨v75, rfl, f76⟩ := kMp_one (w := w1) q77
 obtain ⟨v78, rfl, f79⟩ := kMp_one (w := w1) q80
 obtain ⟨v81, rfl, f82⟩ := kMp_one (w := w1) q83
 obtain ⟨v84, rfl, f85⟩ := kPp_one (w := w1) q86
 refine Hd (f74 4 _ rfl) ?_
 refine Hn 3 (Zr Q6n [7] J8d) ?_
 obtain ⟨u9x, q88, l89, e90, f91⟩ := Pl.row p1 7 rfl fe0.zh fx0
 obtain ⟨_, _, rfl, q94, ⟨_, _, rfl, q97, ⟨_, _, rfl, u9y, ⟨_, _, rfl, u9z, ⟨_, _, rfl, rfl, rfl⟩⟩⟩⟩⟩ := q88
 obtain ⟨v92, rfl, f93⟩ := kMp_one (w := w1) q94
 obtain ⟨v95, rfl, f96⟩ := kMp_one (w := w1) q97
 obtain ⟨v98, rfl, f99⟩ := kMp_one (w := w1) u9y
 obtain ⟨ua0, rfl, ua1⟩ := kPp_one (w := w1) u9z
 refine Gl h fun ua2 ua3 h => ?_
 refine Op_.stP 35 (.tmp 30) (.tmp 28) 0 126 7 x0 gx0 4 (.u (wr .u64 (((gn e0.zh x0).next) + 1))) [.u (wr .u64 (((gn e0.zh x0).next) + 1))] (⟨(gn e0.zh x0).values, (gn e0.zh x0).numbers, (gn e0.zh x0).texts, (gn e0.zh x0).grams, wr .u64 (((gn e0.zh x0).next) + 1), (gn e0.zh x0).size⟩ : T126) ua2 p1 rfl fe0.zh e90 Goes.s (by kernel_rfl) (by kernel_rfl) (by kernel_rfl) (by kernel_rfl) (by simp only [List.length_cons, List.length_nil, List.length_append]; omega) (by simp [Value.oneCell']) ⟨[v92], [v95, v98, ua0, .u (wr .u64 (((gn e0.zh x0).next) + 1)), .i ((gn e0.zh x0).size)], rfl, (show (kMp 121).rep S1 w1 [v92] (gn e0.zh x0).values from f93), ⟨[v95], [v98, ua0, .u (wr .u64 (((gn e0.zh x0).next) + 1)), .i ((gn e0.zh x0).size)], rfl, (show (kMp 78).rep S1 w1 [v95] (gn e0.zh x0).numbers from f96), ⟨[v98], [ua0, .u (wr .u64 (((gn e0.zh x0).next) + 1)), .i ((gn e0.zh x0).size)], rfl, (show (kMp 124).rep S1 w1 [v98] (gn e0.zh x0).texts from f99), ⟨[ua0], [.u (wr .u64 (((gn e0.zh x0).next) + 1)), .i ((gn e0.zh x0).size)], rfl, (show (kPp 236).rep S1 w1 [ua0] (gn e0.zh x0).grams from ua1), ⟨[.u (wr .u64 (((gn e0.zh x0).next) + 1))], [.i ((gn e0.zh x0).size)], rfl, rfl, rfl⟩⟩⟩⟩⟩ ua3 fun w4 ua4 z4 p4 ua5 => ?_
 refine Hn 2 (Ys 110101110 B68 J89) ?_
 obtain ⟨ua6, ua7, ua8, ua9, uaa⟩ := Pl.row p4 7 rfl ua5 (fx0.ext z4)
 obtain ⟨_, _, rfl, uab, ⟨_, _, rfl, uac, ⟨_, _, rfl, uad, ⟨_, _, rfl, uae, ⟨_, _, rfl, rfl, rfl⟩⟩⟩⟩⟩ := ua7
 obtain ⟨uaf, rfl, uag⟩ := kMp_one (w := w4) uab
 obtain ⟨uah, rfl, uai⟩ := kMp_one (w := w4) uac
 obtain ⟨uaj, rfl, uak⟩ := kMp_one (w := w4) uad
 obtain ⟨ual, rfl, uam⟩ := kPp_one (w := w4) uae
 have z5 : Ext S1 w4 S1 (w4).drew := Ext.draw
 have p5 := p4.draw
 refine Gd [20, 21, 23] (Fc S1 (w4).drew [(⟨gx0, 1, none⟩, uah), (⟨gx0, 2, none⟩, uaj), (⟨gx0, 4, none⟩, .u ((gn ua2 x0).next))]) 5 24 ?_
 generalize (w4).drew = w5 at z5 p5 ⊢
 refine Hq [0, 1, 2] 3 (Fc.here ⟨(p5.poolCell 7 rfl ua9 1 _ rfl), (p5.poolCell 7 rfl ua9 2 _ rfl), (p5.poolCell 7 rfl ua9 4 _ rfl), trivial⟩) ?_
 refine Hl 3 (Fc.here ⟨(p5.poolCell 7 rfl ua9 1 _ rfl), (p5.poolCell 7 rfl ua9 2 _ rfl), (p5.poolCell 7 rfl ua9 4 _ rfl), trivial⟩) (fun _ h => h.2.at_ 0 rfl) ?_
 refine Hq [4, 5, 6, 7] 4 (Fc.here ⟨(p5.poolCell 7 rfl ua9 1 _ rfl), (p5.poolCell 7 rfl ua9 2 _ rfl), (p5.poolCell 7 rfl ua9 4 _ rfl), trivial⟩) ?_
 refine Hl 8 (Fc.here ⟨(p5.poolCell 7 rfl ua9 1 _ rfl), (p5.poolCell 7 rfl ua9 2 _ rfl), (p5.poolCell 7 rfl ua9 4 _ rfl), trivial⟩) (fun _ h => h.2.at_ 1 rfl) ?_
 refine Hq [9, 10, 11] 3 (Fc.here ⟨(p5.poolCell 7 rfl ua9 1 _ rfl), (p5.poolCell 7 rfl ua9 2 _ rfl), (p5.poolCell 7 rfl ua9 4 _ rfl), trivial⟩) ?_
 refine Hl 12 (Fc.here ⟨(p5.poolCell 7 rfl ua9 1 _ rfl), (p5.poolCell 7 rfl ua9 2 _ rfl), (p5.poolCell 7 rfl ua9 4 _ rfl), trivial⟩) (fun _ h => h.2.at_ 2 rfl) ?_
 refine Hq [13, 14, 15] 3 (Fc.here ⟨(p5.poolCell 7 rfl ua9 1 _ rfl), (p5.poolCell 7 rfl ua9 2 _ rfl), (p5.poolCell 7 rfl ua9 4 _ rfl), trivial⟩) ?_
 refine Hl 16 (Fc.here ⟨(p5.poolCell 7 rfl ua9 1 _ rfl), (p5.poolCell 7 rfl ua9 2 _ rfl), (p5.poolCell 7 rfl ua9 4 _ rfl), trivial⟩) (fun _ h => h.2.at_ 2 rfl) ?_
 refine Hq [17] 1 (Fc.here ⟨(p5.poolCell 7 rfl ua9 1 _ rfl), (p5.poolCell 7 rfl ua9 2 _ rfl), (p5.poolCell 7 rfl ua9 4 _ rfl), trivial⟩) ?_
 refine Gl h fun uan uao h => ?_
 rcases uan with _ | uap
 ·
  try dsimp only at h
  obtain rfl := MpO.nil (uai.ext z5) uao
  cases h
 ·
  try dsimp only at h
  obtain ⟨uaq, rfl, uar⟩ := MpO.got (uai.ext z5) uao
  refine Gl h fun uas uat h => ?_
  refine Op_.meM 78 (.tmp 34) (.tmp 35) 49 0 9 35 1 (.u 0) 0 x1 ((mget (gn e0.zb uap) x1).getD 0) uas p5 rfl (fe0.zb.ext (z4.t z5)) uar (Av 18) (by kernel_rfl) (by kernel_rfl) (by kernel_rfl) (kok_str (by kernel_rfl)) (by kernel_rfl) rfl rfl uat fun uau uav w6 uaw z6 p6 uax uay uaz => ?_
  obtain rfl := one_int uay
  refine AnyG.next z6 ⟨(p6.poolCell 7 rfl ua9 1 _ rfl), (p6.poolCell 7 rfl ua9 2 _ rfl), (p6.poolCell 7 rfl ua9 4 _ rfl), trivial⟩ ?_
  refine Hq [19] 1 (Fc.here ⟨(p6.poolCell 7 rfl ua9 1 _ rfl), (p6.poolCell 7 rfl ua9 2 _ rfl), (p6.poolCell 7 rfl ua9 4 _ rfl), trivial⟩) ?_
  refine Gl h fun ub0 ub1 h => ?_
  refine Op_.esM 78 (.tmp 34) (.tmp 50) (.tmp 47) 0 1 x1 uav (.u ((gn ua2 x0).next)) ((gn ua2 x0).next) ub0 p6 rfl uax (uar.ext z6) uaz (As 20) (by kernel_rfl) (by kernel_rfl) (by kernel_rfl) rfl ub1 fun w7 ub2 z7 p7 ub3 => ?_
  refine AnyG.last [21, 23] (Fc S1 w7 []) (by decide) ?_
  refine Gl h fun ub4 ub5 h => ?_
  rcases ub4 with _ | ub6
  ·
   try dsimp only at h
   obtain rfl := MpO.nil (uak.ext ((z5.t z6).t z7)) ub5
   cases h
  ·
   try dsimp only at h
   obtain ⟨ub7, rfl, ub8⟩ := MpO.got (uak.ext ((z5.t z6).t z7)) ub5
   refine Gl h fun ub9 uba h => ?_
   refine Gl h fun ubb ubc h => ?_
   refine Op_.meM 124 (.tmp 39) (.tmp 43) 51 0 35 9 6 (.string ⟨#[]⟩) (⟨#[]⟩ : ByteArray) ((gn ua2 x0).next) ub9 ubb p7 rfl (fe0.zg.ext (((z4.t z5).t z6).t z7)) ub8 (Av 21) (by kernel_rfl) (by kernel_rfl) (by kernel_rfl) (kok_int (by kernel_rfl)) (by kernel_rfl) rfl uba ubc fun ubd ube w8 ubf z8 p8 ubg ubh ubi => ?_
   obtain rfl := one_str ubh
   refine AnyG.last [23] (Fc S1 w8 []) (by decide) ?_
   refine Hq [22] 1 (Fc.here trivial) ?_
   refine Gl h fun ubj ubk h => ?_
   refine Op_.esM 124 (.tmp 39) (.tmp 52) (.tmp 48) 0 6 ((gn ua2 x0).next) ube (.string x1) x1 ubj p8 rfl ubg (ub8.ext z8) ubi (As 23) (by kernel_rfl) (by kernel_rfl) (by kernel_rfl) rfl ubk fun w9 ubl z9 p9 ubm => ?_
   refine AnyG.last [] (Fc S1 w9 []) (by decide) ?_
   refine Ad ?_
   exact Gk (W.z1o _ _ h _ _ ((((((hx.t z4).t z5).t z6).t z7).t z8).t z9) _ _ ({Ee0 with zb := ub2, zg := ubl, zh := ua4}) p9 (fx0.ext (((((z4.t z5).t z6).t z7).t z8).t z9)) (fx6.ext (((((z4.t z5).t z6).t z7).t z8).t z9)) (PS.uzh (PS.uzg (PS.uzb (fe0.ext (((((z4.t z5).t z6).t z7).t z8).t z9)) (ub3.ext (z8.t z9))) ubm) (ua5.ext ((((z5.t z6).t z7).t z8).t z9))))

def J8h := Ys 1101 B68 J7v
def Q6s := Yq 1101010 B68

def L.z1q : Nat × ByteArray × Int × (Option Nat) × Bool × Z → Z → Prop := fun ⟨x0, x1, x2, x6, x16, e0⟩ r => ∀ S1 w1, Ext S0 w0 S1 w1 → ∀ gx0 vx6 Ee0 (_ : Hp nz wz S1 w1 (PL Ee0 (Lr))) (_ : Pa 126 S1 x0 gx0) (_ : MpO 122 S1 vx6 x6) (_ : PS S1 w1 Ee0 e0) (junk : Nat → Value),
 Goes Tryz.prog (base 68) J8h ⟨lfr 80 [(0, (pt gx0 0)), (1, .string x1), (2, .u x2), (6, vx6), (16, .bool x16)] junk, []⟩ w1 (Done Tryz.prog 68 (Rets (Post.z1l nz wz S0 w0 Lr r)))

theorem W.z1q {nz wz S0 w0 Lr} : ∀ a r, M.a35 a = some r → L.z1q nz wz S0 w0 Lr a r := by
 intro ⟨x0, x1, x2, x6, x16, e0⟩ r h S1 w1 hx gx0 vx6 Ee0 p1 fx0 fx6 fe0 junk
 rw [M.a35] at h
 try dsimp only at h
 refine Hb [(16, .bool x16)] ?_
 refine Gi h (fun h38 h => ?_) fun h38 h => ?_
 ·
  rw [h38]
  refine Hn 3 (Yt 110100 B68 [0, 1] (Ys 110101 B68 J7v)) ?_
  refine Op_.mkM 123 17 123 122 5 (Value.int .u64) kBool p1 rfl fe0.zf Goes.v fun g39 S2 w2 E40 z2 p2 a41 f42 => ?_
  refine Hn 7 (Zr Q6s [3, 4, 5, 6] J8c) ?_
  obtain ⟨ubn, q44, l45, e46, f47⟩ := Pl.row p2 7 rfl (fe0.zh.ext z2) (fx0.ext z2)
  obtain ⟨_, _, rfl, q50, ⟨_, _, rfl, q53, ⟨_, _, rfl, q56, ⟨_, _, rfl, q59, ⟨_, _, rfl, rfl, rfl⟩⟩⟩⟩⟩ := q44
  obtain ⟨v48, rfl, f49⟩ := kMp_one (w := w2) q50
  obtain ⟨v51, rfl, f52⟩ := kMp_one (w := w2) q53
  obtain ⟨v54, rfl, f55⟩ := kMp_one (w := w2) q56
  obtain ⟨v57, rfl, f58⟩ := kPp_one (w := w2) q59
  refine Hd (f47 0 _ rfl) ?_
  refine Hn 2 (Zr Q6s [6] J8c) ?_
  refine Gl h fun v69 h60 h => ?_
  rcases v69 with _ | y61
  ·
   try dsimp only at h
   obtain rfl := MpO.nil f49 h60
   cases h
  ·
   try dsimp only at h
   obtain ⟨g62, rfl, f63⟩ := MpO.got f49 h60
   refine Gl h fun v64 e65 h => ?_
   refine Op_.muM 121 (.tmp 21) (.tmp 22) (.tmp 23) 0 9 123 4 x1 (.map (some g39)) (some e0.zf.length) v64 p2 rfl (fe0.ze.ext z2) f63 Goes.s (by kernel_rfl) (by kernel_rfl) (by kernel_rfl) (by kernel_rfl) (kok_str (by kernel_rfl)) (show (kMp 122).rep S2 w2 [.map (some g39)] (some e0.zf.length) from (MpO.mk a41)) e65 fun w3 E66 z3 p3 f67 e68 => ?_
   refine Hn 1 J8c ?_
   exact Gk (W.z1p _ _ h _ _ ((hx.t z2).t z3) _ _ ({Ee0 with ze := E66, zf := E40}) p3 (fx0.ext (z2.t z3)) (a41.ext z3) (PS.uzf (PS.uze (fe0.ext (z2.t z3)) f67) (f42.ext z3)))
 ·
  rw [bf h38]
  refine Hn 2 J7v ?_
  exact Gk (W.z1m _ _ h _ _ hx _ _ _ p1 fx0 fx6 fe0)

def J8m := Ys 11 B68 []

def L.z1r : Nat × ByteArray × Int × (Option Nat) × Z → Z → Prop := fun ⟨x0, x1, x2, x6, e0⟩ r => ∀ S1 w1, Ext S0 w0 S1 w1 → ∀ gx0 vx6 Ee0 (_ : Hp nz wz S1 w1 (PL Ee0 (Lr))) (_ : Pa 126 S1 x0 gx0) (_ : MpO 122 S1 vx6 x6) (_ : PS S1 w1 Ee0 e0) (junk : Nat → Value),
 Goes Tryz.prog (base 68) J8m ⟨lfr 80 [(0, (pt gx0 0)), (1, .string x1), (2, .u x2), (6, vx6)] junk, []⟩ w1 (Done Tryz.prog 68 (Rets (Post.z1l nz wz S0 w0 Lr r)))

theorem W.z1r {nz wz S0 w0 Lr} : ∀ a r, M.a36 a = some r → L.z1r nz wz S0 w0 Lr a r := by
 intro ⟨x0, x1, x2, x6, e0⟩ r h S1 w1 hx gx0 vx6 Ee0 p1 fx0 fx6 fe0 junk
 rw [M.a36] at h
 try dsimp only at h
 refine Hn 4 (Yt 1100 B68 [1] J8h) ?_
 refine Gl h fun v37 h33 h => ?_
 rcases v37 with _ | y34
 ·
  try dsimp only at h
  obtain rfl := MpO.nil fx6 h33
  refine Hn 2 J8h ?_
  exact Gk (W.z1q _ _ h _ _ hx _ (.map none) _ p1 fx0 (MpO.none 122 S1) fe0)
 ·
  try dsimp only at h
  obtain ⟨g35, rfl, f36⟩ := MpO.got fx6 h33
  refine Hn 2 J8h ?_
  exact Gk (W.z1q _ _ h _ _ hx _ _ _ p1 fx0 (MpO.mk f36) fe0)

def Q6v := Yq 10 B68

theorem W.z1l (x0 : Option Nat) (x1 : ByteArray) (x2 : Int) (pl : Z) (r : Z) (h : M.a49 x0 x1 x2 pl = some r) {nz wz S0 w0 Lr} (vx0 Epl) (p0 : Hp nz wz S0 w0 (PL Epl (Lr))) (fx0 : PpO 126 S0 vx0 x0) (fpl : PS S0 w0 Epl pl) :
  Calls Tryz.prog 68 #[vx0, .string x1, .u x2] w0 (Rets (Post.z1l nz wz S0 w0 Lr r)) := by
 refine Zf Tryz.f68 B68 77 ?_
 refine Gj 80 [(0, vx0), (1, .string x1), (2, .u x2)] fun junk => ?_
 delta M.a49 at h
 refine Hn 3 (Zr Q6v [1, 2, 3, 4, 5, 6] J8m) ?_
 refine Gl h fun v32 h1 h => ?_
 rcases v32 with _ | y2
 ·
  try dsimp only at h
  obtain rfl := PpO.nil fx0 h1
  cases h
 ·
  try dsimp only at h
  obtain ⟨g3, rfl, f4⟩ := PpO.got fx0 h1
  refine Hn 2 (Zr Q6v [3, 4, 5, 6] J8m) ?_
  obtain ⟨cs5, q6, l7, e8, f9⟩ := Pl.row p0 7 rfl fpl.zh f4
  obtain ⟨_, _, rfl, q12, ⟨_, _, rfl, q15, ⟨_, _, rfl, q18, ⟨_, _, rfl, q21, ⟨_, _, rfl, rfl, rfl⟩⟩⟩⟩⟩ := q6
  obtain ⟨v10, rfl, f11⟩ := kMp_one (w := w0) q12
  obtain ⟨v13, rfl, f14⟩ := kMp_one (w := w0) q15
  obtain ⟨v16, rfl, f17⟩ := kMp_one (w := w0) q18
  obtain ⟨v19, rfl, f20⟩ := kPp_one (w := w0) q21
  refine Hd (f9 0 _ rfl) ?_
  refine Hn 1 (Zr Q6v [5, 6] J8m) ?_
  refine Gl h fun v31 h22 h => ?_
  rcases v31 with _ | y23
  ·
   try dsimp only at h
   obtain rfl := MpO.nil f11 h22
   refine Hn 3 J8m ?_
   exact Gk (W.z1r _ _ h _ _ (Ext.refl S0 w0) _ (.map none) _ p0 f4 (MpO.none 122 S0) fpl)
  ·
   try dsimp only at h
   obtain ⟨g24, rfl, f25⟩ := MpO.got f11 h22
   refine Gl h fun v26 e27 h => ?_
   refine Op_.lkM 121 (.tmp 12) (.tmp 13) 14 123 9 123 4 (.map none) (none : Option Nat) x1 v26 p0 rfl fpl.ze f25 Goes.v (by kernel_rfl) (by kernel_rfl) (by kernel_rfl) (kok_str (by kernel_rfl)) (by kernel_rfl) (show (kMp 122).rep S0 w0 [.map none] none from (MpO.none 122 S0)) e27 fun v28 f29 => ?_
   have f30 := one_mp f29
   refine Hn 2 J8m ?_
   exact Gk (W.z1r _ _ h _ _ (Ext.refl S0 w0) _ _ _ p0 f4 f30 fpl)

def Q6x := Yq 1111111110100 B20
def J8t := Zl Q6x (Zb 1 (Ys 1111111111 B20 []))
def J8u := Zc Q6x J8t
def J8w := Zb 2 (Ys 1111111110100111 B20 J8t)
def J8x := Ys 1111111110100110011 B20 J8w
def Q70 := Yq 11111111101001100111 B20
def J8y := Zc Q70 J8w
def J8z := Ys 111111111010011001101 B20 J8y
def J97 := Ys 11111111101001100110101 B20 J8y

def Post.z1s (r : Int × Z) (v : Value) (w' : World) : Prop :=
 ∃ S' Ee0, v = .i r.1 ∧ Ext S0 w0 S' w' ∧ Hp nz wz S' w' (PL Ee0 (Lr)) ∧ PS S' w' Ee0 r.2

def L.z1t : Nat × Int × Int × (List T55) × Int × Int × Z → (Int × Z) → Prop := fun ⟨x0, x1, x8, x74, x75, x76, e0⟩ r => ∀ S1 w1, Ext S0 w0 S1 w1 → ∀ gx0 ubp ubq ubr Ee0 (_ : Hp nz wz S1 w1 (PL Ee0 (Lr))) (_ : Pa 80 S1 x0 gx0) (_ : Rd kT55 S1 w1 ubp ubr x74) (_ : x74.length = ubq) (_ : PS S1 w1 Ee0 e0) (junk : Nat → Value),
 Goes Tryz.prog (base 20) J8u ⟨lfr 104 [(0, (pt gx0 0)), (1, .u x1), (8, .i x8), (74, .slice ubp ubq ubr), (75, .i x75), (76, .i x76)] junk, []⟩ w1 (Done Tryz.prog 20 (Rets (Post.z1s nz wz S0 w0 Lr r)))

def L.z1u : Nat × Int × Int × T55 × (Option Nat) × (List T55) × Int × Int × Z → (Int × Z) → Prop := fun ⟨x0, x1, x8, ubs, x15, x74, x75, x76, e0⟩ r => ∀ S1 w1, Ext S0 w0 S1 w1 → ∀ gx0 ubt ubu ubp ubq ubr Ee0 (_ : Hp nz wz S1 w1 ((some ubt, .row 56 (vT55 ubs) 2 0) :: PL Ee0 (Lr))) (_ : Pa 80 S1 x0 gx0) (_ : PpO 126 S1 ubu x15) (_ : Rd kT55 S1 w1 ubp ubr x74) (_ : x74.length = ubq) (_ : PS S1 w1 Ee0 e0) (junk : Nat → Value),
 Goes Tryz.prog (base 20) J8x ⟨lfr 104 [(0, (pt gx0 0)), (1, .u x1), (8, .i x8), (14, (pt ubt 0)), (15, ubu), (74, .slice ubp ubq ubr), (75, .i x75), (76, .i x76)] junk, []⟩ w1 (Done Tryz.prog 20 (Rets (Post.z1s nz wz S0 w0 Lr r)))

def L.z1v : Nat × Int × Int × T55 × (Option Nat) × (List T55) × Int × Int × Bool × Z → (Int × Z) → Prop := fun ⟨x0, x1, x8, ubs, x15, x74, x75, x76, x88, e0⟩ r => ∀ S1 w1, Ext S0 w0 S1 w1 → ∀ gx0 ubt ubu ubp ubq ubr Ee0 (_ : Hp nz wz S1 w1 ((some ubt, .row 56 (vT55 ubs) 2 0) :: PL Ee0 (Lr))) (_ : Pa 80 S1 x0 gx0) (_ : PpO 126 S1 ubu x15) (_ : Rd kT55 S1 w1 ubp ubr x74) (_ : x74.length = ubq) (_ : PS S1 w1 Ee0 e0) (junk : Nat → Value),
 Goes Tryz.prog (base 20) J8z ⟨lfr 104 [(0, (pt gx0 0)), (1, .u x1), (8, .i x8), (14, (pt ubt 0)), (15, ubu), (74, .slice ubp ubq ubr), (75, .i x75), (76, .i x76), (88, .bool x88)] junk, []⟩ w1 (Done Tryz.prog 20 (Rets (Post.z1s nz wz S0 w0 Lr r)))

def L.z1w : Nat × Int × Int × T55 × (Option Nat) × (List T55) × Int × Int × Z → (Int × Z) → Prop := fun ⟨x0, x1, x8, ubs, x15, x74, x75, x76, e0⟩ r => ∀ S1 w1, Ext S0 w0 S1 w1 → ∀ gx0 ubt ubu ubp ubq ubr Ee0 (_ : Hp nz wz S1 w1 ((some ubt, .row 56 (vT55 ubs) 2 0) :: PL Ee0 (Lr))) (_ : Pa 80 S1 x0 gx0) (_ : PpO 126 S1 ubu x15) (_ : Rd kT55 S1 w1 ubp ubr x74) (_ : x74.length = ubq) (_ : PS S1 w1 Ee0 e0) (junk : Nat → Value),
 Goes Tryz.prog (base 20) J8y ⟨lfr 104 [(0, (pt gx0 0)), (1, .u x1), (8, .i x8), (14, (pt ubt 0)), (15, ubu), (74, .slice ubp ubq ubr), (75, .i x75), (76, .i x76)] junk, []⟩ w1 (Done Tryz.prog 20 (Rets (Post.z1s nz wz S0 w0 Lr r)))

theorem W.z1x {nz wz S0 w0 Lr} : (∀ a r, M.a1w a = some r → (L.z1t nz wz S0 w0 Lr) a r) ∧ (∀ a r, M.a2d a = some r → (L.z1u nz wz S0 w0 Lr) a r) ∧ (∀ a r, M.a2e a = some r → (L.z1v nz wz S0 w0 Lr) a r) ∧ (∀ a r, M.a2f a = some r → (L.z1w nz wz S0 w0 Lr) a r) := by
 refine M.a1w.mutual_partial_correctness (L.z1t nz wz S0 w0 Lr) (L.z1u nz wz S0 w0 Lr) (L.z1v nz wz S0 w0 Lr) (L.z1w nz wz S0 w0 Lr) ?_ ?_ ?_ ?_
 ·
  intro ubv ubw ⟨x0, x1, x8, x74, x75, x76, e0⟩ r h S1 w1 hx gx0 ubp ubq ubr Ee0 p1 fx0 ubx uby fe0 junk
  try dsimp only at h
  subst uby
  refine Hn 5 (Ys 111111111010010 B20 (Ys 111111111010011 B20 J8t)) ?_
  refine Hb [(77, .bool (decide (x76 < x75)))] ?_
  refine Gi h (fun ubz h => ?_) fun ubz h => ?_
  ·
   rw [dt ubz]
   refine Hn 6 (Yt 111111111010011000 B20 [0, 1, 2, 3] (Ys 111111111010011001 B20 J8w)) ?_
   refine Gg h fun uc0 h => ?_
   refine Gg h fun uc1 h => ?_
   refine Oi 38 (.tmp 74) (.tmp 76) 78 0 56 .i64 x76 (gi x74 x76) rfl rfl ubx Goes.v uc0 uc1 fun uc2 _ uc3 uc4 => ?_
   obtain ⟨_, _, rfl, rfl, rfl⟩ := uc4
   refine Goes.ldN 56 (.tmp 78) 79 56 uc2 ([.string ((gi x74 x76).Name)] ++ [.string ((gi x74 x76).Value)]) (uc3.cell) ?_
   refine Oa 56 14 0 (.agg #[.string (⟨#[]⟩ : ByteArray), .string (⟨#[]⟩ : ByteArray)]) [.string (⟨#[]⟩ : ByteArray), .string (⟨#[]⟩ : ByteArray)] p1 Goes.v fun uc5 w11 z11 p11 => ?_
   refine So 56 (.tmp 14) (.tmp 79) 0 0 uc5 0 ((ag (vT55 (gi x74 x76)))) (vT55 (gi x74 x76)) p11 rfl Goes.s fun w12 z12 p12 => ?_
   refine Hn 2 (Ys 1111111110100110010 B20 J8x) ?_
   obtain ⟨uc6, uc7, uc8, uc9, uca⟩ := Pl.row p12 4 rfl (fe0.zd.ext (z11.t z12)) (fx0.ext (z11.t z12))
   obtain ⟨_, _, rfl, ucb, ⟨_, _, rfl, ucc, ucd⟩⟩ := uc7
   obtain ⟨uce, rfl, ucf⟩ := kMp_one (w := w12) ucb
   obtain ⟨ub9, rfl, ucg⟩ := kMp_one (w := w12) ucc
   obtain ⟨uch, rfl, uci⟩ := kMp_one (w := w12) ucd
   have z13 : Ext S1 w12 S1 (w12).drew := Ext.draw
   have p13 := p12.draw
   refine Gd [] (Fc S1 (w12).drew [(⟨gx0, 2, none⟩, uch), (⟨uc5, 0, none⟩, .string ((gi x74 x76).Name))]) 16 8 ?_
   generalize (w12).drew = w13 at z13 p13 ⊢
   refine Hq [0, 1, 2] 3 (Fc.here ⟨(p13.poolCell 4 rfl uc9 2 _ rfl), (p13.c 0 0), trivial⟩) ?_
   refine Hl 3 (Fc.here ⟨(p13.poolCell 4 rfl uc9 2 _ rfl), (p13.c 0 0), trivial⟩) (fun _ h => h.2.at_ 0 rfl) ?_
   refine Hq [4] 1 (Fc.here ⟨(p13.poolCell 4 rfl uc9 2 _ rfl), (p13.c 0 0), trivial⟩) ?_
   refine Hl 5 (Fc.here ⟨(p13.poolCell 4 rfl uc9 2 _ rfl), (p13.c 0 0), trivial⟩) (fun _ h => h.2.at_ 1 rfl) ?_
   refine Gl h fun ucj uck h => ?_
   rcases ucj with _ | ucl
   ·
    try dsimp only at h
    obtain rfl := MpO.nil (uci.ext z13) uck
    refine Hq [6, 7] 2 (Fc.here ⟨(p13.poolCell 4 rfl uc9 2 _ rfl), (p13.c 0 0), trivial⟩) ?_
    refine Ad ?_
    exact Gk (ubw _ _ h _ _ (((hx.t z11).t z12).t z13) _ _ (.pointer none) _ _ _ _ p13 (fx0.ext ((z11.t z12).t z13)) (PpO.none 126 S1) (ubx.ext ((z11.t z12).t z13)) rfl (fe0.ext ((z11.t z12).t z13)))
   ·
    try dsimp only at h
    obtain ⟨ucm, rfl, ubi⟩ := MpO.got (uci.ext z13) uck
    refine Gl h fun ucn uco h => ?_
    refine Op_.lkM 79 (.tmp 83) (.tmp 85) 86 119 9 119 3 (.pointer none) (none : Option Nat) ((gi x74 x76).Name) ucn p13 rfl (fe0.zc.ext ((z11.t z12).t z13)) ubi (Av 6) (by kernel_rfl) (by kernel_rfl) (by kernel_rfl) (kok_str (by kernel_rfl)) (by kernel_rfl) (show (kPp 126).rep S1 w13 [.pointer none] none from (PpO.none 126 S1)) uco fun ucp ucq => ?_
    have ucr := one_pp ucq
    refine AnyG.next (Ext.refl _ _) ⟨(p13.poolCell 4 rfl uc9 2 _ rfl), (p13.c 0 0), trivial⟩ ?_
    refine Hq [7] 1 (Fc.here ⟨(p13.poolCell 4 rfl uc9 2 _ rfl), (p13.c 0 0), trivial⟩) ?_
    refine Ad ?_
    exact Gk (ubw _ _ h _ _ (((hx.t z11).t z12).t z13) _ _ _ _ _ _ _ p13 (fx0.ext ((z11.t z12).t z13)) ucr (ubx.ext ((z11.t z12).t z13)) rfl (fe0.ext ((z11.t z12).t z13)))
  ·
   rw [df ubz]
   refine Hn 7 (Ys 11111111111 B20 []) ?_
   obtain rfl := sj h
   exact Hr Tryz.f20 ⟨_, _, rfl, hx, p1, fe0⟩
 ·
  intro ucs uct ⟨x0, x1, x8, ubs, x15, x74, x75, x76, e0⟩ r h S1 w1 hx gx0 ubt ubu ubp ubq ubr Ee0 p1 fx0 u6z ubx uby fe0 junk
  try dsimp only at h
  subst uby
  refine Hn 4 (Yt 111111111010011001100 B20 [1] J8z) ?_
  refine Gl h fun ucu ucv h => ?_
  rcases ucu with _ | ucw
  ·
   try dsimp only at h
   obtain rfl := PpO.nil u6z ucv
   refine Hn 2 J8z ?_
   exact Gk (uct _ _ h _ _ hx _ _ (.pointer none) _ _ _ _ p1 fx0 (PpO.none 126 S1) ubx rfl fe0)
  ·
   try dsimp only at h
   obtain ⟨ucx, rfl, ucy⟩ := PpO.got u6z ucv
   refine Hn 2 J8z ?_
   exact Gk (uct _ _ h _ _ hx _ _ _ _ _ _ _ p1 fx0 (PpO.mk ucy) ubx rfl fe0)
 ·
  intro ucz ud0 ⟨x0, x1, x8, ubs, x15, x74, x75, x76, x88, e0⟩ r h S1 w1 hx gx0 ubt ubu ubp ubq ubr Ee0 p1 fx0 u6z ubx uby fe0 junk
  try dsimp only at h
  subst uby
  refine Hb [(88, .bool x88)] ?_
  refine Gi h (fun ud1 h => ?_) fun ud1 h => ?_
  ·
   rw [ud1]
   refine Hn 3 (Yt 11111111101001100110100 B20 [0, 1] J97) ?_
   have p1 := p1.rt 1 10
   refine Gb h fun ud2 ud3 h => ?_
   refine Gc (kc 67 [] #[]) 89 119 67 _ (W.zm e0 ud2 ud3 _ p1 fe0) ?_
   rintro _ w14 ⟨S14, ud4, u9n, rfl, z14, p14, ud5, u9o⟩
   refine Hn 2 J97 ?_
   obtain ⟨ud6, ud7, ud8, ud9, uda⟩ := Pl.row p14 3 rfl u9o.zd (fx0.ext z14)
   obtain ⟨_, _, rfl, udb, ⟨_, _, rfl, udc, udd⟩⟩ := ud7
   obtain ⟨ude, rfl, udf⟩ := kMp_one (w := w14) udb
   obtain ⟨udg, rfl, udh⟩ := kMp_one (w := w14) udc
   obtain ⟨udi, rfl, udj⟩ := kMp_one (w := w14) udd
   have z15 : Ext S14 w14 S14 (w14).drew := Ext.draw
   have p15 := p14.draw
   refine Gd [7] (Fc S14 (w14).drew [(⟨gx0, 2, none⟩, udi), (⟨ubt, 0, none⟩, .string ubs.Name)]) 19 8 ?_
   generalize (w14).drew = w15 at z15 p15 ⊢
   refine Hq [0, 1, 2] 3 (Fc.here ⟨(p15.poolCell 3 rfl ud9 2 _ rfl), (p15.c 10 0), trivial⟩) ?_
   refine Hl 3 (Fc.here ⟨(p15.poolCell 3 rfl ud9 2 _ rfl), (p15.c 10 0), trivial⟩) (fun _ h => h.2.at_ 0 rfl) ?_
   refine Hq [4] 1 (Fc.here ⟨(p15.poolCell 3 rfl ud9 2 _ rfl), (p15.c 10 0), trivial⟩) ?_
   refine Hl 5 (Fc.here ⟨(p15.poolCell 3 rfl ud9 2 _ rfl), (p15.c 10 0), trivial⟩) (fun _ h => h.2.at_ 1 rfl) ?_
   refine Hq [6] 1 (Fc.here ⟨(p15.poolCell 3 rfl ud9 2 _ rfl), (p15.c 10 0), trivial⟩) ?_
   refine Gl h fun u8g udk h => ?_
   rcases u8g with _ | udl
   ·
    try dsimp only at h
    obtain rfl := MpO.nil (udj.ext z15) udk
    cases h
   ·
    try dsimp only at h
    obtain ⟨udm, rfl, udn⟩ := MpO.got (udj.ext z15) udk
    refine Gl h fun udo u88 h => ?_
    refine Op_.muM 79 (.tmp 93) (.tmp 95) (.tmp 96) 0 9 119 2 ubs.Name ((pt ud4 0)) (some ud2.1) udo p15 rfl (u9o.zc.ext z15) udn (As 7) (by kernel_rfl) (by kernel_rfl) (by kernel_rfl) (by kernel_rfl) (kok_str (by kernel_rfl)) (show (kPp 126).rep S14 w15 [(pt ud4 0)] (some ud2.1) from (PpO.mk (ud5.ext z15))) u88 fun w16 udp z16 p16 udq udr => ?_
    refine AnyG.last [] (Fc S14 w16 []) (by decide) ?_
    refine Ad ?_
    have p16 := p16.fr 10
    exact Gk (ud0 _ _ h _ _ (((hx.t z14).t z15).t z16) _ _ _ _ _ _ ({u9n with zc := udp}) p16 (fx0.ext ((z14.t z15).t z16)) (PpO.mk (ud5.ext (z15.t z16))) (ubx.ext ((z14.t z15).t z16)) rfl (PS.uzc (u9o.ext (z15.t z16)) udq))
  ·
   rw [bf ud1]
   refine Hn 2 J8y ?_
   exact Gk (ud0 _ _ h _ _ hx _ _ _ _ _ _ _ p1 fx0 u6z ubx rfl fe0)
 ·
  intro udt udu ⟨x0, x1, x8, ubs, x15, x74, x75, x76, e0⟩ r h S1 w1 hx gx0 ubt ubu ubp ubq ubr Ee0 p1 fx0 u6z ubx uby fe0 junk
  try dsimp only at h
  subst uby
  refine Hn 3 (Zr Q70 [2, 3, 4] J8w) ?_
  refine Hd (p1.e 0 1) ?_
  refine Hn 1 (Zr Q70 [4] J8w) ?_
  have p1 := p1.rt 1 10
  refine Gb h fun udv udw h => ?_
  refine Gc (kc 68 [97, 99, 100] #[119, 9, 35]) 101 0 68 _ (W.z1l x15 ubs.Value x1 e0 udv udw _ _ p1 u6z fe0) ?_
  rintro _ w17 ⟨S17, udx, rfl, z17, p17, udy⟩
  have p17 := p17.dp 10
  refine Hn 7 J8u ?_
  exact Gk (udu _ _ h _ _ (hx.t z17) _ _ _ _ _ p17 (fx0.ext z17) (ubx.ext z17) rfl udy)

theorem W.z1t {nz wz S0 w0 Lr} : ∀ a r, M.a1w a = some r → (L.z1t nz wz S0 w0 Lr) a r := (W.z1x).1

theorem W.z1u {nz wz S0 w0 Lr} : ∀ a r, M.a2d a = some r → (L.z1u nz wz S0 w0 Lr) a r := (W.z1x).2.1

theorem W.z1v {nz wz S0 w0 Lr} : ∀ a r, M.a2e a = some r → (L.z1v nz wz S0 w0 Lr) a r := (W.z1x).2.2.1

theorem W.z1w {nz wz S0 w0 Lr} : ∀ a r, M.a2f a = some r → (L.z1w nz wz S0 w0 Lr) a r := (W.z1x).2.2.2

def J9b := Ys 111111111 B20 []

def L.z1y : Nat × Int × (List T55) × Int × Z → (Int × Z) → Prop := fun ⟨x0, x1, x2, x8, e0⟩ r => ∀ S1 w1, Ext S0 w0 S1 w1 → ∀ gx0 Ax2 nx2 cx2 Ee0 (_ : Hp nz wz S1 w1 (PL Ee0 (Lr))) (_ : Pa 80 S1 x0 gx0) (_ : Rd kT55 S1 w1 Ax2 cx2 x2) (_ : x2.length = nx2) (_ : PS S1 w1 Ee0 e0) (junk : Nat → Value),
 Goes Tryz.prog (base 20) J9b ⟨lfr 104 [(0, (pt gx0 0)), (1, .u x1), (2, .slice Ax2 nx2 cx2), (8, .i x8)] junk, []⟩ w1 (Done Tryz.prog 20 (Rets (Post.z1s nz wz S0 w0 Lr r)))

theorem W.z1y {nz wz S0 w0 Lr} : ∀ a r, M.a4a a = some r → L.z1y nz wz S0 w0 Lr a r := by
 intro ⟨x0, x1, x2, x8, e0⟩ r h S1 w1 hx gx0 Ax2 nx2 cx2 Ee0 p1 fx0 fx2 lx2 fe0 junk
 rw [M.a4a] at h
 try dsimp only at h
 subst lx2
 refine Hn 9 J8u ?_
 exact Gk (W.z1t _ _ h _ _ hx _ _ _ _ _ p1 fx0 fx2 rfl fe0)

def J9d := Zb 0 (Ys 11111111 B20 [])
def J9e := Ys 111111100111 B20 J9d

def L.z1z : Nat × Int × (List T55) × ByteArray × Int × Bool × Z → (Int × Z) → Prop := fun ⟨x0, x1, x2, x7, x8, x50, e0⟩ r => ∀ S1 w1, Ext S0 w0 S1 w1 → ∀ gx0 Ax2 nx2 cx2 Ee0 (_ : Hp nz wz S1 w1 (PL Ee0 (Lr))) (_ : Pa 80 S1 x0 gx0) (_ : Rd kT55 S1 w1 Ax2 cx2 x2) (_ : x2.length = nx2) (_ : PS S1 w1 Ee0 e0) (junk : Nat → Value),
 Goes Tryz.prog (base 20) J9e ⟨lfr 104 [(0, (pt gx0 0)), (1, .u x1), (2, .slice Ax2 nx2 cx2), (7, .string x7), (8, .i x8), (50, .bool x50)] junk, []⟩ w1 (Done Tryz.prog 20 (Rets (Post.z1s nz wz S0 w0 Lr r)))

theorem W.z1z {nz wz S0 w0 Lr} : ∀ a r, M.a37 a = some r → L.z1z nz wz S0 w0 Lr a r := by
 intro ⟨x0, x1, x2, x7, x8, x50, e0⟩ r h S1 w1 hx gx0 Ax2 nx2 cx2 Ee0 p1 fx0 fx2 lx2 fe0 junk
 rw [M.a37] at h
 try dsimp only at h
 subst lx2
 refine Hb [(50, .bool x50)] ?_
 refine Gi h (fun h75 h => ?_) fun h75 h => ?_
 ·
  rw [h75]
  refine Hn 5 (Ys 11111110011101 B20 J9d) ?_
  obtain rfl := sj h
  exact Hr Tryz.f20 ⟨_, _, rfl, hx, p1, fe0⟩
 ·
  rw [bf h75]
  refine Hn 4 (Ys 111111110 B20 J9b) ?_
  obtain ⟨ue0, q77, l78, e79, f80⟩ := Pl.row p1 3 rfl fe0.zd fx0
  obtain ⟨_, _, rfl, q83, ⟨_, _, rfl, q86, q89⟩⟩ := q77
  obtain ⟨v81, rfl, f82⟩ := kMp_one (w := w1) q83
  obtain ⟨v84, rfl, f85⟩ := kMp_one (w := w1) q86
  obtain ⟨v87, rfl, f88⟩ := kMp_one (w := w1) q89
  have z4 : Ext S1 w1 S1 (w1).drew := Ext.draw
  have p4 := p1.draw
  refine Gd [13, 15, 16, 18] (Fc S1 (w1).drew [(⟨gx0, 0, none⟩, v81), (⟨gx0, 1, none⟩, v84)]) 12 19 ?_
  generalize (w1).drew = w4 at z4 p4 ⊢
  refine Hq [0, 1, 2] 3 (Fc.here ⟨(p4.poolCell 3 rfl e79 0 _ rfl), (p4.poolCell 3 rfl e79 1 _ rfl), trivial⟩) ?_
  refine Hl 3 (Fc.here ⟨(p4.poolCell 3 rfl e79 0 _ rfl), (p4.poolCell 3 rfl e79 1 _ rfl), trivial⟩) (fun _ h => h.2.at_ 0 rfl) ?_
  refine Hq [4, 5, 6, 7] 4 (Fc.here ⟨(p4.poolCell 3 rfl e79 0 _ rfl), (p4.poolCell 3 rfl e79 1 _ rfl), trivial⟩) ?_
  refine Hl 8 (Fc.here ⟨(p4.poolCell 3 rfl e79 0 _ rfl), (p4.poolCell 3 rfl e79 1 _ rfl), trivial⟩) (fun _ h => h.2.at_ 1 rfl) ?_
  refine Hq [9, 10, 12] 3 (Fc.here ⟨(p4.poolCell 3 rfl e79 0 _ rfl), (p4.poolCell 3 rfl e79 1 _ rfl), trivial⟩) ?_
  refine Gb h fun y90 e91 h => ?_
  refine Oc (kc 66 [67] #[38]) 68 38 66 #[.slice Ax2 x2.length cx2] (Ac 11) (W.zk x2 y90 e91 _ _ _ p4 (fx2.ext z4) rfl) ?_
  rintro _ w5 ⟨S5, u6q, u6r, u6s, u6t, rfl, z5, p5, u1p, rfl⟩
  refine AnyG.next z5 ⟨(p5.poolCell 4 rfl e79 0 _ rfl), (p5.poolCell 4 rfl e79 1 _ rfl), trivial⟩ ?_
  refine Gl h fun ue1 h93 h => ?_
  rcases ue1 with _ | y94
  ·
   try dsimp only at h
   obtain rfl := MpO.nil (f82.ext (z4.t z5)) h93
   cases h
  ·
   try dsimp only at h
   obtain ⟨g95, rfl, f96⟩ := MpO.got (f82.ext (z4.t z5)) h93
   refine Gl h fun v97 e98 h => ?_
   refine Op_.meM 77 (.tmp 60) (.tmp 61) 70 0 35 38 1 (.slice none 0 0) ([] : List T55) x1 v97 (sn e0.za y94 (mset (gn e0.za y94) x1 v97)) p5 rfl (fe0.za.ext (z4.t z5)) f96 (Av 13) (by kernel_rfl) (by kernel_rfl) (by kernel_rfl) (kok_int (by kernel_rfl)) (by kernel_rfl) ⟨none, 0, rfl, Rd.none_⟩ e98 rfl fun v99 ue2 w6 ue3 z6 p6 ua1 ue4 ue5 => ?_
   obtain ⟨ue6, ue7, rfl, ua5⟩ := one_sl ue4
   refine AnyG.last [15, 16, 18] (Fc S5 w6 []) (by decide) ?_
   refine Hq [14] 1 (Fc.here trivial) ?_
   obtain ⟨S7, z7, p7, ue8⟩ := p6.freezeRd 0 rfl (u1p.ext z6) (by decide)
   refine AnyG.refz z7 ?_
   refine Gl h fun ue9 uea h => ?_
   refine Op_.esM 77 (.tmp 60) (.tmp 71) (.tmp 68) 0 1 x1 ue2 (.slice (Gp u6q) y90.length u6s) y90 ue9 p7 rfl (ua1.ext z7) (f96.ext (z6.t z7)) ue5 (As 15) (by kernel_rfl) (by kernel_rfl) (by kernel_rfl) ⟨_, _, rfl, ue8⟩ uea fun w8 ueb z8 p8 uaa => ?_
   refine AnyG.last [16, 18] (Fc S7 w8 []) (by decide) ?_
   refine Gl h fun uec ued h => ?_
   rcases uec with _ | uee
   ·
    try dsimp only at h
    obtain rfl := MpO.nil (f85.ext ((((z4.t z5).t z6).t z7).t z8)) ued
    cases h
   ·
    try dsimp only at h
    obtain ⟨uef, rfl, ueg⟩ := MpO.got (f85.ext ((((z4.t z5).t z6).t z7).t z8)) ued
    refine Gl h fun ueh uei h => ?_
    refine Op_.meM 78 (.tmp 65) (.tmp 66) 72 0 9 35 2 (.u 0) 0 x7 ((mget (gn e0.zb uee) x7).getD 0) ueh p8 rfl (fe0.zb.ext ((((z4.t z5).t z6).t z7).t z8)) ueg (Av 16) (by kernel_rfl) (by kernel_rfl) (by kernel_rfl) (kok_str (by kernel_rfl)) (by kernel_rfl) rfl rfl uei fun uaj uej w9 uek z9 p9 uel uam uem => ?_
    obtain rfl := one_int uam
    refine AnyG.last [18] (Fc S7 w9 []) (by decide) ?_
    refine Hq [17] 1 (Fc.here trivial) ?_
    refine Op_.esM 78 (.tmp 65) (.tmp 73) (.tmp 69) 0 2 x7 uej (.u x1) x1 (sn ueh uee (mset (gn ueh uee) x7 x1)) p9 rfl uel (ueg.ext z9) uem (As 18) (by kernel_rfl) (by kernel_rfl) (by kernel_rfl) rfl rfl fun w10 uen z10 p10 ueo => ?_
    refine AnyG.last [] (Fc S7 w10 []) (by decide) ?_
    refine Ad ?_
    have p10 := p10.dp 0
    exact Gk (W.z1y _ _ h _ _ (((((((hx.t z4).t z5).t z6).t z7).t z8).t z9).t z10) _ _ _ _ ({Ee0 with za := ueb, zb := uen}) p10 (fx0.ext ((((((z4.t z5).t z6).t z7).t z8).t z9).t z10)) (fx2.ext ((((((z4.t z5).t z6).t z7).t z8).t z9).t z10)) rfl (PS.uzb (PS.uza (fe0.ext ((((((z4.t z5).t z6).t z7).t z8).t z9).t z10)) (uaa.ext (z9.t z10))) ueo))

def J9h := Ys 1111111001 B20 J9d

def L.z20 : Nat × Int × (List T55) × ByteArray × Int × Bool × Z → (Int × Z) → Prop := fun ⟨x0, x1, x2, x7, x8, x45, e0⟩ r => ∀ S1 w1, Ext S0 w0 S1 w1 → ∀ gx0 Ax2 nx2 cx2 Ee0 (_ : Hp nz wz S1 w1 (PL Ee0 (Lr))) (_ : Pa 80 S1 x0 gx0) (_ : Rd kT55 S1 w1 Ax2 cx2 x2) (_ : x2.length = nx2) (_ : PS S1 w1 Ee0 e0) (junk : Nat → Value),
 Goes Tryz.prog (base 20) J9h ⟨lfr 104 [(0, (pt gx0 0)), (1, .u x1), (2, .slice Ax2 nx2 cx2), (7, .string x7), (8, .i x8), (45, .bool x45)] junk, []⟩ w1 (Done Tryz.prog 20 (Rets (Post.z1s nz wz S0 w0 Lr r)))

theorem W.z20 {nz wz S0 w0 Lr} : ∀ a r, M.a38 a = some r → L.z20 nz wz S0 w0 Lr a r := by
 intro ⟨x0, x1, x2, x7, x8, x45, e0⟩ r h S1 w1 hx gx0 Ax2 nx2 cx2 Ee0 p1 fx0 fx2 lx2 fe0 junk
 rw [M.a38] at h
 try dsimp only at h
 subst lx2
 refine Hb [(45, .bool x45)] ?_
 refine Gi h (fun h55 h => ?_) fun h55 h => ?_
 ·
  rw [h55]
  refine Hn 5 (Ys 111111100101 B20 J9d) ?_
  obtain rfl := sj h
  exact Hr Tryz.f20 ⟨_, _, rfl, hx, p1, fe0⟩
 ·
  rw [bf h55]
  refine Hn 6 (Yt 111111100110 B20 [3, 4, 5, 6] J9e) ?_
  obtain ⟨ueq, q57, l58, e59, f60⟩ := Pl.row p1 3 rfl fe0.zd fx0
  obtain ⟨_, _, rfl, q63, ⟨_, _, rfl, q66, q69⟩⟩ := q57
  obtain ⟨v61, rfl, f62⟩ := kMp_one (w := w1) q63
  obtain ⟨v64, rfl, f65⟩ := kMp_one (w := w1) q66
  obtain ⟨v67, rfl, f68⟩ := kMp_one (w := w1) q69
  refine Hd (f60 0 _ rfl) ?_
  refine Gl h fun v74 h70 h => ?_
  rcases v74 with _ | y71
  ·
   try dsimp only at h
   obtain rfl := MpO.nil f62 h70
   refine Hn 4 J9e ?_
   exact Gk (W.z1z _ _ h _ _ hx _ _ _ _ _ p1 fx0 fx2 rfl fe0)
  ·
   try dsimp only at h
   obtain ⟨g72, rfl, f73⟩ := MpO.got f62 h70
   refine Op_.lenM 77 (.tmp 54) 55 3 35 38 0 p1 rfl fe0.za f73 Goes.v (by kernel_rfl) (by kernel_rfl) ?_
   refine Hn 3 J9e ?_
   exact Gk (W.z1z _ _ h _ _ hx _ _ _ _ _ p1 fx0 fx2 rfl fe0)

def J9k := Ys 1111111 B20 []

def L.z21 : Nat × Int × (List T55) × ByteArray × Int × Bool × Bool × Z → (Int × Z) → Prop := fun ⟨x0, x1, x2, x7, x8, x10, x12, e0⟩ r => ∀ S1 w1, Ext S0 w0 S1 w1 → ∀ gx0 Ax2 nx2 cx2 Ee0 (_ : Hp nz wz S1 w1 (PL Ee0 (Lr))) (_ : Pa 80 S1 x0 gx0) (_ : Rd kT55 S1 w1 Ax2 cx2 x2) (_ : x2.length = nx2) (_ : PS S1 w1 Ee0 e0) (junk : Nat → Value),
 Goes Tryz.prog (base 20) J9k ⟨lfr 104 [(0, (pt gx0 0)), (1, .u x1), (2, .slice Ax2 nx2 cx2), (7, .string x7), (8, .i x8), (10, .bool x10), (12, .bool x12)] junk, []⟩ w1 (Done Tryz.prog 20 (Rets (Post.z1s nz wz S0 w0 Lr r)))

theorem W.z21 {nz wz S0 w0 Lr} : ∀ a r, M.a39 a = some r → L.z21 nz wz S0 w0 Lr a r := by
 intro ⟨x0, x1, x2, x7, x8, x10, x12, e0⟩ r h S1 w1 hx gx0 Ax2 nx2 cx2 Ee0 p1 fx0 fx2 lx2 fe0 junk
 rw [M.a39] at h
 try dsimp only at h
 subst lx2
 refine Hn 6 (Yt 1111111000 B20 [2, 3, 4] J9h) ?_
 refine Hb [(10, .bool x10), (46, .bool x10), (47, .bool x10)] ?_
 refine Gi h (fun h54 h => ?_) fun h54 h => ?_
 ·
  rw [h54]
  refine Hn 4 J9h ?_
  exact Gk (W.z20 _ _ h _ _ hx _ _ _ _ _ p1 fx0 fx2 rfl fe0)
 ·
  rw [bf h54]
  refine Hn 4 J9h ?_
  exact Gk (W.z20 _ _ h _ _ hx _ _ _ _ _ p1 fx0 fx2 rfl fe0)

def J9m := Ys 111111 B20 []
def Q7m := Yq 1111110 B20

def L.z22 : Nat × Int × (List T55) × ByteArray × Int × Bool × Z → (Int × Z) → Prop := fun ⟨x0, x1, x2, x7, x8, x10, e0⟩ r => ∀ S1 w1, Ext S0 w0 S1 w1 → ∀ gx0 Ax2 nx2 cx2 Ee0 (_ : Hp nz wz S1 w1 (PL Ee0 (Lr))) (_ : Pa 80 S1 x0 gx0) (_ : Rd kT55 S1 w1 Ax2 cx2 x2) (_ : x2.length = nx2) (_ : PS S1 w1 Ee0 e0) (junk : Nat → Value),
 Goes Tryz.prog (base 20) J9m ⟨lfr 104 [(0, (pt gx0 0)), (1, .u x1), (2, .slice Ax2 nx2 cx2), (7, .string x7), (8, .i x8), (10, .bool x10)] junk, []⟩ w1 (Done Tryz.prog 20 (Rets (Post.z1s nz wz S0 w0 Lr r)))

theorem W.z22 {nz wz S0 w0 Lr} : ∀ a r, M.a3a a = some r → L.z22 nz wz S0 w0 Lr a r := by
 intro ⟨x0, x1, x2, x7, x8, x10, e0⟩ r h S1 w1 hx gx0 Ax2 nx2 cx2 Ee0 p1 fx0 fx2 lx2 fe0 junk
 rw [M.a3a] at h
 try dsimp only at h
 subst lx2
 refine Hn 5 (Zr Q7m [3, 4, 5, 6, 7, 8, 9, 10] J9k) ?_
 obtain ⟨ues, q34, l35, e36, f37⟩ := Pl.row p1 3 rfl fe0.zd fx0
 obtain ⟨_, _, rfl, q40, ⟨_, _, rfl, q43, q46⟩⟩ := q34
 obtain ⟨v38, rfl, f39⟩ := kMp_one (w := w1) q40
 obtain ⟨v41, rfl, f42⟩ := kMp_one (w := w1) q43
 obtain ⟨v44, rfl, f45⟩ := kMp_one (w := w1) q46
 refine Hd (f37 1 _ rfl) ?_
 refine Hn 1 (Zr Q7m [5, 6, 7, 8, 9, 10] J9k) ?_
 refine Gl h fun v53 h47 h => ?_
 rcases v53 with _ | y48
 ·
  try dsimp only at h
  obtain rfl := MpO.nil f42 h47
  refine Hn 7 J9k ?_
  exact Gk (W.z21 _ _ h _ _ hx _ _ _ _ _ p1 fx0 fx2 rfl fe0)
 ·
  try dsimp only at h
  obtain ⟨g49, rfl, f50⟩ := MpO.got f42 h47
  refine Op_.lkMk 78 (.tmp 40) (.tmp 41) 42 59 9 35 1 (.u 0) 0 x7 ((mget (gn e0.zb y48) x7).getD 0) p1 rfl fe0.zb f50 Goes.v (by kernel_rfl) (by kernel_rfl) (by kernel_rfl) (kok_str (by kernel_rfl)) (by kernel_rfl) rfl rfl fun v51 f52 => ?_
  obtain rfl := one_int f52
  refine Hn 6 J9k ?_
  exact Gk (W.z21 _ _ h _ _ hx _ _ _ _ _ p1 fx0 fx2 rfl fe0)

def J9p := Ys 111 B20 []
def J9q := Ys 1101 B20 J9p
def J9r := Yt 1100 B20 [1, 2] J9q
def J9u := Ys 11111 B20 []
def Q7u := Yq 111110 B20
def J9z := Ys 110101 B20 J9p

theorem W.z1s (x0 : Nat) (x1 : Int) (x2 : List T55) (pl : Z) (r : Int × Z) (h : M.a16 x0 x1 x2 pl = some r) {nz wz S0 w0 Lr} (gx0 Ax2 nx2 cx2 Epl) (p0 : Hp nz wz S0 w0 (PL Epl (Lr))) (fx0 : Pa 80 S0 x0 gx0) (fx2 : Rd kT55 S0 w0 Ax2 cx2 x2) (lx2 : x2.length = nx2) (fpl : PS S0 w0 Epl pl) :
  Calls Tryz.prog 20 #[(pt gx0 0), .u x1, .slice Ax2 nx2 cx2] w0 (Rets (Post.z1s nz wz S0 w0 Lr r)) := by
 subst lx2
 refine Zf Tryz.f20 B20 101 ?_
 refine Gj 104 [(0, (pt gx0 0)), (1, .u x1), (2, .slice Ax2 x2.length cx2)] fun junk => ?_
 delta M.a16 at h
 refine Hn 8 J9r ?_
 refine Gb h fun y1 e2 h => ?_
 refine Gc (kc 59 [16] #[24]) 17 4 59 _ (W.z1 x0 pl y1 e2 _ _ p0 fx0 fpl) ?_
 rintro _ w2 ⟨S2, rfl, z2, p2⟩
 refine Hn 2 J9q ?_
 refine Hb [(17, .bool y1), (18, .bool (!y1))] ?_
 refine Gi h (fun h3 h => ?_) fun h3 h => ?_
 ·
  rw [h3]
  refine Hn 5 (Yt 1110 B20 [1, 2, 3, 4, 5, 6] (Ys 1111 B20 [])) ?_
  refine Gb h fun y4 e5 h => ?_
  refine Gc (kc 65 [20] #[38]) 21 129 65 _ (W.zj x2 y4 e5 _ _ _ p2 (fx2.ext z2) rfl) ?_
  rintro _ w3 ⟨S3, rfl, z3, p3⟩
  refine Hn 12 (Ys 111101 B20 J9u) ?_
  refine Hb [(25, .bool (!(decide (y4.2 = 0))))] ?_
  refine Gi h (fun h6 h => ?_) fun h6 h => ?_
  ·
   rw [dt h6]
   refine Hn 7 (Zr Q7u [3, 4, 5, 6, 7, 8, 9, 10] J9m) ?_
   obtain ⟨cs7, q8, l9, e10, f11⟩ := Pl.row p3 3 rfl (fpl.zd.ext (z2.t z3)) (fx0.ext (z2.t z3))
   obtain ⟨_, _, rfl, q14, ⟨_, _, rfl, q17, q20⟩⟩ := q8
   obtain ⟨v12, rfl, f13⟩ := kMp_one (w := w3) q14
   obtain ⟨v15, rfl, f16⟩ := kMp_one (w := w3) q17
   obtain ⟨v18, rfl, f19⟩ := kMp_one (w := w3) q20
   refine Hd (f11 0 _ rfl) ?_
   refine Hn 1 (Zr Q7u [5, 6, 7, 8, 9, 10] J9m) ?_
   refine Gl h fun v32 h21 h => ?_
   rcases v32 with _ | y22
   ·
    try dsimp only at h
    obtain rfl := MpO.nil f13 h21
    refine Hn 7 J9m ?_
    exact Gk (W.z22 _ _ h _ _ (z2.t z3) _ _ _ _ _ p3 (fx0.ext (z2.t z3)) (fx2.ext (z2.t z3)) rfl (fpl.ext (z2.t z3)))
   ·
    try dsimp only at h
    obtain ⟨g23, rfl, f24⟩ := MpO.got f13 h21
    refine Gl h fun v25 e26 h => ?_
    refine Op_.lkMk 77 (.tmp 31) (.tmp 32) 33 57 35 38 0 (.slice none 0 0) ([] : List T55) x1 v25 p3 rfl (fpl.za.ext (z2.t z3)) f24 Goes.v (by kernel_rfl) (by kernel_rfl) (by kernel_rfl) (kok_int (by kernel_rfl)) (by kernel_rfl) ⟨none, 0, rfl, Rd.none_⟩ e26 fun v27 f28 => ?_
    obtain ⟨A29, c30, rfl, f31⟩ := one_sl f28
    refine Hn 6 J9m ?_
    exact Gk (W.z22 _ _ h _ _ (z2.t z3) _ _ _ _ _ p3 (fx0.ext (z2.t z3)) (fx2.ext (z2.t z3)) rfl (fpl.ext (z2.t z3)))
  ·
   rw [df h6]
   refine Hn 6 (Ys 11110101 B20 J9u) ?_
   obtain rfl := sj h
   exact Hr Tryz.f20 ⟨_, _, rfl, (z2.t z3), p3, (fpl.ext (z2.t z3))⟩
 ·
  rw [bf h3]
  refine Hn 5 J9z ?_
  obtain rfl := sj h
  exact Hr Tryz.f20 ⟨_, _, rfl, z2, p2, (fpl.ext z2)⟩

def Ja0 := Ys 111 B63 []
def Ja1 := Ys 1101 B63 Ja0
def Q7z := Yq 1100 B63
def Ja2 := Zr Q7z [1, 2, 3, 4, 5, 6, 7, 8, 9, 10] Ja1
def Ja6 := Ys 1111 B63 []
def Ja7 := Yt 1110 B63 [0, 1] Ja6
def Ja8 := Ys 110101 B63 Ja0
def Q83 := Yq 110100 B63

def Post.z23 (r : (Option Nat) × Z) (v : Value) (w' : World) : Prop :=
 ∃ S' vq Ee0, v = vq ∧ Ext S0 w0 S' w' ∧ Hp nz wz S' w' (PL Ee0 (Lr)) ∧ PpO 126 S' vq r.1 ∧ PS S' w' Ee0 r.2

theorem W.z23 (x0 : Nat) (x1 : ByteArray) (pl : Z) (r : (Option Nat) × Z) (h : M.a12 x0 x1 pl = some r) {nz wz S0 w0 Lr} (gx0 Epl) (p0 : Hp nz wz S0 w0 (PL Epl (Lr))) (fx0 : Pa 80 S0 x0 gx0) (fpl : PS S0 w0 Epl pl) :
  Calls Tryz.prog 63 #[(pt gx0 0), .string x1] w0 (Rets (Post.z23 nz wz S0 w0 Lr r)) := by
 refine Zf Tryz.f63 B63 21 ?_
 refine Gj 23 [(0, (pt gx0 0)), (1, .string x1)] fun junk => ?_
 delta M.a12 at h
 refine Hn 8 Ja2 ?_
 refine Gb h fun y1 e2 h => ?_
 refine Gc (kc 59 [5] #[24]) 6 4 59 _ (W.z1 x0 pl y1 e2 _ _ p0 fx0 fpl) ?_
 rintro _ w2 ⟨S2, rfl, z2, p2⟩
 refine Hn 1 (Zr Q7z [3, 4, 5, 6, 7, 8, 9, 10] Ja1) ?_
 refine Hb [(6, .bool y1), (7, .bool y1)] ?_
 refine Gi h (fun h3 h => ?_) fun h3 h => ?_
 ·
  rw [h3]
  refine Hn 3 (Zr Q7z [6, 7, 8, 9, 10] Ja1) ?_
  obtain ⟨cs4, q5, l6, e7, f8⟩ := Pl.row p2 3 rfl (fpl.zd.ext z2) (fx0.ext z2)
  obtain ⟨_, _, rfl, q11, ⟨_, _, rfl, q14, q17⟩⟩ := q5
  obtain ⟨v9, rfl, f10⟩ := kMp_one (w := w2) q11
  obtain ⟨v12, rfl, f13⟩ := kMp_one (w := w2) q14
  obtain ⟨v15, rfl, f16⟩ := kMp_one (w := w2) q17
  refine Hd (f8 2 _ rfl) ?_
  refine Hn 1 (Zr Q7z [8, 9, 10] Ja1) ?_
  refine Gl h fun v60 h18 h => ?_
  rcases v60 with _ | y19
  ·
   try dsimp only at h
   obtain rfl := MpO.nil f16 h18
   refine Hn 8 Ja7 ?_
   refine Gb h fun y22 e23 h => ?_
   refine Gc (kc 67 [] #[]) 22 119 67 _ (W.zm pl y22 e23 _ p2 (fpl.ext z2)) ?_
   rintro _ w3 ⟨S3, uet, ueu, rfl, z3, p3, u1h, uev⟩
   refine Hn 2 Ja6 ?_
   obtain rfl := sj h
   exact Hr Tryz.f63 ⟨_, _, _, rfl, (z2.t z3), p3, (PpO.mk u1h), uev⟩
  ·
   try dsimp only at h
   obtain ⟨g20, rfl, f21⟩ := MpO.got f16 h18
   refine Gl h fun v24 e25 h => ?_
   refine Op_.lkM 79 (.tmp 11) (.tmp 12) 13 119 9 119 2 (.pointer none) (none : Option Nat) x1 v24 p2 rfl (fpl.zc.ext z2) f21 Goes.v (by kernel_rfl) (by kernel_rfl) (by kernel_rfl) (kok_str (by kernel_rfl)) (by kernel_rfl) (show (kPp 126).rep S2 w2 [.pointer none] none from (PpO.none 126 S2)) e25 fun v26 f27 => ?_
   have f28 := one_pp f27
   refine Gl h fun v59 h29 h => ?_
   rcases v59 with _ | y30
   ·
    try dsimp only at h
    obtain rfl := PpO.nil f28 h29
    refine Hn 7 Ja7 ?_
    refine Gb h fun y33 e34 h => ?_
    refine Gc (kc 67 [] #[]) 22 119 67 _ (W.zm pl y33 e34 _ p2 (fpl.ext z2)) ?_
    rintro _ w4 ⟨S4, uew, uex, rfl, z4, p4, uey, uez⟩
    refine Hn 2 Ja6 ?_
    obtain rfl := sj h
    exact Hr Tryz.f63 ⟨_, _, _, rfl, (z2.t z4), p4, (PpO.mk uey), uez⟩
   ·
    try dsimp only at h
    obtain ⟨g31, rfl, f32⟩ := PpO.got f28 h29
    refine Hn 9 (Zr Q83 [3, 4, 5, 6] Ja8) ?_
    obtain ⟨uf0, q36, l37, e38, f39⟩ := Pl.row p2 3 rfl (fpl.zd.ext z2) (fx0.ext z2)
    obtain ⟨_, _, rfl, q42, ⟨_, _, rfl, q45, q48⟩⟩ := q36
    obtain ⟨v40, rfl, f41⟩ := kMp_one (w := w2) q42
    obtain ⟨v43, rfl, f44⟩ := kMp_one (w := w2) q45
    obtain ⟨v46, rfl, f47⟩ := kMp_one (w := w2) q48
    refine Hd (f39 2 _ rfl) ?_
    refine Hn 1 (Zr Q83 [5, 6] Ja8) ?_
    refine Gl h fun v58 h49 h => ?_
    rcases v58 with _ | y50
    ·
     try dsimp only at h
     obtain rfl := MpO.nil f47 h49
     refine Hn 3 Ja8 ?_
     obtain rfl := sj h
     exact Hr Tryz.f63 ⟨_, _, _, rfl, z2, p2, (PpO.none 126 S2), (fpl.ext z2)⟩
    ·
     try dsimp only at h
     obtain ⟨g51, rfl, f52⟩ := MpO.got f47 h49
     refine Gl h fun v53 e54 h => ?_
     refine Op_.lkM 79 (.tmp 19) (.tmp 20) 21 119 9 119 2 (.pointer none) (none : Option Nat) x1 v53 p2 rfl (fpl.zc.ext z2) f52 Goes.v (by kernel_rfl) (by kernel_rfl) (by kernel_rfl) (kok_str (by kernel_rfl)) (by kernel_rfl) (show (kPp 126).rep S2 w2 [.pointer none] none from (PpO.none 126 S2)) e54 fun v55 f56 => ?_
     have f57 := one_pp f56
     refine Hn 2 Ja8 ?_
     obtain rfl := sj h
     exact Hr Tryz.f63 ⟨_, _, _, rfl, z2, p2, f57, (fpl.ext z2)⟩
 ·
  rw [bf h3]
  refine Hn 13 Ja7 ?_
  refine Gb h fun y61 e62 h => ?_
  refine Gc (kc 67 [] #[]) 22 119 67 _ (W.zm pl y61 e62 _ p2 (fpl.ext z2)) ?_
  rintro _ w5 ⟨S5, u1n, u1o, rfl, z5, p5, u1p, u1q⟩
  refine Hn 2 Ja6 ?_
  obtain rfl := sj h
  exact Hr Tryz.f63 ⟨_, _, _, rfl, (z2.t z5), p5, (PpO.mk u1p), u1q⟩

def Jac := Yt 10 B80 [0, 1] (Ys 11 B80 [])
def Jad := Ys 111 B80 []

def Post.z24 (Epl : ZE) (pl : Z) (r : Unit) (v : Value) (w' : World) : Prop :=
 ∃ S' u1r, v = .func (.func 139) #[] #[(pt u1r 0)] ∧ Ext S0 w0 S' w' ∧ Hp nz wz S' w' ((some u1r, .row 77 [.map none] 1 0) :: PL Epl (Lr))

theorem W.z24 (pl : Z) (r : Unit) (h : M.a5j pl = some r) {nz wz S0 w0 Lr} (Epl) (p0 : Hp nz wz S0 w0 (PL Epl (Lr))) (fpl : PS S0 w0 Epl pl) :
  Calls Tryz.prog 80 #[.map none] w0 (Rets (Post.z24 nz wz S0 w0 Lr Epl pl r)) := by
 refine Zf Tryz.f80 B80 3 ?_
 refine Gj 4 [(0, .map none)] fun junk => ?_
 delta M.a5j at h
 refine Hn 2 Jac ?_
 refine Ob 77 (.tmp 0) 1 0 (.map none) [.map none] p0 Goes.v fun b1 w2 z2 p2 => ?_
 refine Hn 7 Jad ?_
 obtain rfl := sj h
 exact Hr Tryz.f80 ⟨_, _, rfl, z2, p2⟩

def Q87 := Yq 1100 B139
def Jae := Zl Q87 J3k
def Jaf := Zc Q87 Jae
def Jah := Yt 11000 B139 [0, 1] (Ys 11001 B139 Jae)
def Q8a := Yq 11010 B192

def Post.z25 (lx0 : Nat) (rx0 : Nat) (u27 : Nat → Value) (u28 : Nat) (u2m : Option Nat) (u2n : Nat) (u2o : Nat) (u2p : List Value) (u29 : Nat) (Epl : ZE) (u2l : List Int) (pl : Z) (r : Unit) (v : Value) (w' : World) : Prop :=
 ∃ S', v = .tuple #[] ∧ Ext S0 w0 S' w' ∧ Hp nz wz S' w' ((some lx0, .obj (lpst 192 (lfr 13 [(2, (pt u28 0)), (6, .func (.func 139) #[] #[(pt u29 0)])] u27) #[7] (rfAssign (Q8a)) (rfBody (Q8a)) rx0 .ready none)) :: (some u28, .row 31 [.slice (Gp u2m) u2n u2o] 1 0) :: (u2m, .row 35 u2p (u2o * (kInt .u64).size) 0) :: (some u29, .row 77 [.map none] 1 0) :: PL Epl (Lr))

def L.z26 (lx0 : Nat) (rx0 : Nat) (u27 : Nat → Value) (u28 : Nat) (u2m : Option Nat) (u2n : Nat) (u2o : Nat) (u2p : List Value) (u29 : Nat) (Epl : ZE) : (List Int) × Z → Unit → Prop := fun ⟨u2l, pl⟩ r => ∀ S1 w1, Ext S0 w0 S1 w1 → ∀ gx5 (_ : Hp nz wz S1 w1 ((some gx5, .obj (.mapIter none 0 #[] 0)) :: (some lx0, .obj (lpst 192 (lfr 13 [(2, (pt u28 0)), (6, .func (.func 139) #[] #[(pt u29 0)])] u27) #[7] (rfAssign (Q8a)) (rfBody (Q8a)) rx0 .ready none)) :: (some u28, .row 31 [.slice (Gp u2m) u2n u2o] 1 0) :: (u2m, .row 35 u2p (u2o * (kInt .u64).size) 0) :: (some u29, .row 77 [.map none] 1 0) :: PL Epl (Lr))) (_ : Els (kInt .u64) S1 w1 u2p u2l) (_ : u2l.length = u2n) (_ : PS S1 w1 Epl pl) (junk : Nat → Value),
 Goes Tryz.prog (base 139) Jaf ⟨lfr 14 [(0, yieldV lx0), (5, (pt gx5 0))] junk, []⟩ w1 (Done Tryz.prog 139 (Rets (Post.z25 nz wz S0 w0 Lr lx0 rx0 u27 u28 u2m u2n u2o u2p u29 Epl u2l pl r)))

theorem W.z26 {nz wz S0 w0 Lr} (lx0 : Nat) (rx0 : Nat) (u27 : Nat → Value) (u28 : Nat) (u2m : Option Nat) (u2n : Nat) (u2o : Nat) (u2p : List Value) (u29 : Nat) (Epl : ZE) : ∀ a r, M.a74 a = some r → L.z26 nz wz S0 w0 Lr lx0 rx0 u27 u28 u2m u2n u2o u2p u29 Epl a r := by
 intro ⟨u2l, pl⟩ r h S1 w1 hx gx5 p1 fs0 ls0 fs2 junk
 rw [M.a74] at h
 try dsimp only at h
 subst ls0
 refine Hn 2 Jah ?_
 refine Op_.nxN (.tmp 5) 6 0 0 gx5 p1 rfl Goes.v (by kernel_rfl) ?_
 refine Hn 5 [] ?_
 obtain rfl := sj h
 have p1 := p1.dp 0
 exact Goes.end_ (fn := Tryz.f139) (by kernel_rfl) (v := .tuple #[]) (by kernel_rfl) ⟨S1, rfl, hx, p1⟩

def Jaj := Yt 10 B139 [0, 1] (Ys 11 B139 [])

theorem W.z25 (u2l : List Int) (pl : Z) (r : Unit) (h : M.a75 u2l pl = some r) {nz wz S0 w0 Lr} (lx0 rx0 u27 u28 u2m u2n u2o u2p u29 Epl) (p0 : Hp nz wz S0 w0 ((some lx0, .obj (lpst 192 (lfr 13 [(2, (pt u28 0)), (6, .func (.func 139) #[] #[(pt u29 0)])] u27) #[7] (rfAssign (Q8a)) (rfBody (Q8a)) rx0 .ready none)) :: (some u28, .row 31 [.slice (Gp u2m) u2n u2o] 1 0) :: (u2m, .row 35 u2p (u2o * (kInt .u64).size) 0) :: (some u29, .row 77 [.map none] 1 0) :: PL Epl (Lr))) (u2q : Els (kInt .u64) S0 w0 u2p u2l) (u2r : u2l.length = u2n) (fpl : PS S0 w0 Epl pl) :
  Calls Tryz.prog 139 #[yieldV lx0, (pt u29 0)] w0 (Rets (Post.z25 nz wz S0 w0 Lr lx0 rx0 u27 u28 u2m u2n u2o u2p u29 Epl u2l pl r)) := by
 subst u2r
 refine Zf Tryz.f139 B139 12 ?_
 refine Gj 14 [(0, yieldV lx0), (1, (pt u29 0))] fun junk => ?_
 delta M.a75 at h
 refine Hn 2 Jaj ?_
 refine Hd (p0.e 3 0) ?_
 refine Op_.rgN 77 (.tmp 4) 5 0 35 38 p0 Goes.v (by kernel_rfl) (by kernel_rfl) fun r5 w2 z2 p2 => ?_
 refine Hn 3 Jaf ?_
 exact Gk (W.z26 lx0 rx0 u27 u28 u2m u2l.length u2o u2p u29 Epl _ _ h _ _ z2 _ p2 (u2q.ext z2) rfl (fpl.ext z2))

def Jal := Yt 10 B192 [0, 1] (Ys 11 B192 [])
def Jan := Zb 0 (Ys 111 B192 [])
def Jao := Zc Q8a Jan
def Jap := Ys 1111 B192 []
def Jaq := Yt 1110 B192 [0, 1] Jap

def Post.z27 (u2s : Nat) (Epl : ZE) (pl : Z) (r : List Int) (v : Value) (w' : World) : Prop :=
 ∃ S' Gq nq cq csq, v = .slice (Gp Gq) nq cq ∧ Ext S0 w0 S' w' ∧ Hp nz wz S' w' ((Gq, .row 35 csq (cq * (kInt .u64).size) 0) :: (some u2s, .row 77 [.map none] 1 0) :: PL Epl (Lr)) ∧ Els (kInt .u64) S' w' csq r ∧ r.length = nq

theorem W.z27 (pl : Z) (r : List Int) (h : M.a76 pl = some r) {nz wz S0 w0 Lr} (u2s Epl) (p0 : Hp nz wz S0 w0 ((some u2s, .row 77 [.map none] 1 0) :: PL Epl (Lr))) (fpl : PS S0 w0 Epl pl) :
  Calls Tryz.prog 192 #[.slice none 0 0, .func (.func 139) #[] #[(pt u2s 0)]] w0 (Rets (Post.z27 nz wz S0 w0 Lr u2s Epl pl r)) := by
 refine Zf Tryz.f192 B192 11 ?_
 refine Gj 13 [(0, .slice none 0 0), (1, .func (.func 139) #[] #[(pt u2s 0)])] fun junk => ?_
 delta M.a76 at h
 refine Hn 2 Jal ?_
 refine Ob 31 (.tmp 0) 2 0 (.slice none 0 0) [.slice none 0 0] p0 Goes.v fun b2 w2 z2 p2 => ?_
 refine Hn 8 Jao ?_
 refine Gj 13 [(2, (pt b2 0)), (6, .func (.func 139) #[] #[(pt u2s 0)])] (fun u2u => ?_)
 refine Goes.rangeF (f := 192) (.tmp 6) #[7] 139 #[] #[(pt u2s 0)] (by kernel_rfl) (by kernel_rfl) (fun _ => by kernel_rfl) p2 fun r5 l6 w3 z3 p3 => ?_
 have p3 : Hp nz wz S0 w3 ((none, .row 35 [] (0 * (kInt .u64).size) 0) :: (some l6, .obj (lpst 192 (lfr 13 [(2, (pt b2 0)), (6, .func (.func 139) #[] #[(pt u2s 0)])] u2u) #[7] (rfAssign (Q8a)) (rfBody (Q8a)) r5 .ready none)) :: (some r5, .obj (.deferred (some []))) :: (some b2, .row 31 [.slice none 0 0] 1 0) :: (some u2s, .row 77 [.map none] 1 0) :: PL Epl (Lr)) := p3.nilRow' 35
 have p3 := p3.rt 5 10
 have p3 := (((p3.fr 14).fr 11).fr 14).fr 13
 refine Gb h fun y10 e11 h => ?_
 refine ⟨_, W.z25 ([] : List Int) pl y10 e11 _ _ _ _ none 0 0 [] _ _ p3 (Els.nil (K := (kInt .u64))) rfl (fpl.ext (z2.t z3)), ?_⟩
 rintro _ w4 ⟨S4, rfl, z4, p4⟩
 refine Goes.endF 0 p4 rfl rfl fun w5 z5 p5 => ?_
 replace p5 : Hp nz wz S4 w5 ((some b2, .row 31 [.slice (Gp none) 0 0] 1 0) :: (none, .row 35 [] (0 * (kInt .u64).size) 0) :: (some u2s, .row 77 [.map none] 1 0) :: PL Epl ((some r5, .obj (.deferred (some []))) :: Lr)) := (p5.front 0 _ rfl).drop
 show Goes _ _ Jan _ _ _
 refine Hn 3 Jaq ?_
 refine Hd (p5.e 0 0) ?_
 refine Hn 2 Jap ?_
 obtain rfl := sj h
 have p5 := p5.dp 0
 have p5 := p5.fr 12
 refine Goes.retL ?_
 refine lvs_mark 0 rfl rfl p5 rfl fun w6 z6 p6 => ?_
 replace p6 : Hp nz wz S4 w6 ((none, .row 35 [] (0 * (kInt .u64).size) 0) :: (some u2s, .row 77 [.map none] 1 0) :: PL Epl (Lr)) := p6.drop
 exact lvs_done (fn := Tryz.f192) rfl rfl rfl rfl (by kernel_rfl) (v := .slice (Gp none) 0 0) (by kernel_rfl) ⟨S4, none, 0, 0, [], rfl, ((((z2.t z3).t z4).t z5).t z6), p6, (Els.nil (K := (kInt .u64))), rfl⟩

def Jar := Ys 111 B137 []
def Jas := Yt 110 B137 [1, 2] Jar

def Post.z28 (u30 : Nat) (Epl : ZE) (pl : Z) (r : List Int) (v : Value) (w' : World) : Prop :=
 ∃ S' Gq nq cq csq, v = .slice (Gp Gq) nq cq ∧ Ext S0 w0 S' w' ∧ Hp nz wz S' w' ((Gq, .row 35 csq (cq * (kInt .u64).size) 0) :: (some u30, .row 77 [.map none] 1 0) :: PL Epl (Lr)) ∧ Els (kInt .u64) S' w' csq r ∧ r.length = nq

theorem W.z28 (pl : Z) (r : List Int) (h : M.a5i pl = some r) {nz wz S0 w0 Lr} (u30 Epl) (p0 : Hp nz wz S0 w0 ((some u30, .row 77 [.map none] 1 0) :: PL Epl (Lr))) (fpl : PS S0 w0 Epl pl) :
  Calls Tryz.prog 137 #[.func (.func 139) #[] #[(pt u30 0)]] w0 (Rets (Post.z28 nz wz S0 w0 Lr u30 Epl pl r)) := by
 refine Zf Tryz.f137 B137 4 ?_
 refine Gj 5 [(0, .func (.func 139) #[] #[(pt u30 0)])] fun junk => ?_
 delta M.a5i at h
 refine Hn 7 Jas ?_
 refine Gb h fun y2 e3 h => ?_
 refine Gc (.call { callee := .value (.func 192), args := #[(.const (.slice none 0 0)), (.tmp 3)], argTypes := #[31, 141] }) 4 31 192 _ (W.z27 pl y2 e3 _ _ p0 fpl) ?_
 rintro _ w2 ⟨S2, ul, um, un, uo, rfl, z2, p2, up, rfl⟩
 refine Hn 2 Jar ?_
 obtain rfl := sj h
 exact Hr Tryz.f137 ⟨_, _, _, _, _, rfl, z2, p2, up, rfl⟩

def Jat := Ys 1111 B221 []
def Jaw := Ys 111111 B221 []
def Q8o := Yq 111110 B221
def Jay := Zr Q8o [3, 4, 5, 6] Jaw

def Post.z29 (r : Int) (v : Value) (w' : World) : Prop :=
 ∃ S', v = .i r ∧ Ext S0 w0 S' w' ∧ Hp nz wz S' w' (Lr)

def L.z2a : Int × Int → Int → Prop := fun ⟨x0, x2⟩ r => ∀ S1 w1, Ext S0 w0 S1 w1 → ∀ (_ : Hp nz wz S1 w1 (Lr)) (junk : Nat → Value),
 Goes Tryz.prog (base 221) Jat ⟨lfr 25 [(0, .u x0), (2, .i x2)] junk, []⟩ w1 (Done Tryz.prog 221 (Rets (Post.z29 nz wz S0 w0 Lr r)))

theorem W.z2a {nz wz S0 w0 Lr} : ∀ a r, M.a13 a = some r → L.z2a nz wz S0 w0 Lr a r := by
 intro ⟨x0, x2⟩ r h S1 w1 hx p1 junk
 rw [M.a13] at h
 try dsimp only at h
 refine Hn 6 (Ys 111101 B221 (Ys 11111 B221 [])) ?_
 refine Hb [(14, .bool (decide (x0 ≥ 256)))] ?_
 refine Gi h (fun h3 h => ?_) fun h3 h => ?_
 ·
  rw [dt h3]
  refine Hn 14 (Zr Q8o [0, 1, 2, 3, 4, 5, 6] Jaw) ?_
  refine Hn 3 Jay ?_
  refine Gg h fun g4 h => ?_
  refine Gg h fun g5 h => ?_
  refine Op_.ixS 9 (.const (.string ⟨#[0, 1, 2, 2, 3, 3, 3, 3, 4, 4, 4, 4, 4, 4, 4, 4, 5, 5, 5, 5, 5, 5, 5, 5, 5, 5, 5, 5, 5, 5, 5, 5, 6, 6, 6, 6, 6, 6, 6, 6, 6, 6, 6, 6, 6, 6, 6, 6, 6, 6, 6, 6, 6, 6, 6, 6, 6, 6, 6, 6, 6, 6, 6, 6, 7, 7, 7, 7, 7, 7, 7, 7, 7, 7, 7, 7, 7, 7, 7, 7, 7, 7, 7, 7, 7, 7, 7, 7, 7, 7, 7, 7, 7, 7, 7, 7, 7, 7, 7, 7, 7, 7, 7, 7, 7, 7, 7, 7, 7, 7, 7, 7, 7, 7, 7, 7, 7, 7, 7, 7, 7, 7, 7, 7, 7, 7, 7, 7, 8, 8, 8, 8, 8, 8, 8, 8, 8, 8, 8, 8, 8, 8, 8, 8, 8, 8, 8, 8, 8, 8, 8, 8, 8, 8, 8, 8, 8, 8, 8, 8, 8, 8, 8, 8, 8, 8, 8, 8, 8, 8, 8, 8, 8, 8, 8, 8, 8, 8, 8, 8, 8, 8, 8, 8, 8, 8, 8, 8, 8, 8, 8, 8, 8, 8, 8, 8, 8, 8, 8, 8, 8, 8, 8, 8, 8, 8, 8, 8, 8, 8, 8, 8, 8, 8, 8, 8, 8, 8, 8, 8, 8, 8, 8, 8, 8, 8, 8, 8, 8, 8, 8, 8, 8, 8, 8, 8, 8, 8, 8, 8, 8, 8, 8, 8, 8, 8, 8, 8, 8, 8, 8, 8, 8, 8, 8, 8]⟩)) (.tmp 21) 22 5 .u8 (⟨#[0, 1, 2, 2, 3, 3, 3, 3, 4, 4, 4, 4, 4, 4, 4, 4, 5, 5, 5, 5, 5, 5, 5, 5, 5, 5, 5, 5, 5, 5, 5, 5, 6, 6, 6, 6, 6, 6, 6, 6, 6, 6, 6, 6, 6, 6, 6, 6, 6, 6, 6, 6, 6, 6, 6, 6, 6, 6, 6, 6, 6, 6, 6, 6, 7, 7, 7, 7, 7, 7, 7, 7, 7, 7, 7, 7, 7, 7, 7, 7, 7, 7, 7, 7, 7, 7, 7, 7, 7, 7, 7, 7, 7, 7, 7, 7, 7, 7, 7, 7, 7, 7, 7, 7, 7, 7, 7, 7, 7, 7, 7, 7, 7, 7, 7, 7, 7, 7, 7, 7, 7, 7, 7, 7, 7, 7, 7, 7, 8, 8, 8, 8, 8, 8, 8, 8, 8, 8, 8, 8, 8, 8, 8, 8, 8, 8, 8, 8, 8, 8, 8, 8, 8, 8, 8, 8, 8, 8, 8, 8, 8, 8, 8, 8, 8, 8, 8, 8, 8, 8, 8, 8, 8, 8, 8, 8, 8, 8, 8, 8, 8, 8, 8, 8, 8, 8, 8, 8, 8, 8, 8, 8, 8, 8, 8, 8, 8, 8, 8, 8, 8, 8, 8, 8, 8, 8, 8, 8, 8, 8, 8, 8, 8, 8, 8, 8, 8, 8, 8, 8, 8, 8, 8, 8, 8, 8, 8, 8, 8, 8, 8, 8, 8, 8, 8, 8, 8, 8, 8, 8, 8, 8, 8, 8, 8, 8, 8, 8, 8, 8, 8, 8, 8, 8, 8, 8]⟩ : ByteArray) (wr .u8 (ishr .u64 x0 8)) Goes.v (by kernel_rfl) (by kernel_rfl) (by kernel_rfl) g4 g5 ?_
  refine Hn 4 Jaw ?_
  obtain rfl := sj h
  exact Hr Tryz.f221 ⟨_, rfl, hx, p1⟩
 ·
  rw [df h3]
  refine Hn 7 Jay ?_
  refine Gg h fun g6 h => ?_
  refine Gg h fun g7 h => ?_
  refine Op_.ixS 9 (.const (.string ⟨#[0, 1, 2, 2, 3, 3, 3, 3, 4, 4, 4, 4, 4, 4, 4, 4, 5, 5, 5, 5, 5, 5, 5, 5, 5, 5, 5, 5, 5, 5, 5, 5, 6, 6, 6, 6, 6, 6, 6, 6, 6, 6, 6, 6, 6, 6, 6, 6, 6, 6, 6, 6, 6, 6, 6, 6, 6, 6, 6, 6, 6, 6, 6, 6, 7, 7, 7, 7, 7, 7, 7, 7, 7, 7, 7, 7, 7, 7, 7, 7, 7, 7, 7, 7, 7, 7, 7, 7, 7, 7, 7, 7, 7, 7, 7, 7, 7, 7, 7, 7, 7, 7, 7, 7, 7, 7, 7, 7, 7, 7, 7, 7, 7, 7, 7, 7, 7, 7, 7, 7, 7, 7, 7, 7, 7, 7, 7, 7, 8, 8, 8, 8, 8, 8, 8, 8, 8, 8, 8, 8, 8, 8, 8, 8, 8, 8, 8, 8, 8, 8, 8, 8, 8, 8, 8, 8, 8, 8, 8, 8, 8, 8, 8, 8, 8, 8, 8, 8, 8, 8, 8, 8, 8, 8, 8, 8, 8, 8, 8, 8, 8, 8, 8, 8, 8, 8, 8, 8, 8, 8, 8, 8, 8, 8, 8, 8, 8, 8, 8, 8, 8, 8, 8, 8, 8, 8, 8, 8, 8, 8, 8, 8, 8, 8, 8, 8, 8, 8, 8, 8, 8, 8, 8, 8, 8, 8, 8, 8, 8, 8, 8, 8, 8, 8, 8, 8, 8, 8, 8, 8, 8, 8, 8, 8, 8, 8, 8, 8, 8, 8, 8, 8, 8, 8, 8, 8]⟩)) (.tmp 21) 22 5 .u8 (⟨#[0, 1, 2, 2, 3, 3, 3, 3, 4, 4, 4, 4, 4, 4, 4, 4, 5, 5, 5, 5, 5, 5, 5, 5, 5, 5, 5, 5, 5, 5, 5, 5, 6, 6, 6, 6, 6, 6, 6, 6, 6, 6, 6, 6, 6, 6, 6, 6, 6, 6, 6, 6, 6, 6, 6, 6, 6, 6, 6, 6, 6, 6, 6, 6, 7, 7, 7, 7, 7, 7, 7, 7, 7, 7, 7, 7, 7, 7, 7, 7, 7, 7, 7, 7, 7, 7, 7, 7, 7, 7, 7, 7, 7, 7, 7, 7, 7, 7, 7, 7, 7, 7, 7, 7, 7, 7, 7, 7, 7, 7, 7, 7, 7, 7, 7, 7, 7, 7, 7, 7, 7, 7, 7, 7, 7, 7, 7, 7, 8, 8, 8, 8, 8, 8, 8, 8, 8, 8, 8, 8, 8, 8, 8, 8, 8, 8, 8, 8, 8, 8, 8, 8, 8, 8, 8, 8, 8, 8, 8, 8, 8, 8, 8, 8, 8, 8, 8, 8, 8, 8, 8, 8, 8, 8, 8, 8, 8, 8, 8, 8, 8, 8, 8, 8, 8, 8, 8, 8, 8, 8, 8, 8, 8, 8, 8, 8, 8, 8, 8, 8, 8, 8, 8, 8, 8, 8, 8, 8, 8, 8, 8, 8, 8, 8, 8, 8, 8, 8, 8, 8, 8, 8, 8, 8, 8, 8, 8, 8, 8, 8, 8, 8, 8, 8, 8, 8, 8, 8, 8, 8, 8, 8, 8, 8, 8, 8, 8, 8, 8, 8, 8, 8, 8, 8, 8, 8]⟩ : ByteArray) (wr .u8 x0) Goes.v (by kernel_rfl) (by kernel_rfl) (by kernel_rfl) g6 g7 ?_
  refine Hn 4 Jaw ?_
  obtain rfl := sj h
  exact Hr Tryz.f221 ⟨_, rfl, hx, p1⟩

def Jaz := Ys 111 B221 []

def L.z2b : Int × Int → Int → Prop := fun ⟨x0, x2⟩ r => ∀ S1 w1, Ext S0 w0 S1 w1 → ∀ (_ : Hp nz wz S1 w1 (Lr)) (junk : Nat → Value),
 Goes Tryz.prog (base 221) Jaz ⟨lfr 25 [(0, .u x0), (2, .i x2)] junk, []⟩ w1 (Done Tryz.prog 221 (Rets (Post.z29 nz wz S0 w0 Lr r)))

theorem W.z2b {nz wz S0 w0 Lr} : ∀ a r, M.a4r a = some r → L.z2b nz wz S0 w0 Lr a r := by
 intro ⟨x0, x2⟩ r h S1 w1 hx p1 junk
 rw [M.a4r] at h
 try dsimp only at h
 refine Hn 6 (Ys 11101 B221 Jat) ?_
 refine Hb [(8, .bool (decide (x0 ≥ 65536)))] ?_
 refine Gi h (fun h2 h => ?_) fun h2 h => ?_
 ·
  rw [dt h2]
  refine Hn 12 Jat ?_
  exact Gk (W.z2a _ _ h _ _ hx p1)
 ·
  rw [df h2]
  refine Hn 2 Jat ?_
  exact Gk (W.z2a _ _ h _ _ hx p1)


theorem W.z29 (x0 : Int) (r : Int) (h : M.a4s x0 = some r) {nz wz S0 w0 Lr} (p0 : Hp nz wz S0 w0 (Lr)) :
  Calls Tryz.prog 221 #[.u x0] w0 (Rets (Post.z29 nz wz S0 w0 Lr r)) := by
 refine Zf Tryz.f221 B221 24 ?_
 refine Gj 25 [(0, .u x0)] fun junk => ?_
 delta M.a4s at h
 refine Hn 10 (Ys 1101 B221 Jaz) ?_
 refine Hb [(4, .bool (decide (x0 ≥ 4294967296)))] ?_
 refine Gi h (fun h1 h => ?_) fun h1 h => ?_
 ·
  rw [dt h1]
  refine Hn 10 Jaz ?_
  exact Gk (W.z2b _ _ h _ _ (Ext.refl S0 w0) p0)
 ·
  rw [df h1]
  refine Hn 2 Jaz ?_
  exact Gk (W.z2b _ _ h _ _ (Ext.refl S0 w0) p0)

def Jb2 := Ys 1111 B176 []

def Post.z2c (r : Int) (v : Value) (w' : World) : Prop :=
 ∃ S', v = .i r ∧ Ext S0 w0 S' w' ∧ Hp nz wz S' w' (Lr)

theorem W.z2c (x0 : Int) (r : Int) (h : M.a3e x0 = some r) {nz wz S0 w0 Lr} (p0 : Hp nz wz S0 w0 (Lr)) :
  Calls Tryz.prog 176 #[.u x0] w0 (Rets (Post.z2c nz wz S0 w0 Lr r)) := by
 refine Zf Tryz.f176 B176 7 ?_
 refine Gj 8 [(0, .u x0)] fun junk => ?_
 delta M.a3e at h
 refine Hn 10 (Yt 1110 B176 [1, 2] Jb2) ?_
 refine Gb h fun y1 e2 h => ?_
 refine Gc (kc 221 [6] #[35]) 7 3 221 _ (W.z29 x0 y1 e2  p0 ) ?_
 rintro _ w2 ⟨S2, rfl, z2, p2⟩
 refine Hn 2 Jb2 ?_
 obtain rfl := sj h
 exact Hr Tryz.f176 ⟨_, rfl, z2, p2⟩


def Post.z2d (r : Bool) (v : Value) (w' : World) : Prop :=
 ∃ S', v = .bool r ∧ Ext S0 w0 S' w' ∧ Hp nz wz S' w' (Lr)

theorem W.z2d (x0 : Int) (r : Bool) (h : M.a4t x0 = some r) {nz wz S0 w0 Lr} (p0 : Hp nz wz S0 w0 (Lr)) :
  Calls Tryz.prog 203 #[.u x0] w0 (Rets (Post.z2d nz wz S0 w0 Lr r)) := by
 refine Zf Tryz.f203 B203 5 ?_
 refine Gj 6 [(0, .u x0)] fun junk => ?_
 delta M.a4t at h
 refine Hn 11 (Ys 111 B203 []) ?_
 obtain rfl := sj h
 exact Hr Tryz.f203 ⟨_, rfl, (Ext.refl S0 w0), p0⟩

def Jb5 := Ys 111 B157 []
def Q8w := Yq 110 B157

def Post.z2e (r : Bool) (v : Value) (w' : World) : Prop :=
 ∃ S', v = .bool r ∧ Ext S0 w0 S' w' ∧ Hp nz wz S' w' (Lr)

theorem W.z2e (x0 : Int) (x1 : Int) (r : Bool) (h : M.a0 x0 x1 = some r) {nz wz S0 w0 Lr} (p0 : Hp nz wz S0 w0 (Lr)) :
  Calls Tryz.prog 157 #[.u x0, .u x1] w0 (Rets (Post.z2e nz wz S0 w0 Lr r)) := by
 refine Zf Tryz.f157 B157 15 ?_
 refine Gj 17 [(0, .u x0), (1, .u x1)] fun junk => ?_
 delta M.a0 at h
 refine Hn 7 (Zr Q8w [1, 2, 3, 4, 5, 6, 7, 8, 9, 10, 11, 12] Jb5) ?_
 refine Gb h fun y1 e2 h => ?_
 refine Gc (kc 203 [5] #[35]) 6 4 203 _ (W.z2d x0 y1 e2  p0 ) ?_
 rintro _ w2 ⟨S2, rfl, z2, p2⟩
 refine Hn 1 (Zr Q8w [3, 4, 5, 6, 7, 8, 9, 10, 11, 12] Jb5) ?_
 refine Hb [(6, .bool y1), (7, .bool y1)] ?_
 refine Gi h (fun h3 h => ?_) fun h3 h => ?_
 ·
  rw [h3]
  refine Hn 1 (Zr Q8w [4, 5, 6, 7, 8, 9, 10, 11, 12] Jb5) ?_
  refine Gb h fun y4 e5 h => ?_
  refine Gc (kc 203 [8] #[35]) 9 4 203 _ (W.z2d x1 y4 e5  p2 ) ?_
  rintro _ w3 ⟨S3, rfl, z3, p3⟩
  refine Hn 3 (Zr Q8w [8, 9, 10, 11, 12] Jb5) ?_
  refine Hb [(9, .bool y4), (10, .bool (!y4)), (11, .bool (!y4)), (12, .bool (!y4))] ?_
  refine Gi h (fun h6 h => ?_) fun h6 h => ?_
  ·
   rw [h6]
   refine Hn 6 Jb5 ?_
   obtain rfl := sj h
   exact Hr Tryz.f157 ⟨_, rfl, (z2.t z3), p3⟩
  ·
   rw [bf h6]
   refine Hn 6 Jb5 ?_
   obtain rfl := sj h
   exact Hr Tryz.f157 ⟨_, rfl, (z2.t z3), p3⟩
 ·
  rw [bf h3]
  refine Hn 11 Jb5 ?_
  obtain rfl := sj h
  exact Hr Tryz.f157 ⟨_, rfl, z2, p2⟩

end

end Go.Gx
