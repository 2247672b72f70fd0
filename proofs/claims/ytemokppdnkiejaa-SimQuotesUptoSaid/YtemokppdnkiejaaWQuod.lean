import Derived.Test.YtemokppdnkiejaaWQuoc

set_option linter.unusedVariables false

set_option maxRecDepth 100000

set_option maxHeartbeats 4000000

namespace Go.Gx

open Go.RowKit Go.Proofs

variable (nz : Nat) (wz : World) (S0 : Fz) (w0 : World) (Lr : List Ent)

noncomputable section

def Qk8 := sub [1, 1] B43
def Jpg : List Item := [.code Qk8]
def Qk9 := sub [1, 0, 1] B43
def Jph : List Item := .code Qk9 :: Jpg
def Qka := sub [1, 0, 0] B43
def Jpi : List Item := .inRegion (opsOf Qka) [1, 2] :: Jph
def Qkb := sub [1, 0, 1, 1] B43
def Jpj : List Item := .code Qkb :: Jpg
def Qkc := sub [1, 1, 1] B43
def Jpk : List Item := [.code Qkc]
def Qkd := sub [1, 1, 0] B43
def Jpl : List Item := .inRegion (opsOf Qkd) [1, 2, 3, 4, 5, 6, 7, 8, 9, 10] :: Jpk
def Jpm : List Item := .inRegion (opsOf Qkd) [4, 5, 6, 7, 8, 9, 10] :: Jpk
def Jpn : List Item := .inRegion (opsOf Qkd) [7, 8, 9, 10] :: Jpk
def Jpo : List Item := .inRegion (opsOf Qkd) [9, 10] :: Jpk
def Qke := sub [1, 1, 1, 1] B43
def Jpp : List Item := [.code Qke]
def Qkf := sub [1, 1, 1, 0] B43
def Jpq : List Item := .inRegion (opsOf Qkf) [1] :: Jpp
def Qkg := sub [1, 1, 1, 1, 1] B43
def Jpr : List Item := [.code Qkg]
def Qkh := sub [1, 0, 1, 1, 0, 1] B43
def Jps : List Item := .code Qkh :: Jpg

def Post.z38 (r : (T96 × Int) ⊕ Int) (v : Value) (w' : World) : Prop :=
 match r with
 | .inl r => ∃ S' uhp uhq uhr uhs uht uhu uhv uhw uhx uhy uhz ui0 ui1 ui2 ui3 ui4 ui5 ui6 ui7 ui8 ui9 uia uib, v = .tuple #[(pt uhp 0), .i r.2] ∧ Ext S0 w0 S' w' ∧ Hp nz wz S' w' ((some uhp, .row 97 [.slice (Gp uhq) uhr uhs, (pt uhu 0), (pt ui3 0)] 3 0) :: (uhq, .row 89 uht (uhs * kT88.size) 0) :: (some uhu, .row 106 [.slice (Gp uhv) uhw uhx, .slice (Gp uhz) ui0 ui1] 2 0) :: (uhv, .row 3 uhy (uhx * (kInt .i64).size) 0) :: (uhz, .row 98 ui2 (ui1 * (kInt .i64).size) 0) :: (some ui3, .row 106 [.slice (Gp ui4) ui5 ui6, .slice (Gp ui8) ui9 uia] 2 0) :: (ui4, .row 3 ui7 (ui6 * (kInt .i64).size) 0) :: (ui8, .row 98 uib (uia * (kInt .i64).size) 0) :: Lr) ∧ Els kT88 S' w' uht r.1.l ∧ r.1.l.length = uhr ∧ Els (kInt .i64) S' w' uhy r.1.now.place ∧ r.1.now.place.length = uhw ∧ Els (kInt .i64) S' w' ui2 r.1.now.list ∧ r.1.now.list.length = ui0 ∧ Els (kInt .i64) S' w' ui7 r.1.next.place ∧ r.1.next.place.length = ui5 ∧ Els (kInt .i64) S' w' uib r.1.next.list ∧ r.1.next.list.length = ui9
 | .inr (r) => ∃ S', v = .tuple #[.pointer none, .i r] ∧ Ext S0 w0 S' w' ∧ Hp nz wz S' w' (Lr)

theorem W.z38 (x0 : List T88) (r : (T96 × Int) ⊕ Int) (h : M.sim_New x0 = some r) {nz wz S0 w0 Lr} (Ax0 nx0 cx0) (p0 : Hp nz wz S0 w0 (Lr)) (fx0 : Rd kT88 S0 w0 Ax0 cx0 x0) (lx0 : x0.length = nx0) :
  Calls Try.prog 43 #[.slice Ax0 nx0 cx0] w0 (Rets (Post.z38 nz wz S0 w0 Lr r)) := by
 subst lx0
 refine calls_of_goes (fn := Try.f43) (c := B43) (by kernel_rfl) (by kernel_rfl) 23 (by kernel_rfl) ?_
 refine Goes.jp 24 [(0, .slice Ax0 x0.length cx0)] (fun junk => ?_)
 delta M.sim_New at h
 refine Goes.rn 9 [(2, .pointer none), (3, .i 0), (6, .slice Ax0 x0.length cx0)] Jpi ?_
 refine bind_some' h fun y1 e2 h => ?_
 refine Goes.cal (kc 63 [6] #[35]) 7 29 63 _ (W.z2w x0 y1 e2 Ax0 x0.length cx0 p0 fx0 rfl) ?_
 rintro _ w2 ⟨S2, rfl, z2, p2⟩
 refine Goes.rn 7 [(4, .i y1), (8, .i y1), (9, .bool (!(decide (y1 = 0))))] Jpj ?_
 refine ite_some h (fun h3 h => ?_) (fun h3 h => ?_)
 ·
  rw [decide_eq_true h3]
  refine Goes.rn 5 [(11, .slice Ax0 x0.length cx0)] Jpl ?_
  refine bind_some' h fun y4 e5 h => ?_
  refine Goes.cal (kc 64 [11] #[35]) 12 35 64 _ (W.z2z x0 y4 e5 Ax0 x0.length cx0 p2 (fx0.ext z2) rfl) ?_
  rintro _ w3 ⟨S3, uic, uid, uie, uif, rfl, z3, p3, u2d, rfl⟩
  refine Goes.rn 2 [(13, .slice Ax0 x0.length cx0), (14, .i (x0.length : Int))] Jpm ?_
  refine bind_some' h fun y7 e8 h => ?_
  refine Goes.cal (kc 65 [14] #[3]) 15 95 65 _ (W.z30 (x0.length : Int) y7 e8  p3 ) ?_
  rintro _ w4 ⟨S4, uig, uih, uii, uij, uik, rfl, z4, p4, uil, rfl⟩
  refine Goes.rn 2 [(16, .slice Ax0 x0.length cx0), (17, .i (x0.length : Int))] Jpn ?_
  refine bind_some' h fun y11 e12 h => ?_
  refine Goes.cal (kc 65 [17] #[3]) 18 95 65 _ (W.z30 (x0.length : Int) y11 e12  p4 ) ?_
  rintro _ w5 ⟨S5, uim, uin, uio, uip, uiq, rfl, z5, p5, uir, rfl⟩
  refine Goes.rn 1 [(19, .agg #[.slice (Gp uic) y4.length uie, (pt uig 0), (pt uim 0)])] Jpo ?_
  refine Op_.box 97 (.tmp 19) 20 63 (.agg #[.slice (Gp uic) y4.length uie, (pt uig 0), (pt uim 0)]) [.slice (Gp uic) y4.length uie, (pt uig 0), (pt uim 0)] p5 Goes.v (by kernel_rfl) (by kernel_rfl) ?_
  intro b15 w6 z6 p6
  refine Goes.rn 5 [(5, (pt b15 0)), (21, (pt b15 0))] Jpq ?_
  have p6 : Hp nz wz S5 w6 ((none, .row 98 [] (0 * (kInt .i64).size) 0) :: (some b15, .row 97 [.slice (Gp uic) y4.length uie, (pt uig 0), (pt uim 0)] 3 0) :: (some uim, .row 106 [.slice (Gp uin) y11.length uip, .slice none 0 0] 2 0) :: (uin, .row 3 uiq (uip * (kInt .i64).size) 0) :: (some uig, .row 106 [.slice (Gp uih) y7.length uij, .slice none 0 0] 2 0) :: (uih, .row 3 uik (uij * (kInt .i64).size) 0) :: (uic, .row 89 uif (uie * kT88.size) 0) :: Lr) := p6.nilRow' 98
  have p6 : Hp nz wz S5 w6 ((none, .row 98 [] (0 * (kInt .i64).size) 0) :: (none, .row 98 [] (0 * (kInt .i64).size) 0) :: (some b15, .row 97 [.slice (Gp uic) y4.length uie, (pt uig 0), (pt uim 0)] 3 0) :: (some uim, .row 106 [.slice (Gp uin) y11.length uip, .slice none 0 0] 2 0) :: (uin, .row 3 uiq (uip * (kInt .i64).size) 0) :: (some uig, .row 106 [.slice (Gp uih) y7.length uij, .slice (Gp none) 0 0] 2 0) :: (uih, .row 3 uik (uij * (kInt .i64).size) 0) :: (uic, .row 89 uif (uie * kT88.size) 0) :: Lr) := p6.nilRow' 98
  have p6 := (((((((p6.fr 0).fr 4).fr 4).fr 3).fr 6).fr 6).fr 7).fr 7
  refine bind_some' h fun y19 e20 h => ?_
  refine Goes.cal (kc 66 [21] #[63]) 22 0 66 _ (W.z37 (⟨y4, (⟨y7, ([] : List Int)⟩ : T105), (⟨y11, ([] : List Int)⟩ : T105)⟩ : T96) y19 e20 b15 uic y4.length uie uif uig uih y7.length uij uik none 0 0 [] uim uin y11.length uip uiq none 0 0 [] p6 (u2d.ext ((z4.trans z5).trans z6)) rfl (uil.ext (z5.trans z6)) rfl (Els.nil (K := (kInt .i64))) rfl (uir.ext z6) rfl (Els.nil (K := (kInt .i64))) rfl) ?_
  rintro _ w7 ⟨S7, uis, uit, uiu, uiv, uiw, uix, uiy, uiz, rfl, z7, p7, uj0, rfl, uj1, rfl⟩
  refine Goes.rn 7 [(23, (pt b15 0)), (2, (pt b15 0)), (3, .i 0)] Jpr ?_
  obtain rfl := Option.some.inj h
  exact Goes.rt Try.f43 (.tuple #[(pt b15 0), .i 0]) ⟨S7, b15, uic, y4.length, uie, uif, uig, uis, y19.place.length, uiu, uiv, uiw, y19.list.length, uiy, uiz, uim, uin, y11.length, uip, uiq, none, 0, 0, [], rfl, (((((((Ext.refl S0 w0).trans z2).trans z3).trans z4).trans z5).trans z6).trans z7), p7, (u2d.ext (((z4.trans z5).trans z6).trans z7)), rfl, uj0, rfl, uj1, rfl, (uir.ext (z6.trans z7)), rfl, (Els.nil (K := (kInt .i64))), rfl⟩
 ·
  rw [decide_eq_false h3]
  refine Goes.rn 7 [(10, .i y1), (2, .pointer none), (3, .i y1)] Jps ?_
  obtain rfl := Option.some.inj h
  exact Goes.rt Try.f43 (.tuple #[.pointer none, .i y1]) ⟨S2, rfl, ((Ext.refl S0 w0).trans z2), p2⟩

def Qki := sub [1, 1] B26
def Jpt : List Item := [.code Qki]
def Qkj := sub [1, 0] B26
def Jpu : List Item := .inRegion (opsOf Qkj) [1, 2, 3, 4, 5, 6] :: Jpt
def Qkk := sub [1, 1, 1] B26
def Jpv : List Item := [.code Qkk]
def Qkl := sub [1, 1, 0, 1] B26
def Jpw : List Item := .code Qkl :: Jpv
def Qkm := sub [1, 1, 0, 0] B26
def Jpx : List Item := .inRegion (opsOf Qkm) [3, 4, 5, 6] :: Jpw
def Qkn := sub [1, 1, 1, 1] B26
def Jpy : List Item := [.code Qkn]

def Post.z39 (r : (T96 × Int) ⊕ Int) (v : Value) (w' : World) : Prop :=
 match r with
 | .inl r => ∃ S' uhp uhq uhr uhs uht uhu uhv uhw uhx uhy uhz ui0 ui1 ui2 ui3 ui4 ui5 ui6 ui7 ui8 ui9 uia uib, v = .tuple #[(pt uhp 0), .i r.2] ∧ Ext S0 w0 S' w' ∧ Hp nz wz S' w' ((some uhp, .row 97 [.slice (Gp uhq) uhr uhs, (pt uhu 0), (pt ui3 0)] 3 0) :: (uhq, .row 89 uht (uhs * kT88.size) 0) :: (some uhu, .row 106 [.slice (Gp uhv) uhw uhx, .slice (Gp uhz) ui0 ui1] 2 0) :: (uhv, .row 3 uhy (uhx * (kInt .i64).size) 0) :: (uhz, .row 98 ui2 (ui1 * (kInt .i64).size) 0) :: (some ui3, .row 106 [.slice (Gp ui4) ui5 ui6, .slice (Gp ui8) ui9 uia] 2 0) :: (ui4, .row 3 ui7 (ui6 * (kInt .i64).size) 0) :: (ui8, .row 98 uib (uia * (kInt .i64).size) 0) :: Lr) ∧ Els kT88 S' w' uht r.1.l ∧ r.1.l.length = uhr ∧ Els (kInt .i64) S' w' uhy r.1.now.place ∧ r.1.now.place.length = uhw ∧ Els (kInt .i64) S' w' ui2 r.1.now.list ∧ r.1.now.list.length = ui0 ∧ Els (kInt .i64) S' w' ui7 r.1.next.place ∧ r.1.next.place.length = ui5 ∧ Els (kInt .i64) S' w' uib r.1.next.list ∧ r.1.next.list.length = ui9
 | .inr (r) => ∃ S', v = .tuple #[.pointer none, .i r] ∧ Ext S0 w0 S' w' ∧ Hp nz wz S' w' (Lr)

theorem W.z39 (x0 : List T88) (x1 : ByteArray) (r : (T96 × Int) ⊕ Int) (h : M.sim_begin x0 x1 = some r) {nz wz S0 w0 Lr} (Ax0 nx0 cx0) (p0 : Hp nz wz S0 w0 (Lr)) (fx0 : Rd kT88 S0 w0 Ax0 cx0 x0) (lx0 : x0.length = nx0) :
  Calls Try.prog 26 #[.slice Ax0 nx0 cx0, .string x1] w0 (Rets (Post.z39 nz wz S0 w0 Lr r)) := by
 subst lx0
 refine calls_of_goes (fn := Try.f26) (c := B26) (by kernel_rfl) (by kernel_rfl) 20 (by kernel_rfl) ?_
 refine Goes.jp 22 [(0, .slice Ax0 x0.length cx0), (1, .string x1)] (fun junk => ?_)
 delta M.sim_begin at h
 refine Goes.rn 8 [(4, .pointer none), (5, .i 0), (9, .slice Ax0 x0.length cx0)] Jpu ?_
 refine bind_some' h fun y1 e2 h => ?_
 rcases y1 with uj2 | uj3
 ·
  try dsimp only at h
  refine Goes.cal (kc 43 [9] #[35]) 10 64 43 _ (W.z38 x0 (Sum.inl uj2) e2 Ax0 x0.length cx0 p0 fx0 rfl) ?_
  rintro _ w2 ⟨S2, uj4, uj5, uj6, uj7, uj8, uj9, uja, ujb, ujc, ujd, uje, ujf, ujg, ujh, uji, ujj, ujk, ujl, ujm, ujn, ujo, ujp, ujq, rfl, z2, p2, ujr, rfl, ujs, rfl, ujt, rfl, uju, rfl, ujv, rfl⟩
  refine Goes.rn 12 [(8, .tuple #[(pt uj4 0), .i uj2.2]), (11, (pt uj4 0)), (12, .i uj2.2), (6, (pt uj4 0)), (7, .i uj2.2), (13, .i uj2.2), (14, .bool (decide (uj2.2 = 0))), (15, .bool (decide (uj2.2 = 0)))] Jpx ?_
  refine ite_some h (fun h11 h => ?_) (fun h11 h => ?_)
  ·
   rw [decide_eq_true h11]
   refine Goes.rn 5 [(16, .string x1), (17, .i (x1.size : Int)), (18, .bool (decide ((x1.size : Int) > 65536))), (19, .bool (decide ((x1.size : Int) > 65536)))] Jpw ?_
   refine ite_some h (fun h12 h => ?_) (fun h12 h => ?_)
   ·
    rw [decide_eq_true h12]
    refine Goes.rn 11 [(7, .i 3), (20, (pt uj4 0)), (21, .i 3), (4, (pt uj4 0)), (5, .i 3)] Jpy ?_
    obtain rfl := Option.some.inj h
    exact Goes.rt Try.f26 (.tuple #[(pt uj4 0), .i 3]) ⟨S2, uj4, uj5, uj2.1.l.length, uj7, uj8, uj9, uja, uj2.1.now.place.length, ujc, ujd, uje, uj2.1.now.list.length, ujg, ujh, uji, ujj, uj2.1.next.place.length, ujl, ujm, ujn, uj2.1.next.list.length, ujp, ujq, rfl, ((Ext.refl S0 w0).trans z2), p2, ujr, rfl, ujs, rfl, ujt, rfl, uju, rfl, ujv, rfl⟩
   ·
    rw [decide_eq_false h12]
    refine Goes.rn 9 [(20, (pt uj4 0)), (21, .i uj2.2), (4, (pt uj4 0)), (5, .i uj2.2)] Jpy ?_
    obtain rfl := Option.some.inj h
    exact Goes.rt Try.f26 (.tuple #[(pt uj4 0), .i uj2.2]) ⟨S2, uj4, uj5, uj2.1.l.length, uj7, uj8, uj9, uja, uj2.1.now.place.length, ujc, ujd, uje, uj2.1.now.list.length, ujg, ujh, uji, ujj, uj2.1.next.place.length, ujl, ujm, ujn, uj2.1.next.list.length, ujp, ujq, rfl, ((Ext.refl S0 w0).trans z2), p2, ujr, rfl, ujs, rfl, ujt, rfl, uju, rfl, ujv, rfl⟩
  ·
   rw [decide_eq_false h11]
   refine Goes.rn 14 [(16, undef), (17, undef), (18, undef), (19, .bool false), (20, (pt uj4 0)), (21, .i uj2.2), (4, (pt uj4 0)), (5, .i uj2.2)] Jpy ?_
   obtain rfl := Option.some.inj h
   exact Goes.rt Try.f26 (.tuple #[(pt uj4 0), .i uj2.2]) ⟨S2, uj4, uj5, uj2.1.l.length, uj7, uj8, uj9, uja, uj2.1.now.place.length, ujc, ujd, uje, uj2.1.now.list.length, ujg, ujh, uji, ujj, uj2.1.next.place.length, ujl, ujm, ujn, uj2.1.next.list.length, ujp, ujq, rfl, ((Ext.refl S0 w0).trans z2), p2, ujr, rfl, ujs, rfl, ujt, rfl, uju, rfl, ujv, rfl⟩
 ·
  try dsimp only at h
  refine Goes.cal (kc 43 [9] #[35]) 10 64 43 _ (W.z38 x0 (Sum.inr uj3) e2 Ax0 x0.length cx0 p0 fx0 rfl) ?_
  rintro _ w3 ⟨S3, rfl, z3, p3⟩
  refine Goes.rn 12 [(8, .tuple #[.pointer none, .i uj3]), (11, .pointer none), (12, .i uj3), (6, .pointer none), (7, .i uj3), (13, .i uj3), (14, .bool (decide (uj3 = 0))), (15, .bool (decide (uj3 = 0)))] Jpx ?_
  refine ite_some h (fun h13 h => ?_) (fun h13 h => ?_)
  ·
   rw [decide_eq_true h13]
   refine Goes.rn 5 [(16, .string x1), (17, .i (x1.size : Int)), (18, .bool (decide ((x1.size : Int) > 65536))), (19, .bool (decide ((x1.size : Int) > 65536)))] Jpw ?_
   refine ite_some h (fun h14 h => ?_) (fun h14 h => ?_)
   ·
    rw [decide_eq_true h14]
    refine Goes.rn 11 [(7, .i 3), (20, .pointer none), (21, .i 3), (4, .pointer none), (5, .i 3)] Jpy ?_
    obtain rfl := Option.some.inj h
    exact Goes.rt Try.f26 (.tuple #[.pointer none, .i 3]) ⟨S3, rfl, ((Ext.refl S0 w0).trans z3), p3⟩
   ·
    rw [decide_eq_false h14]
    refine Goes.rn 9 [(20, .pointer none), (21, .i uj3), (4, .pointer none), (5, .i uj3)] Jpy ?_
    obtain rfl := Option.some.inj h
    exact Goes.rt Try.f26 (.tuple #[.pointer none, .i uj3]) ⟨S3, rfl, ((Ext.refl S0 w0).trans z3), p3⟩
  ·
   rw [decide_eq_false h13]
   refine Goes.rn 14 [(16, undef), (17, undef), (18, undef), (19, .bool false), (20, .pointer none), (21, .i uj3), (4, .pointer none), (5, .i uj3)] Jpy ?_
   obtain rfl := Option.some.inj h
   exact Goes.rt Try.f26 (.tuple #[.pointer none, .i uj3]) ⟨S3, rfl, ((Ext.refl S0 w0).trans z3), p3⟩

def Qko := sub [1] B46
def Jpz : List Item := [.code Qko]
def Qkp := sub [0] B46
def Jq0 : List Item := .inRegion (opsOf Qkp) [0, 1, 2] :: Jpz
def Qkq := sub [1, 1] B46
def Jq1 : List Item := [.code Qkq]

def Post.z3a (gx0 : Nat) (uab : Option Nat) (uac : Nat) (uad : Nat) (uae : List Value) (ufr : Nat) (ufs : Option Nat) (uft : Nat) (ufu : Nat) (ufv : List Value) (ufw : Option Nat) (ufx : Nat) (ufy : Nat) (ufz : List Value) (ug0 : Nat) (ug1 : Option Nat) (ug2 : Nat) (ug3 : Nat) (ug4 : List Value) (ug5 : Option Nat) (ug6 : Nat) (ug7 : Nat) (ug8 : List Value) (x0v : T96) (r : Int) (v : Value) (w' : World) : Prop :=
 ∃ S' uh ujw, v = .func (.func 67) #[] #[(pt uh 0), (pt ujw 0)] ∧ Ext S0 w0 S' w' ∧ Hp nz wz S' w' ((some uh, .row 63 [(pt gx0 0)] 1 0) :: (some ujw, .row 5 [.int .u8 r] 1 0) :: (some gx0, .row 97 [.slice (Gp uab) uac uad, (pt ufr 0), (pt ug0 0)] 3 0) :: (uab, .row 89 uae (uad * kT88.size) 0) :: (some ufr, .row 106 [.slice (Gp ufs) uft ufu, .slice (Gp ufw) ufx ufy] 2 0) :: (ufs, .row 3 ufv (ufu * (kInt .i64).size) 0) :: (ufw, .row 98 ufz (ufy * (kInt .i64).size) 0) :: (some ug0, .row 106 [.slice (Gp ug1) ug2 ug3, .slice (Gp ug5) ug6 ug7] 2 0) :: (ug1, .row 3 ug4 (ug3 * (kInt .i64).size) 0) :: (ug5, .row 98 ug8 (ug7 * (kInt .i64).size) 0) :: Lr)

theorem W.z3a (x0v : T96) (x1 : Int) (r : Int) (h : M.sim_Runner_led x0v x1 = some r) {nz wz S0 w0 Lr} (gx0 uab uac uad uae ufr ufs uft ufu ufv ufw ufx ufy ufz ug0 ug1 ug2 ug3 ug4 ug5 ug6 ug7 ug8) (p0 : Hp nz wz S0 w0 ((some gx0, .row 97 [.slice (Gp uab) uac uad, (pt ufr 0), (pt ug0 0)] 3 0) :: (uab, .row 89 uae (uad * kT88.size) 0) :: (some ufr, .row 106 [.slice (Gp ufs) uft ufu, .slice (Gp ufw) ufx ufy] 2 0) :: (ufs, .row 3 ufv (ufu * (kInt .i64).size) 0) :: (ufw, .row 98 ufz (ufy * (kInt .i64).size) 0) :: (some ug0, .row 106 [.slice (Gp ug1) ug2 ug3, .slice (Gp ug5) ug6 ug7] 2 0) :: (ug1, .row 3 ug4 (ug3 * (kInt .i64).size) 0) :: (ug5, .row 98 ug8 (ug7 * (kInt .i64).size) 0) :: Lr)) (uaf : Els kT88 S0 w0 uae x0v.l) (uag : x0v.l.length = uac) (ug9 : Els (kInt .i64) S0 w0 ufv x0v.now.place) (uga : x0v.now.place.length = uft) (ugb : Els (kInt .i64) S0 w0 ufz x0v.now.list) (ugc : x0v.now.list.length = ufx) (ugd : Els (kInt .i64) S0 w0 ug4 x0v.next.place) (uge : x0v.next.place.length = ug2) (ugf : Els (kInt .i64) S0 w0 ug8 x0v.next.list) (ugg : x0v.next.list.length = ug6) :
  Calls Try.prog 46 #[(pt gx0 0), .int .u8 x1] w0 (Rets (Post.z3a nz wz S0 w0 Lr gx0 uab uac uad uae ufr ufs uft ufu ufv ufw ufx ufy ufz ug0 ug1 ug2 ug3 ug4 ug5 ug6 ug7 ug8 x0v r)) := by
 subst uag
 subst uga
 subst ugc
 subst uge
 subst ugg
 refine calls_of_goes (fn := Try.f46) (c := B46) (by kernel_rfl) (by kernel_rfl) 4 (by kernel_rfl) ?_
 refine Goes.jp 6 [(0, (pt gx0 0)), (1, .int .u8 x1)] (fun junk => ?_)
 delta M.sim_Runner_led at h
 refine Goes.rn 2 [] Jq0 ?_
 refine Op_.box 63 (.tmp 0) 2 0 ((pt gx0 0)) [(pt gx0 0)] p0 Goes.v (by kernel_rfl) (by kernel_rfl) ?_
 intro b9 w2 z2 p2
 refine Op_.box 5 (.tmp 1) 3 0 (.int .u8 x1) [.int .u8 x1] p2 Goes.v (by kernel_rfl) (by kernel_rfl) ?_
 intro b11 w3 z3 p3
 refine Goes.rn 7 [(4, .func (.func 67) #[] #[(pt b9 0), (pt b11 0)]), (5, .func (.func 67) #[] #[(pt b9 0), (pt b11 0)])] Jq1 ?_
 obtain rfl := Option.some.inj h
 have p3 := (((((((((p3.fr 9).fr 9).fr 9).fr 9).fr 9).fr 9).fr 9).fr 9).fr 8).fr 9
 exact Goes.rt Try.f46 (.func (.func 67) #[] #[(pt b9 0), (pt b11 0)]) ⟨S0, b9, b11, rfl, (((Ext.refl S0 w0).trans z2).trans z3), p3⟩

def Qkr := sub [1] B68
def Jq2 : List Item := [.code Qkr]
def Qks := sub [0] B68
def Jq3 : List Item := .inRegion (opsOf Qks) [0, 1] :: Jq2
def Qkt := sub [1, 1] B68
def Jq4 : List Item := [.code Qkt]
def Qku := sub [1, 0] B68
def Jq5 : List Item := .inRegion (opsOf Qku) [2, 3, 4, 5, 6, 7, 8, 9] :: Jq4
def Jq6 : List Item := .inRegion (opsOf Qku) [6, 7, 8, 9] :: Jq4

def Post.z3b (r : Bool) (v : Value) (w' : World) : Prop :=
 ∃ S', v = .bool r ∧ Ext S0 w0 S' w' ∧ Hp nz wz S' w' (Lr)

theorem W.z3b (x0 : List Int) (x1 : Int) (r : Bool) (h : M.syntax_Has x0 x1 = some r) {nz wz S0 w0 Lr} (ug) (p0 : Hp nz wz S0 w0 (Lr)) (fx0 : Els (kInt .u64) S0 w0 ug x0) (lx0 : ug.length = 4) :
  Calls Try.prog 68 #[.agg ug.toArray, .int .u8 x1] w0 (Rets (Post.z3b nz wz S0 w0 Lr r)) := by
 refine calls_of_goes (fn := Try.f68) (c := B68) (by kernel_rfl) (by kernel_rfl) 12 (by kernel_rfl) ?_
 refine Goes.jp 14 [(0, .agg ug.toArray), (1, .int .u8 x1)] (fun junk => ?_)
 delta M.syntax_Has at h
 refine Goes.rn 2 [] Jq3 ?_
 refine Op_.box 25 (.tmp 0) 2 0 (.agg ug.toArray) ug p0 Goes.v (by kernel_rfl) rfl ?_
 intro b1 w2 z2 p2
 replace p2 : Hp nz wz S0 w2 ((some b1, .row 25 ug 4 0) :: Lr) := by rw [show (ug).length = 4 from lx0] at p2; exact p2
 refine Goes.rn 6 [(4, .bool false), (5, .int .u8 x1), (6, .int .u8 (iquo .u8 x1 64))] Jq5 ?_
 refine guard_some' h fun g3 h => ?_
 refine guard_some' h fun g4 h => ?_
 refine Op_.ixA_n (K := (kInt .u64)) 25 (.tmp 2) (.tmp 6) 7 0 23 4 .u8 (iquo .u8 x1 64) 0 (gi x0 (iquo .u8 x1 64)) rfl p2 rfl (fx0.ext z2) (Els.len1 (fx0.ext z2) lx0 rfl) Goes.v (by kernel_rfl) (by kernel_rfl) (by kernel_rfl) (by kernel_rfl) g3 g4 ?_
 intro _ q6 f5
 obtain rfl := q6
 refine Goes.ld 23 (.tmp 7) 8 23 ⟨b1, (iquo .u8 x1 64 : Int).toNat * (kInt .u64).size, none⟩ (.u (gi x0 (iquo .u8 x1 64))) (f5 0 _ rfl) ?_
 refine Goes.rn 2 [(9, .int .u8 x1), (10, .int .u8 (irem .u8 x1 64))] Jq6 ?_
 refine guard_some' h fun g7 h => ?_
 refine Op_.binshr 23 (.tmp 8) (.tmp 10) 5 11 23 .u64 .u8 (gi x0 (iquo .u8 x1 64)) (irem .u8 x1 64) Goes.v (by kernel_rfl) (by kernel_rfl) g7 ?_
 refine Goes.rn 4 [(12, .u (iand .u64 (ishr .u64 (gi x0 (iquo .u8 x1 64)) (irem .u8 x1 64)) 1)), (13, .bool (decide (iand .u64 (ishr .u64 (gi x0 (iquo .u8 x1 64)) (irem .u8 x1 64)) 1 = 1))), (4, .bool (decide (iand .u64 (ishr .u64 (gi x0 (iquo .u8 x1 64)) (irem .u8 x1 64)) 1 = 1)))] Jq4 ?_
 obtain rfl := Option.some.inj h
 have p2 := p2.dp 0
 exact Goes.rt Try.f68 (.bool (decide (iand .u64 (ishr .u64 (gi x0 (iquo .u8 x1 64)) (irem .u8 x1 64)) 1 = 1))) ⟨S0, rfl, ((Ext.refl S0 w0).trans z2), p2⟩

def Post.z3c (gx0 : Nat) (uab : Option Nat) (uac : Nat) (uad : Nat) (uae : List Value) (ufr : Nat) (ufs : Option Nat) (uft : Nat) (ufu : Nat) (ufv : List Value) (ufw : Option Nat) (ufx : Nat) (ufy : Nat) (ufz : List Value) (ug0 : Nat) (x0v : T96) (r : T105) (v : Value) (w' : World) : Prop :=
 ∃ S' ujx ujy ujz uk0 uk1 uk2 uk3 uk4, v = .tuple #[] ∧ Ext S0 w0 S' w' ∧ Hp nz wz S' w' ((some gx0, .row 97 [.slice (Gp uab) uac uad, (pt ufr 0), (pt ug0 0)] 3 0) :: (uab, .row 89 uae (uad * kT88.size) 0) :: (some ufr, .row 106 [.slice (Gp ufs) uft ufu, .slice (Gp ufw) ufx ufy] 2 0) :: (ufs, .row 3 ufv (ufu * (kInt .i64).size) 0) :: (ufw, .row 98 ufz (ufy * (kInt .i64).size) 0) :: (some ug0, .row 106 [.slice (Gp ujx) ujy ujz, .slice (Gp uk1) uk2 uk3] 2 0) :: (ujx, .row 3 uk0 (ujz * (kInt .i64).size) 0) :: (uk1, .row 98 uk4 (uk3 * (kInt .i64).size) 0) :: Lr) ∧ Els (kInt .i64) S' w' uk0 r.place ∧ r.place.length = ujy ∧ Els (kInt .i64) S' w' uk4 r.list ∧ r.list.length = uk2

def L.z3d (gx0 : Nat) (uab : Option Nat) (uac : Nat) (uad : Nat) (uae : List Value) (ufr : Nat) (ufs : Option Nat) (uft : Nat) (ufu : Nat) (ufv : List Value) (ufw : Option Nat) (ufx : Nat) (ufy : Nat) (ufz : List Value) (ug0 : Nat) : (List Int) × T105 × T96 → T105 → Prop := fun ⟨x6, e2v, x0v⟩ r => ∀ S1 w1, Ext S0 w0 S1 w1 → ∀ Gx6 nx6 cx6 uc2 ujx ujy ujz uk0 uk1 uk2 uk3 uk4 (_ : Hp nz wz S1 w1 ((Gx6, .row 98 uc2 (cx6 * (kInt .i64).size) 0) :: (some gx0, .row 97 [.slice (Gp uab) uac uad, (pt ufr 0), (pt ug0 0)] 3 0) :: (uab, .row 89 uae (uad * kT88.size) 0) :: (some ufr, .row 106 [.slice (Gp ufs) uft ufu, .slice (Gp ufw) ufx ufy] 2 0) :: (ufs, .row 3 ufv (ufu * (kInt .i64).size) 0) :: (ufw, .row 98 ufz (ufy * (kInt .i64).size) 0) :: (some ug0, .row 106 [.slice (Gp ujx) ujy ujz, .slice (Gp uk1) uk2 uk3] 2 0) :: (ujx, .row 3 uk0 (ujz * (kInt .i64).size) 0) :: (uk1, .row 98 uk4 (uk3 * (kInt .i64).size) 0) :: Lr)) (_ : Els (kInt .i64) S1 w1 uc2 x6) (_ : x6.length = nx6) (_ : Els kT88 S1 w1 uae x0v.l) (_ : x0v.l.length = uac) (_ : Els (kInt .i64) S1 w1 ufv x0v.now.place) (_ : x0v.now.place.length = uft) (_ : Els (kInt .i64) S1 w1 ufz x0v.now.list) (_ : x0v.now.list.length = ufx) (_ : Els (kInt .i64) S1 w1 uk0 e2v.place) (_ : e2v.place.length = ujy) (_ : Els (kInt .i64) S1 w1 uk4 e2v.list) (_ : e2v.list.length = uk2) (junk : Nat → Value),
 Goes Try.prog (base 47) Jof ⟨lfr 52 [(0, (pt gx0 0)), (1, (pt ug0 0)), (6, .slice (Gp Gx6) nx6 cx6)] junk, []⟩ w1 (Done Try.prog 47 (Rets (Post.z3c nz wz S0 w0 Lr gx0 uab uac uad uae ufr ufs uft ufu ufv ufw ufx ufy ufz ug0 x0v r)))

theorem W.z3d {nz wz S0 w0 Lr} (gx0 : Nat) (uab : Option Nat) (uac : Nat) (uad : Nat) (uae : List Value) (ufr : Nat) (ufs : Option Nat) (uft : Nat) (ufu : Nat) (ufv : List Value) (ufw : Option Nat) (ufx : Nat) (ufy : Nat) (ufz : List Value) (ug0 : Nat) : ∀ a r, M.sim_Runner_stand_2_l0 a = some r → (L.z3d nz wz S0 w0 Lr gx0 uab uac uad uae ufr ufs uft ufu ufv ufw ufx ufy ufz ug0) a r := by
 refine M.sim_Runner_stand_2_l0.partial_correctness (motive := (L.z3d nz wz S0 w0 Lr gx0 uab uac uad uae ufr ufs uft ufu ufv ufw ufx ufy ufz ug0)) ?_
 intro uk5 uk6 ⟨x6, e2v, x0v⟩ r h S1 w1 hx Gx6 nx6 cx6 uc2 ujx ujy ujz uk0 uk1 uk2 uk3 uk4 p1 fx6 lx6 fs2 ls2 fs4 ls4 fs6 ls6 uk7 uk8 uk9 uka junk
 try dsimp only at h
 subst lx6
 subst ls2
 subst ls4
 subst ls6
 subst uk8
 subst uka
 refine Goes.rn 7 [(11, .slice (Gp Gx6) x6.length cx6), (12, .i (x6.length : Int)), (13, .bool (decide ((x6.length : Int) > 0)))] Joh ?_
 refine ite_some h (fun h15 h => ?_) (fun h15 h => ?_)
 ·
  rw [decide_eq_true h15]
  refine Goes.rn 9 [(14, .slice (Gp Gx6) x6.length cx6), (15, .slice (Gp Gx6) x6.length cx6), (16, .i (x6.length : Int)), (17, .i (wr .i64 ((x6.length : Int) - 1)))] Jok ?_
  refine guard_some' h fun g16 h => ?_
  refine guard_some' h fun g17 h => ?_
  refine Op_.ixO_n 104 (.tmp 14) (.tmp 17) 18 0 98 .i64 (wr .i64 ((x6.length : Int) - 1)) 0 x6.length cx6 (gi x6 (wr .i64 ((x6.length : Int) - 1))) rfl rfl p1 rfl fx6 Goes.v (by kernel_rfl) (by kernel_rfl) (by kernel_rfl) (by kernel_rfl) (by decide) g16 g17 ?_
  rintro b18 _ rfl q20 f19
  obtain rfl := q20
  refine Goes.ld 98 (.tmp 18) 19 98 ⟨b18, (wr .i64 ((x6.length : Int) - 1) : Int).toNat * (kInt .i64).size, none⟩ (.i (gi x6 (wr .i64 ((x6.length : Int) - 1)))) (f19 0 _ rfl) ?_
  refine Goes.rn 8 [(7, .i (gi x6 (wr .i64 ((x6.length : Int) - 1)))), (20, .slice (Gp (some b18)) x6.length cx6), (21, .slice (Gp (some b18)) x6.length cx6), (22, .i (x6.length : Int)), (23, .i (wr .i64 ((x6.length : Int) - 1)))] Jom ?_
  refine guard_some' h fun g22 h => ?_
  refine Op_.slO (K := (kInt .i64)) 104 (.tmp 20) (.tmp 23) 24 104 98 .i64 (wr .i64 ((x6.length : Int) - 1)) 0 (sl x6 0 (wr .i64 ((x6.length : Int) - 1))) rfl rfl p1 rfl rfl (by decide) fx6 Goes.v (by kernel_rfl) (by kernel_rfl) (by kernel_rfl) (by kernel_rfl) g16 g22 ?_
  intro uh8 p1 f24
  refine Goes.rn 7 [(6, .slice (Gp (some b18)) ((sl x6 0 (wr .i64 ((x6.length : Int) - 1))).length) cx6), (25, (pt ug0 0)), (26, .i (gi x6 (wr .i64 ((x6.length : Int) - 1))))] Jop ?_
  have p1 := ((p1.fr 8).fr 8).fr 8
  refine bind_some' h fun y25 e26 h => ?_
  refine Goes.cal (kc 69 [25, 26] #[95, 98]) 27 4 69 _ (W.z34 e2v (gi x6 (wr .i64 ((x6.length : Int) - 1))) y25 e26 ug0 ujx e2v.place.length ujz uk0 uk1 e2v.list.length uk3 uk4 p1 uk7 rfl uk9 rfl) ?_
  rintro _ w3 ⟨S3, ucl, ucm, ucn, uco, uh9, uha, uhb, uhc, rfl, z3, p3, ucp, rfl, uhd, rfl⟩
  refine Goes.rn 2 [(28, .bool (!y25.1))] Joo ?_
  refine ite_some h (fun h29 h => ?_) (fun h29 h => ?_)
  ·
   rw [h29]
   refine Goes.rn 7 [(29, (pt gx0 0)), (30, (pt gx0 0)), (31, (pt gx0 0))] Jor ?_
   refine Goes.ld 35 (.tmp 31) 32 35 ⟨gx0, 0, none⟩ (.slice (Gp uab) x0v.l.length uad) (p3.c 4 0) ?_
   refine Goes.rn 1 [(33, .i (gi x6 (wr .i64 ((x6.length : Int) - 1))))] Jos ?_
   refine guard_some' h fun g30 h => ?_
   refine guard_some' h fun g31 h => ?_
   refine let_some h fun v35 e36 h => ?_
   refine Op_.ixO_n 35 (.tmp 32) (.tmp 33) 34 0 89 .i64 (gi x6 (wr .i64 ((x6.length : Int) - 1))) 5 x0v.l.length uad v35 rfl e36 p3 rfl (fs2.ext z3) Goes.v (by kernel_rfl) (by kernel_rfl) (by kernel_rfl) (by kernel_rfl) (by decide) g30 g31 ?_
   rintro b32 _ rfl q34 f33
   obtain ⟨_, _, rfl, rfl, ⟨_, _, rfl, ⟨l37, f38⟩, ⟨_, _, rfl, rfl, rfl⟩⟩⟩ := q34
   obtain rfl := els_lit4' f38 l37
   refine Goes.ldN 89 (.tmp 34) 35 89 ⟨b32, (gi x6 (wr .i64 ((x6.length : Int) - 1)) : Int).toNat * kT88.size, none⟩ ([.i v35.Op] ++ ((U4 v35.Set []) ++ ([.i v35.X] ++ [.i v35.Y]))) f33 ?_
   refine Op_.alloc 89 8 0 (.agg #[.i 0, .u 0, .u 0, .u 0, .u 0, .i 0, .i 0]) [.i 0, .u 0, .u 0, .u 0, .u 0, .i 0, .i 0] p3 Goes.v (by kernel_rfl) (by kernel_rfl) ?_
   intro b40 w4 z4 p4
   refine Op_.st 89 (.tmp 8) (.tmp 35) 0 0 b40 0 (ag (.i v35.Op :: U4 v35.Set [.i v35.X, .i v35.Y])) (.i v35.Op :: U4 v35.Set [.i v35.X, .i v35.Y]) p4 rfl Goes.s (by kernel_rfl) (by kernel_rfl) (by kernel_rfl) (by kernel_rfl) (Nat.zero_le _) (by simp only [List.length_cons, List.length_nil]; omega) (by simp [Value.oneCell']) ?_
   intro w5 z5 p5
   have p5 : Hp nz wz S3 w5 ((some b40, .row 89 (.i v35.Op :: U4 v35.Set [.i v35.X, .i v35.Y]) 7 0) :: (some ug0, .row 106 [.slice (Gp ucl) y25.2.place.length ucn, .slice (Gp uh9) y25.2.list.length uhb] 2 0) :: (ucl, .row 3 uco (ucn * (kInt .i64).size) 0) :: (uh9, .row 98 uhc (uhb * (kInt .i64).size) 0) :: ((some b18), .row 98 uh8 (cx6 * (kInt .i64).size) 0) :: (some gx0, .row 97 [.slice (Gp (some b32)) x0v.l.length uad, (pt ufr 0), (pt ug0 0)] 3 0) :: ((some b32), .row 89 uae (uad * kT88.size) 0) :: (some ufr, .row 106 [.slice (Gp ufs) x0v.now.place.length ufu, .slice (Gp ufw) x0v.now.list.length ufy] 2 0) :: (ufs, .row 3 ufv (ufu * (kInt .i64).size) 0) :: (ufw, .row 98 ufz (ufy * (kInt .i64).size) 0) :: Lr) := p5
   refine Goes.rn 4 [(36, (pt b40 0))] Jou ?_
   refine Goes.ld 3 (.tmp 36) 37 3 ⟨b40, 0, none⟩ (.i v35.Op) (p5.c 0 0) ?_
   refine Goes.rn 13 [(39, .bool (decide (v35.Op = 2))), (38, .bool (decide (v35.Op = 2)))] Jp2 ?_
   refine ite_some h (fun h42 h => ?_) (fun h42 h => ?_)
   ·
    rw [decide_eq_true h42]
    refine Goes.rn 5 [(42, .slice (Gp (some b18)) ((sl x6 0 (wr .i64 ((x6.length : Int) - 1))).length) cx6), (43, (pt b40 6))] Jp3 ?_
    refine Goes.ld 3 (.tmp 43) 44 3 ⟨b40, 6, none⟩ (.i v35.Y) (p5.c 0 6) ?_
    have f44 : Els (kInt .i64) S3 w5 ([.i v35.Y] : List Value) [v35.Y] := by exact (Els.cons (K := (kInt .i64)) (vs := [.i v35.Y]) (x := v35.Y) rfl Els.nil)
    refine Op_.made (.buildSlice 104 1 #[(0, (.tmp 44))]) 45 104 (fun b => .slice (Gp (some b)) 1 1) 98 ([.i v35.Y] : List Value) p5 Goes.v (by kernel_rfl) ?_
    intro b43 w6 z6 p6
    have p6 : Hp nz wz S3 w6 (((some b43), .row 98 ([.i v35.Y] : List Value) (1 * (kInt .i64).size) 0) :: (some b40, .row 89 (.i v35.Op :: U4 v35.Set [.i v35.X, .i v35.Y]) 7 0) :: (some ug0, .row 106 [.slice (Gp ucl) y25.2.place.length ucn, .slice (Gp uh9) y25.2.list.length uhb] 2 0) :: (ucl, .row 3 uco (ucn * (kInt .i64).size) 0) :: (uh9, .row 98 uhc (uhb * (kInt .i64).size) 0) :: ((some b18), .row 98 uh8 (cx6 * (kInt .i64).size) 0) :: (some gx0, .row 97 [.slice (Gp (some b32)) x0v.l.length uad, (pt ufr 0), (pt ug0 0)] 3 0) :: ((some b32), .row 89 uae (uad * kT88.size) 0) :: (some ufr, .row 106 [.slice (Gp ufs) x0v.now.place.length ufu, .slice (Gp ufw) x0v.now.list.length ufy] 2 0) :: (ufs, .row 3 ufv (ufu * (kInt .i64).size) 0) :: (ufw, .row 98 ufz (ufy * (kInt .i64).size) 0) :: Lr) := p6
    refine let_some h fun v49 e50 h => ?_
    refine guard_some' h fun g51 h => ?_
    refine Op_.ap_n (K := (kInt .i64)) 104 (.tmp 42) (.tmp 45) 46 104 98 5 (.i 0) 8 ((sl x6 0 (wr .i64 ((x6.length : Int) - 1))).length) cx6 1 (sl x6 0 (wr .i64 ((x6.length : Int) - 1))) [v35.Y] v49 (Gp (some b43)) 1 rfl rfl e50 p6 rfl (f24.ext (((z3.trans z4).trans z5).trans z6)) Goes.v (by kernel_rfl) (by kernel_rfl) (by kernel_rfl) (by kernel_rfl) rfl (by decide) (f44.ext z6) (src_own p6 (q := 0) rfl) (by have := g51; omega) (by have := g51; omega) ?_
    intro w7 G52 c53 uhe z7 p7 f55
    refine Goes.rn 7 [(6, .slice (Gp G52) v49.length c53), (47, .slice (Gp G52) v49.length c53), (48, (pt b40 5))] Jp5 ?_
    refine Goes.ld 3 (.tmp 48) 49 3 ⟨b40, 5, none⟩ (.i v35.X) (p7.c 1 5) ?_
    have f57 : Els (kInt .i64) S3 w7 ([.i v35.X] : List Value) [v35.X] := by exact (Els.cons (K := (kInt .i64)) (vs := [.i v35.X]) (x := v35.X) rfl Els.nil)
    refine Op_.made (.buildSlice 104 1 #[(0, (.tmp 49))]) 50 104 (fun b => .slice (Gp (some b)) 1 1) 98 ([.i v35.X] : List Value) p7 Goes.v (by kernel_rfl) ?_
    intro b56 w8 z8 p8
    have p8 : Hp nz wz S3 w8 (((some b56), .row 98 ([.i v35.X] : List Value) (1 * (kInt .i64).size) 0) :: ((some b43), .row 98 ([.i v35.Y] : List Value) (1 * (kInt .i64).size) 0) :: (some b40, .row 89 (.i v35.Op :: U4 v35.Set [.i v35.X, .i v35.Y]) 7 0) :: (some ug0, .row 106 [.slice (Gp ucl) y25.2.place.length ucn, .slice (Gp uh9) y25.2.list.length uhb] 2 0) :: (ucl, .row 3 uco (ucn * (kInt .i64).size) 0) :: (uh9, .row 98 uhc (uhb * (kInt .i64).size) 0) :: (G52, .row 98 uhe (c53 * (kInt .i64).size) 0) :: (some gx0, .row 97 [.slice (Gp (some b32)) x0v.l.length uad, (pt ufr 0), (pt ug0 0)] 3 0) :: ((some b32), .row 89 uae (uad * kT88.size) 0) :: (some ufr, .row 106 [.slice (Gp ufs) x0v.now.place.length ufu, .slice (Gp ufw) x0v.now.list.length ufy] 2 0) :: (ufs, .row 3 ufv (ufu * (kInt .i64).size) 0) :: (ufw, .row 98 ufz (ufy * (kInt .i64).size) 0) :: Lr) := p8
    refine guard_some' h fun g62 h => ?_
    refine Op_.ap_n (K := (kInt .i64)) 104 (.tmp 47) (.tmp 50) 51 104 98 6 (.i 0) 8 v49.length c53 1 v49 [v35.X] (v49 ++ [v35.X]) (Gp (some b56)) 1 rfl rfl rfl p8 rfl (f55.ext z8) Goes.v (by kernel_rfl) (by kernel_rfl) (by kernel_rfl) (by kernel_rfl) rfl (by decide) (f57.ext z8) (src_own p8 (q := 0) rfl) (by have := g62; omega) (by have := g62; omega) ?_
    intro w9 G63 c64 ubj z9 p9 f66
    refine Goes.rn 5 [(6, .slice (Gp G63) ((v49 ++ [v35.X]).length) c64)] Jof ?_
    have p9 := ((p9.dp 0).dp 0).dp 0
    have p9 := ((((((((p9.fr 2).fr 2).fr 2).fr 8).fr 8).fr 8).fr 8).fr 8).fr 8
    exact Goes.jp 52 [(0, (pt gx0 0)), (1, (pt ug0 0)), (6, .slice (Gp G63) ((v49 ++ [v35.X]).length) c64)] (uk6 _ _ h _ _ (((((((hx.trans z3).trans z4).trans z5).trans z6).trans z7).trans z8).trans z9) G63 ((v49 ++ [v35.X]).length) c64 ubj ucl y25.2.place.length ucn uco uh9 y25.2.list.length uhb uhc p9 f66 rfl (fs2.ext ((((((z3.trans z4).trans z5).trans z6).trans z7).trans z8).trans z9)) rfl (fs4.ext ((((((z3.trans z4).trans z5).trans z6).trans z7).trans z8).trans z9)) rfl (fs6.ext ((((((z3.trans z4).trans z5).trans z6).trans z7).trans z8).trans z9)) rfl (ucp.ext (((((z4.trans z5).trans z6).trans z7).trans z8).trans z9)) rfl (uhd.ext (((((z4.trans z5).trans z6).trans z7).trans z8).trans z9)) rfl)
   ·
    rw [decide_eq_false h42]
    refine Goes.rn 7 [(41, .bool (decide (v35.Op = 4))), (40, .bool (decide (v35.Op = 4)))] Jp6 ?_
    refine ite_some h (fun h67 h => ?_) (fun h67 h => ?_)
    ·
     rw [decide_eq_true h67]
     refine Goes.rn 6 [(47, .slice (Gp (some b18)) ((sl x6 0 (wr .i64 ((x6.length : Int) - 1))).length) cx6), (48, (pt b40 5))] Jp5 ?_
     refine Goes.ld 3 (.tmp 48) 49 3 ⟨b40, 5, none⟩ (.i v35.X) (p5.c 0 5) ?_
     have f69 : Els (kInt .i64) S3 w5 ([.i v35.X] : List Value) [v35.X] := by exact (Els.cons (K := (kInt .i64)) (vs := [.i v35.X]) (x := v35.X) rfl Els.nil)
     refine Op_.made (.buildSlice 104 1 #[(0, (.tmp 49))]) 50 104 (fun b => .slice (Gp (some b)) 1 1) 98 ([.i v35.X] : List Value) p5 Goes.v (by kernel_rfl) ?_
     intro b68 w10 z10 p10
     have p10 : Hp nz wz S3 w10 (((some b68), .row 98 ([.i v35.X] : List Value) (1 * (kInt .i64).size) 0) :: (some b40, .row 89 (.i v35.Op :: U4 v35.Set [.i v35.X, .i v35.Y]) 7 0) :: (some ug0, .row 106 [.slice (Gp ucl) y25.2.place.length ucn, .slice (Gp uh9) y25.2.list.length uhb] 2 0) :: (ucl, .row 3 uco (ucn * (kInt .i64).size) 0) :: (uh9, .row 98 uhc (uhb * (kInt .i64).size) 0) :: ((some b18), .row 98 uh8 (cx6 * (kInt .i64).size) 0) :: (some gx0, .row 97 [.slice (Gp (some b32)) x0v.l.length uad, (pt ufr 0), (pt ug0 0)] 3 0) :: ((some b32), .row 89 uae (uad * kT88.size) 0) :: (some ufr, .row 106 [.slice (Gp ufs) x0v.now.place.length ufu, .slice (Gp ufw) x0v.now.list.length ufy] 2 0) :: (ufs, .row 3 ufv (ufu * (kInt .i64).size) 0) :: (ufw, .row 98 ufz (ufy * (kInt .i64).size) 0) :: Lr) := p10
     refine let_some h fun v74 e75 h => ?_
     refine guard_some' h fun g76 h => ?_
     refine Op_.ap_n (K := (kInt .i64)) 104 (.tmp 47) (.tmp 50) 51 104 98 5 (.i 0) 8 ((sl x6 0 (wr .i64 ((x6.length : Int) - 1))).length) cx6 1 (sl x6 0 (wr .i64 ((x6.length : Int) - 1))) [v35.X] v74 (Gp (some b68)) 1 rfl rfl e75 p10 rfl (f24.ext (((z3.trans z4).trans z5).trans z10)) Goes.v (by kernel_rfl) (by kernel_rfl) (by kernel_rfl) (by kernel_rfl) rfl (by decide) (f69.ext z10) (src_own p10 (q := 0) rfl) (by have := g76; omega) (by have := g76; omega) ?_
     intro w11 G77 c78 ubm z11 p11 f80
     refine Goes.rn 5 [(6, .slice (Gp G77) v74.length c78)] Jof ?_
     have p11 := (p11.dp 0).dp 0
     have p11 := ((((((((p11.fr 2).fr 2).fr 2).fr 8).fr 8).fr 8).fr 8).fr 8).fr 8
     exact Goes.jp 52 [(0, (pt gx0 0)), (1, (pt ug0 0)), (6, .slice (Gp G77) v74.length c78)] (uk6 _ _ h _ _ (((((hx.trans z3).trans z4).trans z5).trans z10).trans z11) G77 v74.length c78 ubm ucl y25.2.place.length ucn uco uh9 y25.2.list.length uhb uhc p11 f80 rfl (fs2.ext ((((z3.trans z4).trans z5).trans z10).trans z11)) rfl (fs4.ext ((((z3.trans z4).trans z5).trans z10).trans z11)) rfl (fs6.ext ((((z3.trans z4).trans z5).trans z10).trans z11)) rfl (ucp.ext (((z4.trans z5).trans z10).trans z11)) rfl (uhd.ext (((z4.trans z5).trans z10).trans z11)) rfl)
    ·
     rw [decide_eq_false h67]
     refine Goes.rn 5 [] Jof ?_
     have p5 := p5.dp 0
     have p5 := ((((((((p5.fr 2).fr 2).fr 2).fr 8).fr 8).fr 8).fr 8).fr 8).fr 8
     exact Goes.jp 52 [(0, (pt gx0 0)), (1, (pt ug0 0)), (6, .slice (Gp (some b18)) ((sl x6 0 (wr .i64 ((x6.length : Int) - 1))).length) cx6)] (uk6 _ _ h _ _ (((hx.trans z3).trans z4).trans z5) (some b18) ((sl x6 0 (wr .i64 ((x6.length : Int) - 1))).length) cx6 uh8 ucl y25.2.place.length ucn uco uh9 y25.2.list.length uhb uhc p5 (f24.ext ((z3.trans z4).trans z5)) rfl (fs2.ext ((z3.trans z4).trans z5)) rfl (fs4.ext ((z3.trans z4).trans z5)) rfl (fs6.ext ((z3.trans z4).trans z5)) rfl (ucp.ext (z4.trans z5)) rfl (uhd.ext (z4.trans z5)) rfl)
  ·
   have u3p : y25.1 = false := by simpa using h29
   rw [u3p]
   refine Goes.rn 3 [] Jof ?_
   have p3 := ((((((((p3.fr 2).fr 2).fr 2).fr 8).fr 8).fr 8).fr 8).fr 8).fr 8
   exact Goes.jp 52 [(0, (pt gx0 0)), (1, (pt ug0 0)), (6, .slice (Gp (some b18)) ((sl x6 0 (wr .i64 ((x6.length : Int) - 1))).length) cx6)] (uk6 _ _ h _ _ (hx.trans z3) (some b18) ((sl x6 0 (wr .i64 ((x6.length : Int) - 1))).length) cx6 uh8 ucl y25.2.place.length ucn uco uh9 y25.2.list.length uhb uhc p3 (f24.ext z3) rfl (fs2.ext z3) rfl (fs4.ext z3) rfl (fs6.ext z3) rfl ucp rfl uhd rfl)
 ·
  rw [decide_eq_false h15]
  refine Goes.rn 2 [] [] ?_
  obtain rfl := Option.some.inj h
  have p1 := p1.dp 0
  exact Goes.end_ (fn := Try.f47) (by kernel_rfl) (v := .tuple #[]) (by kernel_rfl) ⟨S1, ujx, e2v.place.length, ujz, uk0, uk1, e2v.list.length, uk3, uk4, rfl, hx, p1, uk7, rfl, uk9, rfl⟩

theorem W.z3c (x0v : T96) (x2 : Int) (r : T105) (h : M.sim_Runner_stand_2 x0v x2 = some r) {nz wz S0 w0 Lr} (gx0 uab uac uad uae ufr ufs uft ufu ufv ufw ufx ufy ufz ug0 ug1 ug2 ug3 ug4 ug5 ug6 ug7 ug8) (p0 : Hp nz wz S0 w0 ((some gx0, .row 97 [.slice (Gp uab) uac uad, (pt ufr 0), (pt ug0 0)] 3 0) :: (uab, .row 89 uae (uad * kT88.size) 0) :: (some ufr, .row 106 [.slice (Gp ufs) uft ufu, .slice (Gp ufw) ufx ufy] 2 0) :: (ufs, .row 3 ufv (ufu * (kInt .i64).size) 0) :: (ufw, .row 98 ufz (ufy * (kInt .i64).size) 0) :: (some ug0, .row 106 [.slice (Gp ug1) ug2 ug3, .slice (Gp ug5) ug6 ug7] 2 0) :: (ug1, .row 3 ug4 (ug3 * (kInt .i64).size) 0) :: (ug5, .row 98 ug8 (ug7 * (kInt .i64).size) 0) :: Lr)) (uaf : Els kT88 S0 w0 uae x0v.l) (uag : x0v.l.length = uac) (ug9 : Els (kInt .i64) S0 w0 ufv x0v.now.place) (uga : x0v.now.place.length = uft) (ugb : Els (kInt .i64) S0 w0 ufz x0v.now.list) (ugc : x0v.now.list.length = ufx) (ugd : Els (kInt .i64) S0 w0 ug4 x0v.next.place) (uge : x0v.next.place.length = ug2) (ugf : Els (kInt .i64) S0 w0 ug8 x0v.next.list) (ugg : x0v.next.list.length = ug6) :
  Calls Try.prog 47 #[(pt gx0 0), (pt ug0 0), .i x2] w0 (Rets (Post.z3c nz wz S0 w0 Lr gx0 uab uac uad uae ufr ufs uft ufu ufv ufw ufx ufy ufz ug0 x0v r)) := by
 subst uag
 subst uga
 subst ugc
 subst uge
 subst ugg
 refine calls_of_goes (fn := Try.f47) (c := B47) (by kernel_rfl) (by kernel_rfl) 49 (by kernel_rfl) ?_
 refine Goes.jp 52 [(0, (pt gx0 0)), (1, (pt ug0 0)), (2, .i x2)] (fun junk => ?_)
 delta M.sim_Runner_stand_2 at h
 refine Goes.rn 3 [(9, .i x2)] Jp8 ?_
 have f10 : Els (kInt .i64) S0 w0 ([.i x2] : List Value) [x2] := by exact (Els.cons (K := (kInt .i64)) (vs := [.i x2]) (x := x2) rfl Els.nil)
 refine Op_.made (.buildSlice 104 1 #[(0, (.tmp 9))]) 10 104 (fun b => .slice (Gp (some b)) 1 1) 98 ([.i x2] : List Value) p0 Goes.v (by kernel_rfl) ?_
 intro b9 w2 z2 p2
 have p2 : Hp nz wz S0 w2 (((some b9), .row 98 ([.i x2] : List Value) (1 * (kInt .i64).size) 0) :: (some gx0, .row 97 [.slice (Gp uab) x0v.l.length uad, (pt ufr 0), (pt ug0 0)] 3 0) :: (uab, .row 89 uae (uad * kT88.size) 0) :: (some ufr, .row 106 [.slice (Gp ufs) x0v.now.place.length ufu, .slice (Gp ufw) x0v.now.list.length ufy] 2 0) :: (ufs, .row 3 ufv (ufu * (kInt .i64).size) 0) :: (ufw, .row 98 ufz (ufy * (kInt .i64).size) 0) :: (some ug0, .row 106 [.slice (Gp ug1) x0v.next.place.length ug3, .slice (Gp ug5) x0v.next.list.length ug7] 2 0) :: (ug1, .row 3 ug4 (ug3 * (kInt .i64).size) 0) :: (ug5, .row 98 ug8 (ug7 * (kInt .i64).size) 0) :: Lr) := p2
 refine Goes.rn 4 [(6, .slice (Gp (some b9)) 1 1)] Jof ?_
 exact Goes.jp 52 [(0, (pt gx0 0)), (1, (pt ug0 0)), (6, .slice (Gp (some b9)) 1 1)] (W.z3d gx0 uab x0v.l.length uad uae ufr ufs x0v.now.place.length ufu ufv ufw x0v.now.list.length ufy ufz ug0 _ _ h _ _ ((Ext.refl S0 w0).trans z2) (some b9) 1 1 ([.i x2] : List Value) ug1 x0v.next.place.length ug3 ug4 ug5 x0v.next.list.length ug7 ug8 p2 (f10.ext z2) rfl (uaf.ext z2) rfl (ug9.ext z2) rfl (ugb.ext z2) rfl (ugd.ext z2) rfl (ugf.ext z2) rfl)

def Qkv := sub [1, 1, 1, 0, 1, 0, 1, 0] B27
def Jq7 : List Item := .code Qkv :: J7c
def Qkw := sub [1, 1, 1, 0, 1, 0] B27
def Qkx := sub [1, 1, 1, 0, 1, 0, 1] B27

def Post.z3e (lk : Nat) (rk : Nat) (jkk : Nat → Value) (u46 : Nat) (ukb : Nat) (ukc : Option Nat) (ukd : Nat) (uke : Nat) (ukf : List Value) (ukg : Nat) (ukh : Option Nat) (uki : Nat) (ukj : Nat) (ukk : List Value) (ukl : Option Nat) (ukm : Nat) (ukn : Nat) (uko : List Value) (ukp : Nat) (ukq : Nat) (ukr : Nat) (uks : T96) (ukt : Int) (r : T105) (v : Value) (w' : World) : Prop :=
 ∃ S' uku ukv ukw ukx uky ukz ul0 ul1, v = .bool true ∧ Ext S0 w0 S' w' ∧ Hp nz wz S' w' ((some lk, .obj (lpst 27 (lfr 42 [(2, (pt u46 0)), (16, .func (.func 67) #[] #[(pt ukq 0), (pt ukr 0)])] jkk) #[17] (rfAssign (Qkw)) (rfBody (Qkw)) rk .ready none)) :: (some u46, .row 63 [(pt ukb 0)] 1 0) :: (some ukb, .row 97 [.slice (Gp ukc) ukd uke, (pt ukg 0), (pt ukp 0)] 3 0) :: (ukc, .row 89 ukf (uke * kT88.size) 0) :: (some ukg, .row 106 [.slice (Gp ukh) uki ukj, .slice (Gp ukl) ukm ukn] 2 0) :: (ukh, .row 3 ukk (ukj * (kInt .i64).size) 0) :: (ukl, .row 98 uko (ukn * (kInt .i64).size) 0) :: (some ukp, .row 106 [.slice (Gp uku) ukv ukw, .slice (Gp uky) ukz ul0] 2 0) :: (uku, .row 3 ukx (ukw * (kInt .i64).size) 0) :: (uky, .row 98 ul1 (ul0 * (kInt .i64).size) 0) :: (some ukq, .row 63 [(pt ukb 0)] 1 0) :: (some ukr, .row 5 [.int .u8 ukt] 1 0) :: Lr) ∧ Els (kInt .i64) S' w' ukx r.place ∧ r.place.length = ukv ∧ Els (kInt .i64) S' w' ul1 r.list ∧ r.list.length = ukz

theorem W.z3e (uks : T96) (ukt : Int) (a0 : Int) (r : T105) (h : M.sim_Runner_Feed_r uks ukt a0 = some r) {nz wz S0 w0 Lr} (lk rk jkk u46 ukb ukc ukd uke ukf ukg ukh uki ukj ukk ukl ukm ukn uko ukp ul2 ul3 ul4 ul5 ul6 ul7 ul8 ul9 ukq ukr) (p0 : Hp nz wz S0 w0 ((some lk, .obj (lpst 27 (lfr 42 [(2, (pt u46 0)), (16, .func (.func 67) #[] #[(pt ukq 0), (pt ukr 0)])] jkk) #[17] (rfAssign (Qkw)) (rfBody (Qkw)) rk .ready none)) :: (some u46, .row 63 [(pt ukb 0)] 1 0) :: (some ukb, .row 97 [.slice (Gp ukc) ukd uke, (pt ukg 0), (pt ukp 0)] 3 0) :: (ukc, .row 89 ukf (uke * kT88.size) 0) :: (some ukg, .row 106 [.slice (Gp ukh) uki ukj, .slice (Gp ukl) ukm ukn] 2 0) :: (ukh, .row 3 ukk (ukj * (kInt .i64).size) 0) :: (ukl, .row 98 uko (ukn * (kInt .i64).size) 0) :: (some ukp, .row 106 [.slice (Gp ul2) ul3 ul4, .slice (Gp ul6) ul7 ul8] 2 0) :: (ul2, .row 3 ul5 (ul4 * (kInt .i64).size) 0) :: (ul6, .row 98 ul9 (ul8 * (kInt .i64).size) 0) :: (some ukq, .row 63 [(pt ukb 0)] 1 0) :: (some ukr, .row 5 [.int .u8 ukt] 1 0) :: Lr)) (ula : Els kT88 S0 w0 ukf uks.l) (ulb : uks.l.length = ukd) (ulc : Els (kInt .i64) S0 w0 ukk uks.now.place) (uld : uks.now.place.length = uki) (ule : Els (kInt .i64) S0 w0 uko uks.now.list) (ulf : uks.now.list.length = ukm) (ulg : Els (kInt .i64) S0 w0 ul5 uks.next.place) (ulh : uks.next.place.length = ul3) (uli : Els (kInt .i64) S0 w0 ul9 uks.next.list) (ulj : uks.next.list.length = ul7) :
  Goes Try.prog (rbase 27 lk) [.code (rfAssign (Qkw)), .beginRound, .code (rfBody (Qkw))] ⟨setp (lfr 42 [(2, (pt u46 0)), (16, .func (.func 67) #[] #[(pt ukq 0), (pt ukr 0)])] jkk) #[17] #[.i a0], []⟩ w0 (DoneR (Post.z3e nz wz S0 w0 Lr lk rk jkk u46 ukb ukc ukd uke ukf ukg ukh uki ukj ukk ukl ukm ukn uko ukp ukq ukr uks ukt r)) := by
 subst ulb
 subst uld
 subst ulf
 subst ulh
 subst ulj
 refine Goes.jp 42 [(2, (pt u46 0)), (16, .func (.func 67) #[] #[(pt ukq 0), (pt ukr 0)]), (17, .i a0)] (fun junk => ?_)
 delta M.sim_Runner_Feed_r at h
 refine Goes.rn 3 [(5, .i a0)] [.beginRound, .code (Qkx)] ?_
 refine Goes.beginR 0 rfl p0 rfl ?_
 intro w2 z2 p2
 refine Goes.rn 1 [] Jq7 ?_
 have z3 : Ext S0 w2 S0 (w2).drew := Ext.draw
 have p3 := p2.draw
 refine Goes.drawn (s := [6]) (F := Fc S0 (w2).drew [(⟨u46, 0, none⟩, (pt ukb 0)), (⟨ukb, 2, none⟩, (pt ukp 0))]) 6 7 (by kernel_rfl) (by kernel_rfl) (by kernel_rfl) (by kernel_rfl) ?_
 generalize (w2).drew = w3 at z3 p3 ⊢
 refine AnyG.ld1 (i := 0) 63 (.tmp 2) 18 63 ⟨u46, 0, none⟩ ((pt ukb 0)) (by kernel_rfl) (by kernel_rfl) (Fc.here (p3.cs [(1, 0, 1), (2, 2, 1)])) (by kernel_rfl) (by kernel_rfl) (fun _ h => h.2.at_ 0 rfl) ?_
 refine AnyG.ld1 (i := 1) 63 (.tmp 2) 19 63 ⟨u46, 0, none⟩ ((pt ukb 0)) (by kernel_rfl) (by kernel_rfl) (Fc.here (p3.cs [(1, 0, 1), (2, 2, 1)])) (by kernel_rfl) (by kernel_rfl) (fun _ h => h.2.at_ 0 rfl) ?_
 refine AnyG.pu 2 (.nilCheck (.tmp 19)) 20 0 ((pt ukb 0)) (Fc.here (p3.cs [(1, 0, 1), (2, 2, 1)])) ?_
 refine AnyG.pu 3 (.fieldAddr 97 (.tmp 20) 2) 21 0 ((pt ukb 2)) (Fc.here (p3.cs [(1, 0, 1), (2, 2, 1)])) ?_
 refine AnyG.ld1 (i := 4) 95 (.tmp 21) 22 95 ⟨ukb, 2, none⟩ ((pt ukp 0)) (by kernel_rfl) (by kernel_rfl) (Fc.here (p3.cs [(1, 0, 1), (2, 2, 1)])) (by kernel_rfl) (by kernel_rfl) (fun _ h => h.2.at_ 1 rfl) ?_
 refine AnyG.pu 5 (.move (.tmp 5)) 23 98 (.i a0) (Fc.here (p3.cs [(1, 0, 1), (2, 2, 1)])) ?_
 have p3 := (((((((p3.fr 9).fr 9).fr 9).fr 9).fr 9).fr 9).fr 9).fr 9
 refine bind_some' h fun y13 e14 h => ?_
 refine Op_.call (kc 47 [18, 22, 23] #[63, 95, 98]) 24 0 47 #[(pt ukb 0), (pt ukp 0), .i a0] (AnyG.cs (i := 6) (by kernel_rfl) (by kernel_rfl)) (by kernel_rfl) (W.z3c uks a0 y13 e14 ukb ukc uks.l.length uke ukf ukg ukh uks.now.place.length ukj ukk ukl uks.now.list.length ukn uko ukp ul2 uks.next.place.length ul4 ul5 ul6 uks.next.list.length ul8 ul9 p3 (ula.ext (z2.trans z3)) rfl (ulc.ext (z2.trans z3)) rfl (ule.ext (z2.trans z3)) rfl (ulg.ext (z2.trans z3)) rfl (uli.ext (z2.trans z3)) rfl) ?_
 rintro _ w4 ⟨S4, ulk, ull, ulm, uln, ulo, ulp, ulq, ulr, rfl, z4, p4, uls, rfl, ult, rfl⟩
 refine AnyG.last [] (Fc S4 w4 []) (by decide) ?_
 refine AnyG.done (by kernel_rfl) ?_ _
 refine Goes.rn 1 [] [] ?_
 have p4 := (((((((((((p4.fr 11).fr 11).fr 9).fr 9).fr 9).fr 9).fr 9).fr 9).fr 9).fr 9).fr 11).fr 11
 obtain rfl := Option.some.inj h
 refine Goes.endR 0 p4 rfl ?_
 intro w5 z5 p5
 exact ⟨S4, ulk, y13.place.length, ulm, uln, ulo, y13.list.length, ulq, ulr, rfl, (((((Ext.refl S0 w0).trans z2).trans z3).trans z4).trans z5), p5, (uls.ext z5), rfl, (ult.ext z5), rfl⟩

def Qky := sub [1, 0, 0] B67
def Jq8 : List Item := .inLoop Qky :: J7e
def Jq9 : List Item := .code Qky :: Jq8
def Qkz := sub [1, 0, 0, 1, 1, 1] B67
def Jqa : List Item := .code Qkz :: Jq8
def Jqb : List Item := .inBlock 1 :: Jqa
def Ql0 := sub [1, 0, 0, 1, 1, 0, 0, 1, 1, 1] B67
def Jqc : List Item := .code Ql0 :: Jqb
def Ql1 := sub [1, 0, 0, 1, 1] B67
def Jqd : List Item := .code Ql1 :: Jq8
def Ql2 := sub [1, 0, 0, 1, 0] B67
def Jqe : List Item := .code Ql2 :: Jqd
def Ql3 := sub [1, 0, 0, 1, 1, 0, 0, 1] B67
def Jqf : List Item := .code Ql3 :: Jqb
def Ql4 := sub [1, 0, 0, 1, 1, 0, 0, 0] B67
def Jqg : List Item := .inRegion (opsOf Ql4) [0, 1, 2] :: Jqf
def Ql5 := sub [1, 0, 0, 1, 1, 0, 0, 1, 1] B67
def Jqh : List Item := .code Ql5 :: Jqb
def Ql6 := sub [1, 0, 0, 1, 1, 0, 0, 1, 0] B67
def Jqi : List Item := .inRegion (opsOf Ql6) [0, 1, 2, 3, 4, 5, 6, 7, 8] :: Jqh
def Jqj : List Item := .inRegion (opsOf Ql6) [3, 4, 5, 6, 7, 8] :: Jqh
def Jqk : List Item := .inRegion (opsOf Ql6) [5, 6, 7, 8] :: Jqh
def Ql7 := sub [1, 0, 0, 1, 1, 0, 0, 1, 1, 0] B67
def Jql : List Item := .inRegion (opsOf Ql7) [1, 2, 3, 4, 5, 6, 7, 8, 9, 10, 11, 12, 13, 14, 15] :: Jqc
def Jqm : List Item := .inRegion (opsOf Ql7) [4, 5, 6, 7, 8, 9, 10, 11, 12, 13, 14, 15] :: Jqc
def Jqn : List Item := .inRegion (opsOf Ql7) [5, 6, 7, 8, 9, 10, 11, 12, 13, 14, 15] :: Jqc
def Jqo : List Item := .inRegion (opsOf Ql7) [10, 11, 12, 13, 14, 15] :: Jqc
def Jqp : List Item := .inRegion (opsOf Ql7) [12, 13, 14, 15] :: Jqc
def Ql8 := sub [1, 0, 0, 1, 1, 0, 0, 1, 1, 1, 0] B67
def Jqq : List Item := .code Ql8 :: Jqb

def Post.z3f (lx0 : Nat) (rx0 : Nat) (u4q : Nat → Value) (u4r : Nat) (ulu : Nat) (ulv : Option Nat) (ulw : Nat) (ulx : Nat) (uly : List Value) (ulz : Nat) (um0 : Option Nat) (um1 : Nat) (um2 : Nat) (um3 : List Value) (um4 : Option Nat) (um5 : Nat) (um6 : Nat) (um7 : List Value) (um8 : Nat) (um9 : Nat) (uma : Nat) (umb : T96) (umc : Int) (r : T105) (v : Value) (w' : World) : Prop :=
 ∃ S' uku ukv ukw ukx uky ukz ul0 ul1, v = .tuple #[] ∧ Ext S0 w0 S' w' ∧ Hp nz wz S' w' ((some lx0, .obj (lpst 27 (lfr 42 [(2, (pt u4r 0)), (16, .func (.func 67) #[] #[(pt um9 0), (pt uma 0)])] u4q) #[17] (rfAssign (Qkw)) (rfBody (Qkw)) rx0 .ready none)) :: (some u4r, .row 63 [(pt ulu 0)] 1 0) :: (some ulu, .row 97 [.slice (Gp ulv) ulw ulx, (pt ulz 0), (pt um8 0)] 3 0) :: (ulv, .row 89 uly (ulx * kT88.size) 0) :: (some ulz, .row 106 [.slice (Gp um0) um1 um2, .slice (Gp um4) um5 um6] 2 0) :: (um0, .row 3 um3 (um2 * (kInt .i64).size) 0) :: (um4, .row 98 um7 (um6 * (kInt .i64).size) 0) :: (some um8, .row 106 [.slice (Gp uku) ukv ukw, .slice (Gp uky) ukz ul0] 2 0) :: (uku, .row 3 ukx (ukw * (kInt .i64).size) 0) :: (uky, .row 98 ul1 (ul0 * (kInt .i64).size) 0) :: (some um9, .row 63 [(pt ulu 0)] 1 0) :: (some uma, .row 5 [.int .u8 umc] 1 0) :: Lr) ∧ Els (kInt .i64) S' w' ukx r.place ∧ r.place.length = ukv ∧ Els (kInt .i64) S' w' ul1 r.list ∧ r.list.length = ukz

def L.z3g (lx0 : Nat) (rx0 : Nat) (u4q : Nat → Value) (u4r : Nat) (ulu : Nat) (ulv : Option Nat) (ulw : Nat) (ulx : Nat) (uly : List Value) (ulz : Nat) (um0 : Option Nat) (um1 : Nat) (um2 : Nat) (um3 : List Value) (um4 : Option Nat) (um5 : Nat) (um6 : Nat) (um7 : List Value) (um8 : Nat) (um9 : Nat) (uma : Nat) : Int × Int × T105 × T96 × Int → T105 → Prop := fun ⟨x14, x15, e4v, umb, umc⟩ r => ∀ S1 w1, Ext S0 w0 S1 w1 → ∀ uku ukv ukw ukx uky ukz ul0 ul1 (_ : Hp nz wz S1 w1 ((some lx0, .obj (lpst 27 (lfr 42 [(2, (pt u4r 0)), (16, .func (.func 67) #[] #[(pt um9 0), (pt uma 0)])] u4q) #[17] (rfAssign (Qkw)) (rfBody (Qkw)) rx0 .ready none)) :: (some u4r, .row 63 [(pt ulu 0)] 1 0) :: (some ulu, .row 97 [.slice (Gp ulv) ulw ulx, (pt ulz 0), (pt um8 0)] 3 0) :: (ulv, .row 89 uly (ulx * kT88.size) 0) :: (some ulz, .row 106 [.slice (Gp um0) um1 um2, .slice (Gp um4) um5 um6] 2 0) :: (um0, .row 3 um3 (um2 * (kInt .i64).size) 0) :: (um4, .row 98 um7 (um6 * (kInt .i64).size) 0) :: (some um8, .row 106 [.slice (Gp uku) ukv ukw, .slice (Gp uky) ukz ul0] 2 0) :: (uku, .row 3 ukx (ukw * (kInt .i64).size) 0) :: (uky, .row 98 ul1 (ul0 * (kInt .i64).size) 0) :: (some um9, .row 63 [(pt ulu 0)] 1 0) :: (some uma, .row 5 [.int .u8 umc] 1 0) :: Lr)) (_ : Els kT88 S1 w1 uly umb.l) (_ : umb.l.length = ulw) (_ : Els (kInt .i64) S1 w1 um3 umb.now.place) (_ : umb.now.place.length = um1) (_ : Els (kInt .i64) S1 w1 um7 umb.now.list) (_ : umb.now.list.length = um5) (_ : Els (kInt .i64) S1 w1 ukx e4v.place) (_ : e4v.place.length = ukv) (_ : Els (kInt .i64) S1 w1 ul1 e4v.list) (_ : e4v.list.length = ukz) (junk : Nat → Value),
 Goes Try.prog (base 67) Jq9 ⟨lfr 43 [(0, yieldV lx0), (1, (pt um9 0)), (2, (pt uma 0)), (13, .slice (Gp um4) um5 um6), (14, .i x14), (15, .i x15)] junk, []⟩ w1 (Done Try.prog 67 (Rets (Post.z3f nz wz S0 w0 Lr lx0 rx0 u4q u4r ulu ulv ulw ulx uly ulz um0 um1 um2 um3 um4 um5 um6 um7 um8 um9 uma umb umc r)))

def L.z3h (lx0 : Nat) (rx0 : Nat) (u4q : Nat → Value) (u4r : Nat) (ulu : Nat) (ulv : Option Nat) (ulw : Nat) (ulx : Nat) (uly : List Value) (ulz : Nat) (um0 : Option Nat) (um1 : Nat) (um2 : Nat) (um3 : List Value) (um4 : Option Nat) (um5 : Nat) (um6 : Nat) (um7 : List Value) (um8 : Nat) (um9 : Nat) (uma : Nat) : Int × Int × Bool × T105 × T96 × Int → T105 → Prop := fun ⟨x14, x15, x41, e4v, umb, umc⟩ r => ∀ S1 w1, Ext S0 w0 S1 w1 → ∀ uku ukv ukw ukx uky ukz ul0 ul1 (_ : Hp nz wz S1 w1 ((some lx0, .obj (lpst 27 (lfr 42 [(2, (pt u4r 0)), (16, .func (.func 67) #[] #[(pt um9 0), (pt uma 0)])] u4q) #[17] (rfAssign (Qkw)) (rfBody (Qkw)) rx0 .ready none)) :: (some u4r, .row 63 [(pt ulu 0)] 1 0) :: (some ulu, .row 97 [.slice (Gp ulv) ulw ulx, (pt ulz 0), (pt um8 0)] 3 0) :: (ulv, .row 89 uly (ulx * kT88.size) 0) :: (some ulz, .row 106 [.slice (Gp um0) um1 um2, .slice (Gp um4) um5 um6] 2 0) :: (um0, .row 3 um3 (um2 * (kInt .i64).size) 0) :: (um4, .row 98 um7 (um6 * (kInt .i64).size) 0) :: (some um8, .row 106 [.slice (Gp uku) ukv ukw, .slice (Gp uky) ukz ul0] 2 0) :: (uku, .row 3 ukx (ukw * (kInt .i64).size) 0) :: (uky, .row 98 ul1 (ul0 * (kInt .i64).size) 0) :: (some um9, .row 63 [(pt ulu 0)] 1 0) :: (some uma, .row 5 [.int .u8 umc] 1 0) :: Lr)) (_ : Els kT88 S1 w1 uly umb.l) (_ : umb.l.length = ulw) (_ : Els (kInt .i64) S1 w1 um3 umb.now.place) (_ : umb.now.place.length = um1) (_ : Els (kInt .i64) S1 w1 um7 umb.now.list) (_ : umb.now.list.length = um5) (_ : Els (kInt .i64) S1 w1 ukx e4v.place) (_ : e4v.place.length = ukv) (_ : Els (kInt .i64) S1 w1 ul1 e4v.list) (_ : e4v.list.length = ukz) (junk : Nat → Value),
 Goes Try.prog (base 67) Jqc ⟨lfr 43 [(0, yieldV lx0), (1, (pt um9 0)), (2, (pt uma 0)), (13, .slice (Gp um4) um5 um6), (14, .i x14), (15, .i x15), (41, .bool x41)] junk, []⟩ w1 (Done Try.prog 67 (Rets (Post.z3f nz wz S0 w0 Lr lx0 rx0 u4q u4r ulu ulv ulw ulx uly ulz um0 um1 um2 um3 um4 um5 um6 um7 um8 um9 uma umb umc r)))

theorem W.z3i {nz wz S0 w0 Lr} (lx0 : Nat) (rx0 : Nat) (u4q : Nat → Value) (u4r : Nat) (ulu : Nat) (ulv : Option Nat) (ulw : Nat) (ulx : Nat) (uly : List Value) (ulz : Nat) (um0 : Option Nat) (um1 : Nat) (um2 : Nat) (um3 : List Value) (um4 : Option Nat) (um5 : Nat) (um6 : Nat) (um7 : List Value) (um8 : Nat) (um9 : Nat) (uma : Nat) : (∀ a r, M.sim_Runner_led_1_l0 a = some r → (L.z3g nz wz S0 w0 Lr lx0 rx0 u4q u4r ulu ulv ulw ulx uly ulz um0 um1 um2 um3 um4 um5 um6 um7 um8 um9 uma) a r) ∧ (∀ a r, M.sim_Runner_led_1_l1 a = some r → (L.z3h nz wz S0 w0 Lr lx0 rx0 u4q u4r ulu ulv ulw ulx uly ulz um0 um1 um2 um3 um4 um5 um6 um7 um8 um9 uma) a r) := by
 refine M.sim_Runner_led_1_l0.mutual_partial_correctness (L.z3g nz wz S0 w0 Lr lx0 rx0 u4q u4r ulu ulv ulw ulx uly ulz um0 um1 um2 um3 um4 um5 um6 um7 um8 um9 uma) (L.z3h nz wz S0 w0 Lr lx0 rx0 u4q u4r ulu ulv ulw ulx uly ulz um0 um1 um2 um3 um4 um5 um6 um7 um8 um9 uma) ?_ ?_
 ·
  intro umd ume ⟨x14, x15, e4v, umb, umc⟩ r h S1 w1 hx uku ukv ukw ukx uky ukz ul0 ul1 p1 fs0 ls0 fs2 ls2 fs4 ls4 umf umg umh umi junk
  try dsimp only at h
  subst ls0
  subst ls2
  subst ls4
  subst umg
  subst umi
  refine Goes.rn 5 [(16, .bool (decide (x15 < x14)))] Jqe ?_
  refine ite_some h (fun h15 h => ?_) (fun h15 h => ?_)
  ·
   rw [decide_eq_true h15]
   refine Goes.rn 6 [] Jqg ?_
   refine guard_some' h fun g16 h => ?_
   refine guard_some' h fun g17 h => ?_
   refine Op_.ixO_n 104 (.tmp 13) (.tmp 15) 17 0 98 .i64 x15 6 umb.now.list.length um6 (gi umb.now.list x15) rfl rfl p1 rfl fs4 Goes.v (by kernel_rfl) (by kernel_rfl) (by kernel_rfl) (by kernel_rfl) (by decide) g16 g17 ?_
   rintro b18 _ rfl q20 f19
   obtain rfl := q20
   refine Goes.ld 98 (.tmp 17) 18 98 ⟨b18, (x15 : Int).toNat * (kInt .i64).size, none⟩ (.i (gi umb.now.list x15)) (f19 0 _ rfl) ?_
   refine Goes.rn 4 [(5, .i (gi umb.now.list x15))] Jqi ?_
   refine Goes.ld 63 (.tmp 1) 19 63 ⟨um9, 0, none⟩ ((pt ulu 0)) (p1.c 10 0) ?_
   refine Goes.rn 2 [(20, (pt ulu 0)), (21, (pt ulu 0))] Jqj ?_
   refine Goes.ld 35 (.tmp 21) 22 35 ⟨ulu, 0, none⟩ (.slice (Gp ulv) umb.l.length ulx) (p1.c 2 0) ?_
   refine Goes.rn 1 [(23, .i (gi umb.now.list x15))] Jqk ?_
   refine guard_some' h fun g22 h => ?_
   refine guard_some' h fun g23 h => ?_
   refine Op_.ixO_n 35 (.tmp 22) (.tmp 23) 24 0 89 .i64 (gi umb.now.list x15) 3 umb.l.length ulx (gi umb.l (gi umb.now.list x15)) rfl rfl p1 rfl fs0 Goes.v (by kernel_rfl) (by kernel_rfl) (by kernel_rfl) (by kernel_rfl) (by decide) g22 g23 ?_
   rintro b24 _ rfl q26 f25
   obtain ⟨_, _, rfl, rfl, ⟨_, _, rfl, ⟨l27, f28⟩, ⟨_, _, rfl, rfl, rfl⟩⟩⟩ := q26
   obtain rfl := els_lit4' f28 l27
   refine Goes.ldN 89 (.tmp 24) 25 89 ⟨b24, (gi umb.now.list x15 : Int).toNat * kT88.size, none⟩ ([.i ((gi umb.l (gi umb.now.list x15)).Op)] ++ ((U4 ((gi umb.l (gi umb.now.list x15)).Set) []) ++ ([.i ((gi umb.l (gi umb.now.list x15)).X)] ++ [.i ((gi umb.l (gi umb.now.list x15)).Y)]))) f25 ?_
   refine Op_.alloc 89 6 0 (.agg #[.i 0, .u 0, .u 0, .u 0, .u 0, .i 0, .i 0]) [.i 0, .u 0, .u 0, .u 0, .u 0, .i 0, .i 0] p1 Goes.v (by kernel_rfl) (by kernel_rfl) ?_
   intro b30 w2 z2 p2
   refine Op_.st 89 (.tmp 6) (.tmp 25) 0 0 b30 0 (ag (.i ((gi umb.l (gi umb.now.list x15)).Op) :: U4 ((gi umb.l (gi umb.now.list x15)).Set) [.i ((gi umb.l (gi umb.now.list x15)).X), .i ((gi umb.l (gi umb.now.list x15)).Y)])) (.i ((gi umb.l (gi umb.now.list x15)).Op) :: U4 ((gi umb.l (gi umb.now.list x15)).Set) [.i ((gi umb.l (gi umb.now.list x15)).X), .i ((gi umb.l (gi umb.now.list x15)).Y)]) p2 rfl Goes.s (by kernel_rfl) (by kernel_rfl) (by kernel_rfl) (by kernel_rfl) (Nat.zero_le _) (by simp only [List.length_cons, List.length_nil]; omega) (by simp [Value.oneCell']) ?_
   intro w3 z3 p3
   have p3 : Hp nz wz S1 w3 ((some b30, .row 89 (.i ((gi umb.l (gi umb.now.list x15)).Op) :: U4 ((gi umb.l (gi umb.now.list x15)).Set) [.i ((gi umb.l (gi umb.now.list x15)).X), .i ((gi umb.l (gi umb.now.list x15)).Y)]) 7 0) :: (some lx0, .obj (lpst 27 (lfr 42 [(2, (pt u4r 0)), (16, .func (.func 67) #[] #[(pt um9 0), (pt uma 0)])] u4q) #[17] (rfAssign (Qkw)) (rfBody (Qkw)) rx0 .ready none)) :: (some u4r, .row 63 [(pt ulu 0)] 1 0) :: (some ulu, .row 97 [.slice (Gp (some b24)) umb.l.length ulx, (pt ulz 0), (pt um8 0)] 3 0) :: ((some b24), .row 89 uly (ulx * kT88.size) 0) :: (some ulz, .row 106 [.slice (Gp um0) umb.now.place.length um2, .slice (Gp (some b18)) umb.now.list.length um6] 2 0) :: (um0, .row 3 um3 (um2 * (kInt .i64).size) 0) :: ((some b18), .row 98 um7 (um6 * (kInt .i64).size) 0) :: (some um8, .row 106 [.slice (Gp uku) e4v.place.length ukw, .slice (Gp uky) e4v.list.length ul0] 2 0) :: (uku, .row 3 ukx (ukw * (kInt .i64).size) 0) :: (uky, .row 98 ul1 (ul0 * (kInt .i64).size) 0) :: (some um9, .row 63 [(pt ulu 0)] 1 0) :: (some uma, .row 5 [.int .u8 umc] 1 0) :: Lr) := p3
   refine Goes.rn 4 [(26, (pt b30 0))] Jql ?_
   refine Goes.ld 3 (.tmp 26) 27 3 ⟨b30, 0, none⟩ (.i ((gi umb.l (gi umb.now.list x15)).Op)) (p3.c 0 0) ?_
   refine Goes.rn 2 [(28, .bool (decide ((gi umb.l (gi umb.now.list x15)).Op = 1))), (29, .bool (decide ((gi umb.l (gi umb.now.list x15)).Op = 1)))] Jqm ?_
   refine ite_some h (fun h32 h => ?_) (fun h32 h => ?_)
   ·
    rw [decide_eq_true h32]
    refine Goes.rn 1 [(30, (pt b30 1))] Jqn ?_
    refine Goes.ldN 25 (.tmp 30) 31 25 ⟨b30, 1, none⟩ (U4 ((gi umb.l (gi umb.now.list x15)).Set) []) (p3.pa 0 1) ?_
    refine Goes.ld 5 (.tmp 2) 32 5 ⟨uma, 0, none⟩ (.int .u8 umc) (p3.c 12 0) ?_
    refine bind_some' h fun y33 e34 h => ?_
    refine Goes.cal (kc 68 [31, 32] #[25, 5]) 33 4 68 _ (W.z3b ((gi umb.l (gi umb.now.list x15)).Set) umc y33 e34 ((U4 ((gi umb.l (gi umb.now.list x15)).Set) []) : List Value) p3 (els_mk4 (S := S1) (w := w3) (k := .u64) l27) rfl) ?_
    rintro _ w4 ⟨S4, rfl, z4, p4⟩
    refine Goes.rn 2 [(34, .bool y33), (35, .bool y33)] Jqo ?_
    refine ite_some h (fun h35 h => ?_) (fun h35 h => ?_)
    ·
     rw [h35]
     refine Goes.rn 2 [(36, yieldV lx0), (37, (pt b30 5))] Jqp ?_
     refine Goes.ld 3 (.tmp 37) 38 3 ⟨b30, 5, none⟩ (.i ((gi umb.l (gi umb.now.list x15)).X)) (p4.c 0 5) ?_
     have p4 := (((((((((((p4.fr 12).fr 12).fr 12).fr 12).fr 12).fr 12).fr 12).fr 12).fr 12).fr 12).fr 12).fr 12
     refine bind_some' h fun y36 e37 h => ?_
     refine Goes.yieldAt (.call { callee := .value (.tmp 36), args := #[(.tmp 38)], argTypes := #[98] }) 39 4 0 lx0 #[.i ((gi umb.l (gi umb.now.list x15)).X)] p4 rfl (by kernel_rfl) rfl (fun _ => by kernel_rfl) rfl (W.z3e (⟨umb.l, umb.now, e4v⟩ : T96) umc ((gi umb.l (gi umb.now.list x15)).X) y36 e37 lx0 rx0 u4q u4r ulu (some b24) umb.l.length ulx uly ulz um0 umb.now.place.length um2 um3 (some b18) umb.now.list.length um6 um7 um8 uku e4v.place.length ukw ukx uky e4v.list.length ul0 ul1 um9 uma p4 (fs0.ext ((z2.trans z3).trans z4)) rfl (fs2.ext ((z2.trans z3).trans z4)) rfl (fs4.ext ((z2.trans z3).trans z4)) rfl (umf.ext ((z2.trans z3).trans z4)) rfl (umh.ext ((z2.trans z3).trans z4)) rfl) ?_
     rintro _ w5 ⟨S5, umj, umk, uml, umm, umn, umo, ump, umq, rfl, z5, p5, umr, rfl, ums, rfl⟩
     refine Goes.rn 3 [(40, .bool (!true)), (41, .bool (!true))] Jqc ?_
     have p5 := p5.dp 12
     exact Goes.jp 43 [(0, yieldV lx0), (1, (pt um9 0)), (2, (pt uma 0)), (13, .slice (Gp (some b18)) umb.now.list.length um6), (14, .i x14), (15, .i x15), (41, .bool (!true))] (ume _ _ h _ _ ((((hx.trans z2).trans z3).trans z4).trans z5) umj y36.place.length uml umm umn y36.list.length ump umq p5 (fs0.ext (((z2.trans z3).trans z4).trans z5)) rfl (fs2.ext (((z2.trans z3).trans z4).trans z5)) rfl (fs4.ext (((z2.trans z3).trans z4).trans z5)) rfl umr rfl ums rfl)
    ·
     have umt : y33 = false := by simpa using h35
     rw [umt]
     refine Goes.rn 7 [(36, undef), (37, undef), (38, undef), (39, undef), (40, undef), (41, .bool false)] Jqc ?_
     have p4 := p4.dp 0
     exact Goes.jp 43 [(0, yieldV lx0), (1, (pt um9 0)), (2, (pt uma 0)), (13, .slice (Gp (some b18)) umb.now.list.length um6), (14, .i x14), (15, .i x15), (41, .bool false)] (ume _ _ h _ _ (((hx.trans z2).trans z3).trans z4) uku e4v.place.length ukw ukx uky e4v.list.length ul0 ul1 p4 (fs0.ext ((z2.trans z3).trans z4)) rfl (fs2.ext ((z2.trans z3).trans z4)) rfl (fs4.ext ((z2.trans z3).trans z4)) rfl (umf.ext ((z2.trans z3).trans z4)) rfl (umh.ext ((z2.trans z3).trans z4)) rfl)
   ·
    rw [decide_eq_false h32]
    refine Goes.rn 13 [(30, undef), (31, undef), (32, undef), (33, undef), (34, .bool false), (35, .bool false), (36, undef), (37, undef), (38, undef), (39, undef), (40, undef), (41, .bool false)] Jqc ?_
    have p3 := p3.dp 0
    exact Goes.jp 43 [(0, yieldV lx0), (1, (pt um9 0)), (2, (pt uma 0)), (13, .slice (Gp (some b18)) umb.now.list.length um6), (14, .i x14), (15, .i x15), (41, .bool false)] (ume _ _ h _ _ ((hx.trans z2).trans z3) uku e4v.place.length ukw ukx uky e4v.list.length ul0 ul1 p3 (fs0.ext (z2.trans z3)) rfl (fs2.ext (z2.trans z3)) rfl (fs4.ext (z2.trans z3)) rfl (umf.ext (z2.trans z3)) rfl (umh.ext (z2.trans z3)) rfl)
  ·
   rw [decide_eq_false h15]
   refine Goes.rn 2 [] [] ?_
   obtain rfl := Option.some.inj h
   exact Goes.end_ (fn := Try.f67) (by kernel_rfl) (v := .tuple #[]) (by kernel_rfl) ⟨S1, uku, e4v.place.length, ukw, ukx, uky, e4v.list.length, ul0, ul1, rfl, hx, p1, umf, rfl, umh, rfl⟩
 ·
  intro umu umv ⟨x14, x15, x41, e4v, umb, umc⟩ r h S1 w1 hx uku ukv ukw ukx uky ukz ul0 ul1 p1 fs0 ls0 fs2 ls2 fs4 ls4 umf umg umh umi junk
  try dsimp only at h
  subst ls0
  subst ls2
  subst ls4
  subst umg
  subst umi
  refine ite_some h (fun h42 h => ?_) (fun h42 h => ?_)
  ·
   rw [h42]
   refine Goes.rn 1 [] Jqq ?_
   obtain rfl := Option.some.inj h
   exact Goes.rt Try.f67 (.tuple #[]) ⟨S1, uku, e4v.place.length, ukw, ukx, uky, e4v.list.length, ul0, ul1, rfl, hx, p1, umf, rfl, umh, rfl⟩
  ·
   have umw : x41 = false := by simpa using h42
   rw [umw]
   refine Goes.rn 8 [(42, .i (wr .i64 (x15 + 1))), (15, .i (wr .i64 (x15 + 1)))] Jq9 ?_
   exact Goes.jp 43 [(0, yieldV lx0), (1, (pt um9 0)), (2, (pt uma 0)), (13, .slice (Gp um4) umb.now.list.length um6), (14, .i x14), (15, .i (wr .i64 (x15 + 1)))] (umv _ _ h _ _ hx uku e4v.place.length ukw ukx uky e4v.list.length ul0 ul1 p1 fs0 rfl fs2 rfl fs4 rfl umf rfl umh rfl)

theorem W.z3g {nz wz S0 w0 Lr} (lx0 : Nat) (rx0 : Nat) (u4q : Nat → Value) (u4r : Nat) (ulu : Nat) (ulv : Option Nat) (ulw : Nat) (ulx : Nat) (uly : List Value) (ulz : Nat) (um0 : Option Nat) (um1 : Nat) (um2 : Nat) (um3 : List Value) (um4 : Option Nat) (um5 : Nat) (um6 : Nat) (um7 : List Value) (um8 : Nat) (um9 : Nat) (uma : Nat) : ∀ a r, M.sim_Runner_led_1_l0 a = some r → (L.z3g nz wz S0 w0 Lr lx0 rx0 u4q u4r ulu ulv ulw ulx uly ulz um0 um1 um2 um3 um4 um5 um6 um7 um8 um9 uma) a r := (W.z3i lx0 rx0 u4q u4r ulu ulv ulw ulx uly ulz um0 um1 um2 um3 um4 um5 um6 um7 um8 um9 uma).1

theorem W.z3h {nz wz S0 w0 Lr} (lx0 : Nat) (rx0 : Nat) (u4q : Nat → Value) (u4r : Nat) (ulu : Nat) (ulv : Option Nat) (ulw : Nat) (ulx : Nat) (uly : List Value) (ulz : Nat) (um0 : Option Nat) (um1 : Nat) (um2 : Nat) (um3 : List Value) (um4 : Option Nat) (um5 : Nat) (um6 : Nat) (um7 : List Value) (um8 : Nat) (um9 : Nat) (uma : Nat) : ∀ a r, M.sim_Runner_led_1_l1 a = some r → (L.z3h nz wz S0 w0 Lr lx0 rx0 u4q u4r ulu ulv ulw ulx uly ulz um0 um1 um2 um3 um4 um5 um6 um7 um8 um9 uma) a r := (W.z3i lx0 rx0 u4q u4r ulu ulv ulw ulx uly ulz um0 um1 um2 um3 um4 um5 um6 um7 um8 um9 uma).2

def Ql9 := sub [1] B67
def Jqr : List Item := [.code Ql9]
def Qla := sub [0] B67
def Jqs : List Item := .inRegion (opsOf Qla) [0, 1, 2, 3, 4, 5, 6, 7, 8] :: Jqr
def Jqt : List Item := .inRegion (opsOf Qla) [3, 4, 5, 6, 7, 8] :: Jqr
def Jqu : List Item := .inRegion (opsOf Qla) [6, 7, 8] :: Jqr

theorem W.z3f (umb : T96) (umc : Int) (r : T105) (h : M.sim_Runner_led_1 umb umc = some r) {nz wz S0 w0 Lr} (lx0 rx0 u4q u4r ulu ulv ulw ulx uly ulz um0 um1 um2 um3 um4 um5 um6 um7 um8 umx umy umz un0 un1 un2 un3 un4 um9 uma) (p0 : Hp nz wz S0 w0 ((some lx0, .obj (lpst 27 (lfr 42 [(2, (pt u4r 0)), (16, .func (.func 67) #[] #[(pt um9 0), (pt uma 0)])] u4q) #[17] (rfAssign (Qkw)) (rfBody (Qkw)) rx0 .ready none)) :: (some u4r, .row 63 [(pt ulu 0)] 1 0) :: (some ulu, .row 97 [.slice (Gp ulv) ulw ulx, (pt ulz 0), (pt um8 0)] 3 0) :: (ulv, .row 89 uly (ulx * kT88.size) 0) :: (some ulz, .row 106 [.slice (Gp um0) um1 um2, .slice (Gp um4) um5 um6] 2 0) :: (um0, .row 3 um3 (um2 * (kInt .i64).size) 0) :: (um4, .row 98 um7 (um6 * (kInt .i64).size) 0) :: (some um8, .row 106 [.slice (Gp umx) umy umz, .slice (Gp un1) un2 un3] 2 0) :: (umx, .row 3 un0 (umz * (kInt .i64).size) 0) :: (un1, .row 98 un4 (un3 * (kInt .i64).size) 0) :: (some um9, .row 63 [(pt ulu 0)] 1 0) :: (some uma, .row 5 [.int .u8 umc] 1 0) :: Lr)) (un5 : Els kT88 S0 w0 uly umb.l) (un6 : umb.l.length = ulw) (un7 : Els (kInt .i64) S0 w0 um3 umb.now.place) (un8 : umb.now.place.length = um1) (un9 : Els (kInt .i64) S0 w0 um7 umb.now.list) (una : umb.now.list.length = um5) (unb : Els (kInt .i64) S0 w0 un0 umb.next.place) (unc : umb.next.place.length = umy) (und : Els (kInt .i64) S0 w0 un4 umb.next.list) (une : umb.next.list.length = un2) :
  Calls Try.prog 67 #[yieldV lx0, (pt um9 0), (pt uma 0)] w0 (Rets (Post.z3f nz wz S0 w0 Lr lx0 rx0 u4q u4r ulu ulv ulw ulx uly ulz um0 um1 um2 um3 um4 um5 um6 um7 um8 um9 uma umb umc r)) := by
 subst un6
 subst un8
 subst una
 subst unc
 subst une
 refine calls_of_goes (fn := Try.f67) (c := B67) (by kernel_rfl) (by kernel_rfl) 40 (by kernel_rfl) ?_
 refine Goes.jp 43 [(0, yieldV lx0), (1, (pt um9 0)), (2, (pt uma 0))] (fun junk => ?_)
 delta M.sim_Runner_led_1 at h
 refine Goes.rn 2 [] Jqs ?_
 refine Goes.ld 63 (.tmp 1) 7 63 ⟨um9, 0, none⟩ ((pt ulu 0)) (p0.c 10 0) ?_
 refine Goes.rn 2 [(8, (pt ulu 0)), (9, (pt ulu 1))] Jqt ?_
 refine Goes.ld 95 (.tmp 9) 10 95 ⟨ulu, 1, none⟩ ((pt ulz 0)) (p0.c 2 1) ?_
 refine Goes.rn 2 [(11, (pt ulz 0)), (12, (pt ulz 1))] Jqu ?_
 refine Goes.ld 104 (.tmp 12) 13 104 ⟨ulz, 1, none⟩ (.slice (Gp um4) umb.now.list.length um6) (p0.c 4 1) ?_
 refine Goes.rn 5 [(14, .i (umb.now.list.length : Int)), (15, .i 0)] Jq9 ?_
 exact Goes.jp 43 [(0, yieldV lx0), (1, (pt um9 0)), (2, (pt uma 0)), (13, .slice (Gp um4) umb.now.list.length um6), (14, .i (umb.now.list.length : Int)), (15, .i 0)] (W.z3g lx0 rx0 u4q u4r ulu ulv umb.l.length ulx uly ulz um0 umb.now.place.length um2 um3 um4 umb.now.list.length um6 um7 um8 um9 uma _ _ h _ _ (Ext.refl S0 w0) umx umb.next.place.length umz un0 un1 umb.next.list.length un3 un4 p0 un5 rfl un7 rfl un9 rfl unb rfl und rfl)

def Qlb := sub [1, 1] B48
def Jqv : List Item := [.code Qlb]
def Qlc := sub [1, 0] B48
def Jqw : List Item := .inRegion (opsOf Qlc) [1, 2, 3, 4, 5, 6, 7, 8, 9, 10, 11, 12, 13, 14] :: Jqv
def Jqx : List Item := .inRegion (opsOf Qlc) [4, 5, 6, 7, 8, 9, 10, 11, 12, 13, 14] :: Jqv
def Jqy : List Item := .inRegion (opsOf Qlc) [7, 8, 9, 10, 11, 12, 13, 14] :: Jqv
def Jqz : List Item := .inRegion (opsOf Qlc) [10, 11, 12, 13, 14] :: Jqv

def Post.z3j (gx0 : Nat) (uab : Option Nat) (uac : Nat) (uad : Nat) (uae : List Value) (ufr : Nat) (ufs : Option Nat) (uft : Nat) (ufu : Nat) (ufv : List Value) (ufw : Option Nat) (ufx : Nat) (ufy : Nat) (ufz : List Value) (ug0 : Nat) (ug1 : Option Nat) (ug2 : Nat) (ug3 : Nat) (ug4 : List Value) (ug5 : Option Nat) (ug6 : Nat) (ug7 : Nat) (ug8 : List Value) (x0v : T96) (r : Bool) (v : Value) (w' : World) : Prop :=
 ∃ S', v = .bool r ∧ Ext S0 w0 S' w' ∧ Hp nz wz S' w' ((some gx0, .row 97 [.slice (Gp uab) uac uad, (pt ufr 0), (pt ug0 0)] 3 0) :: (uab, .row 89 uae (uad * kT88.size) 0) :: (some ufr, .row 106 [.slice (Gp ufs) uft ufu, .slice (Gp ufw) ufx ufy] 2 0) :: (ufs, .row 3 ufv (ufu * (kInt .i64).size) 0) :: (ufw, .row 98 ufz (ufy * (kInt .i64).size) 0) :: (some ug0, .row 106 [.slice (Gp ug1) ug2 ug3, .slice (Gp ug5) ug6 ug7] 2 0) :: (ug1, .row 3 ug4 (ug3 * (kInt .i64).size) 0) :: (ug5, .row 98 ug8 (ug7 * (kInt .i64).size) 0) :: Lr)

theorem W.z3j (x0v : T96) (r : Bool) (h : M.sim_Runner_Dead x0v = some r) {nz wz S0 w0 Lr} (gx0 uab uac uad uae ufr ufs uft ufu ufv ufw ufx ufy ufz ug0 ug1 ug2 ug3 ug4 ug5 ug6 ug7 ug8) (p0 : Hp nz wz S0 w0 ((some gx0, .row 97 [.slice (Gp uab) uac uad, (pt ufr 0), (pt ug0 0)] 3 0) :: (uab, .row 89 uae (uad * kT88.size) 0) :: (some ufr, .row 106 [.slice (Gp ufs) uft ufu, .slice (Gp ufw) ufx ufy] 2 0) :: (ufs, .row 3 ufv (ufu * (kInt .i64).size) 0) :: (ufw, .row 98 ufz (ufy * (kInt .i64).size) 0) :: (some ug0, .row 106 [.slice (Gp ug1) ug2 ug3, .slice (Gp ug5) ug6 ug7] 2 0) :: (ug1, .row 3 ug4 (ug3 * (kInt .i64).size) 0) :: (ug5, .row 98 ug8 (ug7 * (kInt .i64).size) 0) :: Lr)) (uaf : Els kT88 S0 w0 uae x0v.l) (uag : x0v.l.length = uac) (ug9 : Els (kInt .i64) S0 w0 ufv x0v.now.place) (uga : x0v.now.place.length = uft) (ugb : Els (kInt .i64) S0 w0 ufz x0v.now.list) (ugc : x0v.now.list.length = ufx) (ugd : Els (kInt .i64) S0 w0 ug4 x0v.next.place) (uge : x0v.next.place.length = ug2) (ugf : Els (kInt .i64) S0 w0 ug8 x0v.next.list) (ugg : x0v.next.list.length = ug6) :
  Calls Try.prog 48 #[(pt gx0 0)] w0 (Rets (Post.z3j nz wz S0 w0 Lr gx0 uab uac uad uae ufr ufs uft ufu ufv ufw ufx ufy ufz ug0 ug1 ug2 ug3 ug4 ug5 ug6 ug7 ug8 x0v r)) := by
 subst uag
 subst uga
 subst ugc
 subst uge
 subst ugg
 refine calls_of_goes (fn := Try.f48) (c := B48) (by kernel_rfl) (by kernel_rfl) 16 (by kernel_rfl) ?_
 refine Goes.jp 17 [(0, (pt gx0 0))] (fun junk => ?_)
 delta M.sim_Runner_Dead at h
 refine Goes.rn 7 [(2, .bool false), (3, (pt gx0 0))] Jqw ?_
 refine bind_some' h fun y9 e10 h => ?_
 refine Goes.cal (kc 44 [3] #[63]) 4 4 44 _ (W.z31 x0v y9 e10 gx0 uab x0v.l.length uad uae ufr ufs x0v.now.place.length ufu ufv ufw x0v.now.list.length ufy ufz ug0 ug1 x0v.next.place.length ug3 ug4 ug5 x0v.next.list.length ug7 ug8 p0 uaf rfl ug9 rfl ugb rfl ugd rfl ugf rfl) ?_
 rintro _ w2 ⟨S2, rfl, z2, p2⟩
 refine Goes.rn 2 [(5, .bool (!y9)), (6, .bool (!y9))] Jqx ?_
 refine ite_some h (fun h11 h => ?_) (fun h11 h => ?_)
 ·
  rw [h11]
  refine Goes.rn 3 [(7, (pt gx0 0)), (8, (pt gx0 0)), (9, (pt gx0 1))] Jqy ?_
  refine Goes.ld 95 (.tmp 9) 10 95 ⟨gx0, 1, none⟩ ((pt ufr 0)) (p2.c 0 1) ?_
  refine Goes.rn 2 [(11, (pt ufr 0)), (12, (pt ufr 1))] Jqz ?_
  refine Goes.ld 104 (.tmp 12) 13 104 ⟨ufr, 1, none⟩ (.slice (Gp ufw) x0v.now.list.length ufy) (p2.c 2 1) ?_
  refine Goes.rn 5 [(14, .i (x0v.now.list.length : Int)), (15, .bool (decide ((x0v.now.list.length : Int) = 0))), (16, .bool (decide ((x0v.now.list.length : Int) = 0))), (2, .bool (decide ((x0v.now.list.length : Int) = 0)))] Jqv ?_
  obtain rfl := Option.some.inj h
  exact Goes.rt Try.f48 (.bool (decide ((x0v.now.list.length : Int) = 0))) ⟨S2, rfl, ((Ext.refl S0 w0).trans z2), p2⟩
 ·
  have u2t : y9 = false := by simpa using h11
  rw [u2t]
  refine Goes.rn 12 [(7, undef), (8, undef), (9, undef), (10, undef), (11, undef), (12, undef), (13, undef), (14, undef), (15, undef), (16, .bool true), (2, .bool true)] Jqv ?_
  obtain rfl := Option.some.inj h
  exact Goes.rt Try.f48 (.bool true) ⟨S2, rfl, ((Ext.refl S0 w0).trans z2), p2⟩

def Qld := sub [1] B27
def Jr0 : List Item := [.code Qld]
def Qle := sub [0] B27
def Jr1 : List Item := .inRegion (opsOf Qle) [0, 1] :: Jr0
def Qlf := sub [1, 1] B27
def Jr2 : List Item := [.code Qlf]
def Qlg := sub [1, 0, 1] B27
def Jr3 : List Item := .code Qlg :: Jr2
def Qlh := sub [1, 0, 0] B27
def Jr4 : List Item := .inRegion (opsOf Qlh) [0, 1, 2] :: Jr3
def Qli := sub [1, 1, 1] B27
def Jr5 : List Item := [.code Qli]
def Qlj := sub [1, 1, 0] B27
def Jr6 : List Item := .inRegion (opsOf Qlj) [0, 1, 2, 3, 4] :: Jr5
def Jr7 : List Item := .inRegion (opsOf Qlj) [3, 4] :: Jr5
def Qlk := sub [1, 1, 1, 1] B27
def Jr8 : List Item := [.code Qlk]
def Qll := sub [1, 1, 1, 0, 1] B27
def Jr9 : List Item := .code Qll :: Jr8
def Qlm := sub [1, 1, 1, 0, 0] B27
def Jra : List Item := .inRegion (opsOf Qlm) [0, 1, 2] :: Jr9
def Jrb : List Item := .inRegion (opsOf Qlm) [2] :: Jr9
def Jrc : List Item := .inBlock 0 :: Jr8
def Jrd : List Item := .code Qkw :: Jrc
def Qln := sub [1, 1, 1, 1, 1] B27
def Jre : List Item := [.code Qln]
def Qlo := sub [1, 1, 1, 1, 0] B27
def Jrf : List Item := .code Qlo :: Jre
def Qlp := sub [1, 1, 1, 1, 1, 1] B27
def Jrg : List Item := [.code Qlp]
def Qlq := sub [1, 1, 1, 1, 1, 0] B27
def Jrh : List Item := .inRegion (opsOf Qlq) [0, 1, 2, 3] :: Jrg
def Qlr := sub [1, 0, 1, 0, 1] B27
def Jri : List Item := .code Qlr :: Jr2

def Post.z3k (gx0 : Nat) (r : Bool × T96) (v : Value) (w' : World) : Prop :=
 ∃ S' ua6 ua7 ua8 ua9 unf ung unh uni unj unk unl unm unn uno unp unq unr uns unt unu unv unw, v = .bool r.1 ∧ Ext S0 w0 S' w' ∧ Hp nz wz S' w' ((some gx0, .row 97 [.slice (Gp ua6) ua7 ua8, (pt unf 0), (pt uno 0)] 3 0) :: (ua6, .row 89 ua9 (ua8 * kT88.size) 0) :: (some unf, .row 106 [.slice (Gp ung) unh uni, .slice (Gp unk) unl unm] 2 0) :: (ung, .row 3 unj (uni * (kInt .i64).size) 0) :: (unk, .row 98 unn (unm * (kInt .i64).size) 0) :: (some uno, .row 106 [.slice (Gp unp) unq unr, .slice (Gp unt) unu unv] 2 0) :: (unp, .row 3 uns (unr * (kInt .i64).size) 0) :: (unt, .row 98 unw (unv * (kInt .i64).size) 0) :: Lr) ∧ Els kT88 S' w' ua9 r.2.l ∧ r.2.l.length = ua7 ∧ Els (kInt .i64) S' w' unj r.2.now.place ∧ r.2.now.place.length = unh ∧ Els (kInt .i64) S' w' unn r.2.now.list ∧ r.2.now.list.length = unl ∧ Els (kInt .i64) S' w' uns r.2.next.place ∧ r.2.next.place.length = unq ∧ Els (kInt .i64) S' w' unw r.2.next.list ∧ r.2.next.list.length = unu

theorem W.z3k (x0v : T96) (x1 : Int) (r : Bool × T96) (h : M.sim_Runner_Feed x0v x1 = some r) {nz wz S0 w0 Lr} (gx0 uab uac uad uae ufr ufs uft ufu ufv ufw ufx ufy ufz ug0 ug1 ug2 ug3 ug4 ug5 ug6 ug7 ug8) (p0 : Hp nz wz S0 w0 ((some gx0, .row 97 [.slice (Gp uab) uac uad, (pt ufr 0), (pt ug0 0)] 3 0) :: (uab, .row 89 uae (uad * kT88.size) 0) :: (some ufr, .row 106 [.slice (Gp ufs) uft ufu, .slice (Gp ufw) ufx ufy] 2 0) :: (ufs, .row 3 ufv (ufu * (kInt .i64).size) 0) :: (ufw, .row 98 ufz (ufy * (kInt .i64).size) 0) :: (some ug0, .row 106 [.slice (Gp ug1) ug2 ug3, .slice (Gp ug5) ug6 ug7] 2 0) :: (ug1, .row 3 ug4 (ug3 * (kInt .i64).size) 0) :: (ug5, .row 98 ug8 (ug7 * (kInt .i64).size) 0) :: Lr)) (uaf : Els kT88 S0 w0 uae x0v.l) (uag : x0v.l.length = uac) (ug9 : Els (kInt .i64) S0 w0 ufv x0v.now.place) (uga : x0v.now.place.length = uft) (ugb : Els (kInt .i64) S0 w0 ufz x0v.now.list) (ugc : x0v.now.list.length = ufx) (ugd : Els (kInt .i64) S0 w0 ug4 x0v.next.place) (uge : x0v.next.place.length = ug2) (ugf : Els (kInt .i64) S0 w0 ug8 x0v.next.list) (ugg : x0v.next.list.length = ug6) :
  Calls Try.prog 27 #[(pt gx0 0), .int .u8 x1] w0 (Rets (Post.z3k nz wz S0 w0 Lr gx0 r)) := by
 subst uag
 subst uga
 subst ugc
 subst uge
 subst ugg
 refine calls_of_goes (fn := Try.f27) (c := B27) (by kernel_rfl) (by kernel_rfl) 40 (by kernel_rfl) ?_
 refine Goes.jp 42 [(0, (pt gx0 0)), (1, .int .u8 x1)] (fun junk => ?_)
 delta M.sim_Runner_Feed at h
 refine Goes.rn 2 [] Jr1 ?_
 refine Op_.box 63 (.tmp 0) 2 0 ((pt gx0 0)) [(pt gx0 0)] p0 Goes.v (by kernel_rfl) (by kernel_rfl) ?_
 intro b9 w2 z2 p2
 refine Goes.rn 5 [(4, .bool false)] Jr4 ?_
 refine Goes.ld 63 (.tmp 2) 6 63 ⟨b9, 0, none⟩ ((pt gx0 0)) (p2.c 0 0) ?_
 have p2 := (((((((p2.fr 8).fr 8).fr 8).fr 8).fr 8).fr 8).fr 8).fr 8
 refine bind_some' h fun y11 e12 h => ?_
 refine Goes.cal (kc 44 [6] #[63]) 7 4 44 _ (W.z31 x0v y11 e12 gx0 uab x0v.l.length uad uae ufr ufs x0v.now.place.length ufu ufv ufw x0v.now.list.length ufy ufz ug0 ug1 x0v.next.place.length ug3 ug4 ug5 x0v.next.list.length ug7 ug8 p2 (uaf.ext z2) rfl (ug9.ext z2) rfl (ugb.ext z2) rfl (ugd.ext z2) rfl (ugf.ext z2) rfl) ?_
 rintro _ w3 ⟨S3, rfl, z3, p3⟩
 refine Goes.rn 2 [(8, .bool (!y11))] Jr3 ?_
 refine ite_some h (fun h13 h => ?_) (fun h13 h => ?_)
 ·
  rw [h13]
  refine Goes.rn 4 [] Jr6 ?_
  refine Goes.ld 63 (.tmp 2) 9 63 ⟨b9, 0, none⟩ ((pt gx0 0)) (p3.c 8 0) ?_
  refine Goes.rn 2 [(10, (pt gx0 0)), (11, (pt gx0 2))] Jr7 ?_
  refine Goes.ld 95 (.tmp 11) 12 95 ⟨gx0, 2, none⟩ ((pt ug0 0)) (p3.c 0 2) ?_
  have p3 := ((p3.fr 7).fr 7).fr 7
  refine bind_some' h fun y14 e15 h => ?_
  refine Goes.cal (kc 45 [12] #[95]) 13 0 45 _ (W.z32 x0v.next y14 e15 ug0 ug1 x0v.next.place.length ug3 ug4 ug5 x0v.next.list.length ug7 ug8 p3 (ugd.ext (z2.trans z3)) rfl (ugf.ext (z2.trans z3)) rfl) ?_
  rintro _ w4 ⟨S4, ucq, ucr, ucs, uct, unx, uny, unz, uo0, rfl, z4, p4, ucu, rfl, uo1, rfl⟩
  refine Goes.rn 4 [] Jra ?_
  refine Goes.ld 63 (.tmp 2) 14 63 ⟨b9, 0, none⟩ ((pt gx0 0)) (p4.c 8 0) ?_
  refine Goes.rn 1 [(15, .int .u8 x1)] Jrb ?_
  have p4 := (((((((p4.fr 2).fr 2).fr 2).fr 7).fr 7).fr 7).fr 7).fr 7
  refine bind_some' h fun y18 e19 h => ?_
  refine Goes.cal (kc 46 [14, 15] #[63, 5]) 16 100 46 _ (W.z3a (⟨x0v.l, x0v.now, y14⟩ : T96) x1 y18 e19 gx0 uab x0v.l.length uad uae ufr ufs x0v.now.place.length ufu ufv ufw x0v.now.list.length ufy ufz ug0 ucq y14.place.length ucs uct unx y14.list.length unz uo0 p4 (uaf.ext ((z2.trans z3).trans z4)) rfl (ug9.ext ((z2.trans z3).trans z4)) rfl (ugb.ext ((z2.trans z3).trans z4)) rfl ucu rfl uo1 rfl) ?_
  rintro _ w5 ⟨S5, u5k, uo2, rfl, z5, p5⟩
  refine Goes.rn 2 [] Jrd ?_
  refine Goes.jp 42 [(2, (pt b9 0)), (16, .func (.func 67) #[] #[(pt u5k 0), (pt uo2 0)])] (fun uo3 => ?_)
  refine Goes.rangeF (f := 27) (.tmp 16) #[17] 67 #[] #[(pt u5k 0), (pt uo2 0)] (by kernel_rfl) (by kernel_rfl) (fun _ => by kernel_rfl) p5 ?_
  intro r23 l24 w6 z6 p6
  have p6 := (((((((((((p6.fr 3).fr 3).fr 11).fr 11).fr 11).fr 11).fr 11).fr 11).fr 11).fr 11).fr 12).fr 11
  refine bind_some' h fun y27 e28 h => ?_
  refine ⟨_, W.z3f (⟨x0v.l, x0v.now, y14⟩ : T96) y18 y27 e28 l24 r23 uo3 b9 gx0 uab x0v.l.length uad uae ufr ufs x0v.now.place.length ufu ufv ufw x0v.now.list.length ufy ufz ug0 ucq y14.place.length ucs uct unx y14.list.length unz uo0 u5k uo2 p6 (uaf.ext ((((z2.trans z3).trans z4).trans z5).trans z6)) rfl (ug9.ext ((((z2.trans z3).trans z4).trans z5).trans z6)) rfl (ugb.ext ((((z2.trans z3).trans z4).trans z5).trans z6)) rfl (ucu.ext (z5.trans z6)) rfl (uo1.ext (z5.trans z6)) rfl, ?_⟩
  rintro _ w7 ⟨S7, uo4, uo5, uo6, uo7, uo8, uo9, uoa, uob, rfl, z7, p7, uoc, rfl, uod, rfl⟩
  refine Goes.endF 0 p7 rfl rfl ?_
  intro w8 z8 p8
  replace p8 : Hp nz wz S7 w8 ((some b9, .row 63 [(pt gx0 0)] 1 0) :: (some gx0, .row 97 [.slice (Gp uab) x0v.l.length uad, (pt ufr 0), (pt ug0 0)] 3 0) :: (uab, .row 89 uae (uad * kT88.size) 0) :: (some ufr, .row 106 [.slice (Gp ufs) x0v.now.place.length ufu, .slice (Gp ufw) x0v.now.list.length ufy] 2 0) :: (ufs, .row 3 ufv (ufu * (kInt .i64).size) 0) :: (ufw, .row 98 ufz (ufy * (kInt .i64).size) 0) :: (some ug0, .row 106 [.slice (Gp uo4) y27.place.length uo6, .slice (Gp uo8) y27.list.length uoa] 2 0) :: (uo4, .row 3 uo7 (uo6 * (kInt .i64).size) 0) :: (uo8, .row 98 uob (uoa * (kInt .i64).size) 0) :: (some u5k, .row 63 [(pt gx0 0)] 1 0) :: (some uo2, .row 5 [.int .u8 y18] 1 0) :: (some r23, .obj (.deferred (some []))) :: Lr) := (p8.front 0 _ rfl).drop
  show Goes _ _ Jrc _ _ _
  refine Goes.rn 2 [] Jrf ?_
  have z9 : Ext S7 w8 S7 (w8).drew := Ext.draw
  have p9 := p8.draw
  refine Goes.drawn (s := [15]) (F := Fc S7 (w8).drew [(⟨b9, 0, none⟩, (pt gx0 0)), (⟨gx0, 2, none⟩, (pt ug0 0))]) 7 16 (by kernel_rfl) (by kernel_rfl) (by kernel_rfl) (by kernel_rfl) ?_
  generalize (w8).drew = w9 at z9 p9 ⊢
  refine AnyG.ld1 (i := 0) 63 (.tmp 2) 25 63 ⟨b9, 0, none⟩ ((pt gx0 0)) (by kernel_rfl) (by kernel_rfl) (Fc.here (p9.cs [(0, 0, 1), (1, 2, 1)])) (by kernel_rfl) (by kernel_rfl) (fun _ h => h.2.at_ 0 rfl) ?_
  refine AnyG.ld1 (i := 1) 63 (.tmp 2) 26 63 ⟨b9, 0, none⟩ ((pt gx0 0)) (by kernel_rfl) (by kernel_rfl) (Fc.here (p9.cs [(0, 0, 1), (1, 2, 1)])) (by kernel_rfl) (by kernel_rfl) (fun _ h => h.2.at_ 0 rfl) ?_
  refine AnyG.ld1 (i := 2) 63 (.tmp 2) 27 63 ⟨b9, 0, none⟩ ((pt gx0 0)) (by kernel_rfl) (by kernel_rfl) (Fc.here (p9.cs [(0, 0, 1), (1, 2, 1)])) (by kernel_rfl) (by kernel_rfl) (fun _ h => h.2.at_ 0 rfl) ?_
  refine AnyG.pu 3 (.nilCheck (.tmp 27)) 28 0 ((pt gx0 0)) (Fc.here (p9.cs [(0, 0, 1), (1, 2, 1)])) ?_
  refine AnyG.pu 4 (.fieldAddr 97 (.tmp 28) 2) 29 0 ((pt gx0 2)) (Fc.here (p9.cs [(0, 0, 1), (1, 2, 1)])) ?_
  refine AnyG.ld1 (i := 5) 95 (.tmp 29) 30 95 ⟨gx0, 2, none⟩ ((pt ug0 0)) (by kernel_rfl) (by kernel_rfl) (Fc.here (p9.cs [(0, 0, 1), (1, 2, 1)])) (by kernel_rfl) (by kernel_rfl) (fun _ h => h.2.at_ 1 rfl) ?_
  refine AnyG.ld1 (i := 6) 63 (.tmp 2) 31 63 ⟨b9, 0, none⟩ ((pt gx0 0)) (by kernel_rfl) (by kernel_rfl) (Fc.here (p9.cs [(0, 0, 1), (1, 2, 1)])) (by kernel_rfl) (by kernel_rfl) (fun _ h => h.2.at_ 0 rfl) ?_
  refine AnyG.pu 7 (.nilCheck (.tmp 31)) 32 0 ((pt gx0 0)) (Fc.here (p9.cs [(0, 0, 1), (1, 2, 1)])) ?_
  refine AnyG.pu 8 (.fieldAddr 97 (.tmp 32) 1) 33 0 ((pt gx0 1)) (Fc.here (p9.cs [(0, 0, 1), (1, 2, 1)])) ?_
  refine Op_.ld1 95 (.tmp 33) 34 95 ⟨gx0, 1, none⟩ ((pt ufr 0)) (AnyG.vs (i := 9) (by kernel_rfl) (by kernel_rfl)) (by kernel_rfl) (by kernel_rfl) (p9.c 1 1) ?_
  refine AnyG.next (Ext.refl _ _) ⟨(p9.c 0 0), (p9.c 1 2), trivial⟩ ?_
  refine AnyG.pu 10 (.nilCheck (.tmp 25)) 35 0 ((pt gx0 0)) (Fc.here (p9.cs [(0, 0, 1), (1, 2, 1)])) ?_
  refine AnyG.pu 11 (.fieldAddr 97 (.tmp 35) 1) 36 0 ((pt gx0 1)) (Fc.here (p9.cs [(0, 0, 1), (1, 2, 1)])) ?_
  refine Op_.st 95 (.tmp 36) (.tmp 30) 0 1 gx0 1 ((pt ug0 0)) [(pt ug0 0)] p9 rfl (AnyG.ss (i := 12) (by kernel_rfl) (by kernel_rfl)) (by kernel_rfl) (by kernel_rfl) (by kernel_rfl) (by kernel_rfl) (Nat.zero_le _) (by simp only [List.length_cons, List.length_nil]; omega) (by simp [Value.oneCell']) ?_
  intro w10 z10 p10
  have p10 : Hp nz wz S7 w10 ((some b9, .row 63 [(pt gx0 0)] 1 0) :: (some gx0, .row 97 [.slice (Gp uab) x0v.l.length uad, (pt ug0 0), (pt ug0 0)] 3 0) :: (uab, .row 89 uae (uad * kT88.size) 0) :: (some ufr, .row 106 [.slice (Gp ufs) x0v.now.place.length ufu, .slice (Gp ufw) x0v.now.list.length ufy] 2 0) :: (ufs, .row 3 ufv (ufu * (kInt .i64).size) 0) :: (ufw, .row 98 ufz (ufy * (kInt .i64).size) 0) :: (some ug0, .row 106 [.slice (Gp uo4) y27.place.length uo6, .slice (Gp uo8) y27.list.length uoa] 2 0) :: (uo4, .row 3 uo7 (uo6 * (kInt .i64).size) 0) :: (uo8, .row 98 uob (uoa * (kInt .i64).size) 0) :: (some u5k, .row 63 [(pt gx0 0)] 1 0) :: (some uo2, .row 5 [.int .u8 y18] 1 0) :: (some r23, .obj (.deferred (some []))) :: Lr) := p10
  refine AnyG.next z10 ⟨(p10.c 0 0), (p10.c 1 2), trivial⟩ ?_
  refine AnyG.pu 13 (.nilCheck (.tmp 26)) 37 0 ((pt gx0 0)) (Fc.here (p10.cs [(0, 0, 1), (1, 2, 1)])) ?_
  refine AnyG.pu 14 (.fieldAddr 97 (.tmp 37) 2) 38 0 ((pt gx0 2)) (Fc.here (p10.cs [(0, 0, 1), (1, 2, 1)])) ?_
  refine Op_.st 95 (.tmp 38) (.tmp 34) 0 1 gx0 2 ((pt ufr 0)) [(pt ufr 0)] p10 rfl (AnyG.ss (i := 15) (by kernel_rfl) (by kernel_rfl)) (by kernel_rfl) (by kernel_rfl) (by kernel_rfl) (by kernel_rfl) (Nat.zero_le _) (by simp only [List.length_cons, List.length_nil]; omega) (by simp [Value.oneCell']) ?_
  intro w11 z11 p11
  have p11 : Hp nz wz S7 w11 ((some b9, .row 63 [(pt gx0 0)] 1 0) :: (some gx0, .row 97 [.slice (Gp uab) x0v.l.length uad, (pt ug0 0), (pt ufr 0)] 3 0) :: (uab, .row 89 uae (uad * kT88.size) 0) :: (some ufr, .row 106 [.slice (Gp ufs) x0v.now.place.length ufu, .slice (Gp ufw) x0v.now.list.length ufy] 2 0) :: (ufs, .row 3 ufv (ufu * (kInt .i64).size) 0) :: (ufw, .row 98 ufz (ufy * (kInt .i64).size) 0) :: (some ug0, .row 106 [.slice (Gp uo4) y27.place.length uo6, .slice (Gp uo8) y27.list.length uoa] 2 0) :: (uo4, .row 3 uo7 (uo6 * (kInt .i64).size) 0) :: (uo8, .row 98 uob (uoa * (kInt .i64).size) 0) :: (some u5k, .row 63 [(pt gx0 0)] 1 0) :: (some uo2, .row 5 [.int .u8 y18] 1 0) :: (some r23, .obj (.deferred (some []))) :: Lr) := p11
  refine AnyG.last [] (Fc S7 w11 []) (by decide) ?_
  refine AnyG.done (by kernel_rfl) ?_ _
  have p11 := (p11.dp 9).dp 9
  refine Goes.rn 2 [] Jrh ?_
  refine Goes.ld 63 (.tmp 2) 39 63 ⟨b9, 0, none⟩ ((pt gx0 0)) (p11.c 0 0) ?_
  have p11 := (((((((p11.fr 5).fr 5).fr 5).fr 8).fr 8).fr 8).fr 8).fr 8
  refine bind_some' h fun y31 e32 h => ?_
  refine Goes.cal (kc 48 [39] #[63]) 40 4 48 _ (W.z3j (⟨x0v.l, y27, x0v.now⟩ : T96) y31 e32 gx0 uab x0v.l.length uad uae ug0 uo4 y27.place.length uo6 uo7 uo8 y27.list.length uoa uob ufr ufs x0v.now.place.length ufu ufv ufw x0v.now.list.length ufy ufz p11 (uaf.ext (((((((((z2.trans z3).trans z4).trans z5).trans z6).trans z7).trans z8).trans z9).trans z10).trans z11)) rfl (uoc.ext (((z8.trans z9).trans z10).trans z11)) rfl (uod.ext (((z8.trans z9).trans z10).trans z11)) rfl (ug9.ext (((((((((z2.trans z3).trans z4).trans z5).trans z6).trans z7).trans z8).trans z9).trans z10).trans z11)) rfl (ugb.ext (((((((((z2.trans z3).trans z4).trans z5).trans z6).trans z7).trans z8).trans z9).trans z10).trans z11)) rfl) ?_
  rintro _ w12 ⟨S12, rfl, z12, p12⟩
  have p12 := p12.dp 8
  refine Goes.rn 3 [(41, .bool (!y31)), (4, .bool (!y31))] Jrg ?_
  obtain rfl := Option.some.inj h
  have p12 := ((((((((p12.fr 7).fr 7).fr 7).fr 7).fr 7).fr 7).fr 7).fr 7).fr 8
  refine Goes.retL ?_
  refine lvs_mark 0 rfl rfl p12 rfl ?_
  intro w13 z13 p13
  replace p13 : Hp nz wz S12 w13 ((some gx0, .row 97 [.slice (Gp uab) x0v.l.length uad, (pt ug0 0), (pt ufr 0)] 3 0) :: (uab, .row 89 uae (uad * kT88.size) 0) :: (some ug0, .row 106 [.slice (Gp uo4) y27.place.length uo6, .slice (Gp uo8) y27.list.length uoa] 2 0) :: (uo4, .row 3 uo7 (uo6 * (kInt .i64).size) 0) :: (uo8, .row 98 uob (uoa * (kInt .i64).size) 0) :: (some ufr, .row 106 [.slice (Gp ufs) x0v.now.place.length ufu, .slice (Gp ufw) x0v.now.list.length ufy] 2 0) :: (ufs, .row 3 ufv (ufu * (kInt .i64).size) 0) :: (ufw, .row 98 ufz (ufy * (kInt .i64).size) 0) :: Lr) := p13.drop
  exact lvs_done (fn := Try.f27) rfl rfl rfl rfl (by kernel_rfl) (v := .bool (!y31)) (by kernel_rfl) ⟨S12, uab, x0v.l.length, uad, uae, ug0, uo4, y27.place.length, uo6, uo7, uo8, y27.list.length, uoa, uob, ufr, ufs, x0v.now.place.length, ufu, ufv, ufw, x0v.now.list.length, ufy, ufz, rfl, (((((((((((((Ext.refl S0 w0).trans z2).trans z3).trans z4).trans z5).trans z6).trans z7).trans z8).trans z9).trans z10).trans z11).trans z12).trans z13), p13, (uaf.ext (((((((((((z2.trans z3).trans z4).trans z5).trans z6).trans z7).trans z8).trans z9).trans z10).trans z11).trans z12).trans z13)), rfl, (uoc.ext (((((z8.trans z9).trans z10).trans z11).trans z12).trans z13)), rfl, (uod.ext (((((z8.trans z9).trans z10).trans z11).trans z12).trans z13)), rfl, (ug9.ext (((((((((((z2.trans z3).trans z4).trans z5).trans z6).trans z7).trans z8).trans z9).trans z10).trans z11).trans z12).trans z13)), rfl, (ugb.ext (((((((((((z2.trans z3).trans z4).trans z5).trans z6).trans z7).trans z8).trans z9).trans z10).trans z11).trans z12).trans z13)), rfl⟩
 ·
  have u67 : y11 = false := by simpa using h13
  rw [u67]
  refine Goes.rn 5 [(4, .bool false)] Jri ?_
  obtain rfl := Option.some.inj h
  have p3 := p3.dp 8
  exact Goes.rt Try.f27 (.bool false) ⟨S3, uab, x0v.l.length, uad, uae, ufr, ufs, x0v.now.place.length, ufu, ufv, ufw, x0v.now.list.length, ufy, ufz, ug0, ug1, x0v.next.place.length, ug3, ug4, ug5, x0v.next.list.length, ug7, ug8, rfl, (((Ext.refl S0 w0).trans z2).trans z3), p3, (uaf.ext (z2.trans z3)), rfl, (ug9.ext (z2.trans z3)), rfl, (ugb.ext (z2.trans z3)), rfl, (ugd.ext (z2.trans z3)), rfl, (ugf.ext (z2.trans z3)), rfl⟩

def Qls := sub [1, 1] B50
def Jrj : List Item := [.code Qls]
def Qlt := sub [1, 0] B50
def Jrk : List Item := .inRegion (opsOf Qlt) [0, 1, 2, 3, 4, 5, 6, 7, 8, 9] :: Jrj
def Jrl : List Item := .inRegion (opsOf Qlt) [3, 4, 5, 6, 7, 8, 9] :: Jrj
def Jrm : List Item := .inRegion (opsOf Qlt) [5, 6, 7, 8, 9] :: Jrj
def Jrn : List Item := .inRegion (opsOf Qlt) [7, 8, 9] :: Jrj

def Post.z3l (gx1 : Nat) (uoe : Nat) (uof : Option Nat) (uog : Nat) (uoh : Nat) (uoi : List Value) (uoj : Nat) (uok : Option Nat) (uol : Nat) (uom : Nat) (uon : List Value) (uoo : Option Nat) (uop : Nat) (uoq : Nat) (uor : List Value) (uos : Nat) (uot : Option Nat) (uou : Nat) (uov : Nat) (uow : List Value) (uox : Option Nat) (uoy : Nat) (uoz : Nat) (up0 : List Value) (up1 : T96) (r : Bool) (v : Value) (w' : World) : Prop :=
 ∃ S', v = .bool r ∧ Ext S0 w0 S' w' ∧ Hp nz wz S' w' ((some gx1, .row 63 [(pt uoe 0)] 1 0) :: (some uoe, .row 97 [.slice (Gp uof) uog uoh, (pt uoj 0), (pt uos 0)] 3 0) :: (uof, .row 89 uoi (uoh * kT88.size) 0) :: (some uoj, .row 106 [.slice (Gp uok) uol uom, .slice (Gp uoo) uop uoq] 2 0) :: (uok, .row 3 uon (uom * (kInt .i64).size) 0) :: (uoo, .row 98 uor (uoq * (kInt .i64).size) 0) :: (some uos, .row 106 [.slice (Gp uot) uou uov, .slice (Gp uox) uoy uoz] 2 0) :: (uot, .row 3 uow (uov * (kInt .i64).size) 0) :: (uox, .row 98 up0 (uoz * (kInt .i64).size) 0) :: Lr)

theorem W.z3l (x0 : Int) (up1 : T96) (r : Bool) (h : M.sim_Runner_Accepts_1 x0 up1 = some r) {nz wz S0 w0 Lr} (gx1 uoe uof uog uoh uoi uoj uok uol uom uon uoo uop uoq uor uos uot uou uov uow uox uoy uoz up0) (p0 : Hp nz wz S0 w0 ((some gx1, .row 63 [(pt uoe 0)] 1 0) :: (some uoe, .row 97 [.slice (Gp uof) uog uoh, (pt uoj 0), (pt uos 0)] 3 0) :: (uof, .row 89 uoi (uoh * kT88.size) 0) :: (some uoj, .row 106 [.slice (Gp uok) uol uom, .slice (Gp uoo) uop uoq] 2 0) :: (uok, .row 3 uon (uom * (kInt .i64).size) 0) :: (uoo, .row 98 uor (uoq * (kInt .i64).size) 0) :: (some uos, .row 106 [.slice (Gp uot) uou uov, .slice (Gp uox) uoy uoz] 2 0) :: (uot, .row 3 uow (uov * (kInt .i64).size) 0) :: (uox, .row 98 up0 (uoz * (kInt .i64).size) 0) :: Lr)) (up2 : Els kT88 S0 w0 uoi up1.l) (up3 : up1.l.length = uog) (up4 : Els (kInt .i64) S0 w0 uon up1.now.place) (up5 : up1.now.place.length = uol) (up6 : Els (kInt .i64) S0 w0 uor up1.now.list) (up7 : up1.now.list.length = uop) (up8 : Els (kInt .i64) S0 w0 uow up1.next.place) (up9 : up1.next.place.length = uou) (upa : Els (kInt .i64) S0 w0 up0 up1.next.list) (upb : up1.next.list.length = uoy) :
  Calls Try.prog 50 #[.i x0, (pt gx1 0)] w0 (Rets (Post.z3l nz wz S0 w0 Lr gx1 uoe uof uog uoh uoi uoj uok uol uom uon uoo uop uoq uor uos uot uou uov uow uox uoy uoz up0 up1 r)) := by
 subst up3
 subst up5
 subst up7
 subst up9
 subst upb
 refine calls_of_goes (fn := Try.f50) (c := B50) (by kernel_rfl) (by kernel_rfl) 11 (by kernel_rfl) ?_
 refine Goes.jp 13 [(0, .i x0), (1, (pt gx1 0))] (fun junk => ?_)
 delta M.sim_Runner_Accepts_1 at h
 refine Goes.rn 6 [(3, .bool false)] Jrk ?_
 refine Goes.ld 63 (.tmp 1) 4 63 ⟨gx1, 0, none⟩ ((pt uoe 0)) (p0.c 0 0) ?_
 refine Goes.rn 2 [(5, (pt uoe 0)), (6, (pt uoe 0))] Jrl ?_
 refine Goes.ld 35 (.tmp 6) 7 35 ⟨uoe, 0, none⟩ (.slice (Gp uof) up1.l.length uoh) (p0.c 1 0) ?_
 refine Goes.rn 1 [(8, .i x0)] Jrm ?_
 refine guard_some' h fun g10 h => ?_
 refine guard_some' h fun g11 h => ?_
 refine Op_.ixO_n 35 (.tmp 7) (.tmp 8) 9 0 89 .i64 x0 2 up1.l.length uoh (gi up1.l x0) rfl rfl p0 rfl up2 Goes.v (by kernel_rfl) (by kernel_rfl) (by kernel_rfl) (by kernel_rfl) (by decide) g10 g11 ?_
 rintro b12 _ rfl q14 f13
 obtain ⟨_, _, rfl, rfl, ⟨_, _, rfl, ⟨l15, f16⟩, ⟨_, _, rfl, rfl, rfl⟩⟩⟩ := q14
 obtain rfl := els_lit4' f16 l15
 refine Goes.rn 1 [(10, .pointer (some (Addr.add ⟨b12, (x0 : Int).toNat * kT88.size, none⟩ 0)))] Jrn ?_
 refine Goes.ld 3 (.tmp 10) 11 3 (Addr.add ⟨b12, (x0 : Int).toNat * kT88.size, none⟩ 0) (.i ((gi up1.l x0).Op)) ((hc_part (us := []) (vs := [.i ((gi up1.l x0).Op)]) (ws := (U4 ((gi up1.l x0).Set) [.i ((gi up1.l x0).X), .i ((gi up1.l x0).Y)])) f13) 0 _ rfl) ?_
 refine Goes.rn 3 [(12, .bool (decide ((gi up1.l x0).Op = 3))), (3, .bool (decide ((gi up1.l x0).Op = 3)))] Jrj ?_
 obtain rfl := Option.some.inj h
 exact Goes.rt Try.f50 (.bool (decide ((gi up1.l x0).Op = 3))) ⟨S0, rfl, (Ext.refl S0 w0), p0⟩

def Qlu := sub [1, 1] B70
def Jro : List Item := [.code Qlu]
def Jrp : List Item := .inBlock 0 :: Jro
def Qlv := sub [1, 0, 1, 0, 0] B70
def Jrq : List Item := .inLoop Qlv :: Jrp
def Jrr : List Item := .code Qlv :: Jrq
def Qlw := sub [1, 0, 1, 0, 0, 1, 1] B70
def Jrs : List Item := .code Qlw :: Jrq
def Qlx := sub [1, 0, 1, 0, 0, 1, 0] B70
def Jrt : List Item := .code Qlx :: Jrs
def Qly := sub [1, 0, 1, 0, 0, 1, 1, 1] B70
def Jru : List Item := .code Qly :: Jrq
def Jrv : List Item := .inBlock 1 :: Jru
def Qlz := sub [1, 0, 1, 0, 0, 1, 1, 0, 0, 1, 1] B70
def Jrw : List Item := .code Qlz :: Jrv
def Qm0 := sub [1, 0, 1, 0, 0, 1, 1, 0, 0, 1, 0] B70
def Jrx : List Item := .inRegion (opsOf Qm0) [3, 4, 5] :: Jrw
def Qm1 := sub [1, 0, 1, 0, 0, 1, 1, 0, 0, 1, 1, 0, 1] B70
def Jry : List Item := .code Qm1 :: Jrv
def Qm2 := sub [1, 1, 1] B70
def Jrz : List Item := [.code Qm2]

def Post.z3m (Gx0 : Option Nat) (nx0 : Nat) (cx0 : Nat) (upc : List Value) (upe : Nat) (upf : Nat) (upg : Option Nat) (uph : Nat) (upi : Nat) (upj : List Value) (upk : Nat) (upl : Option Nat) (upm : Nat) (upn : Nat) (upo : List Value) (upp : Nat) (upq : Option Nat) (upr : Nat) (ups : Nat) (upt : List Value) (upu : Option Nat) (upv : Nat) (upw : Nat) (upx : List Value) (x0 : List Int) (upy : List T88) (upz : List Int) (uq0 : T105) (r : Int) (v : Value) (w' : World) : Prop :=
 ∃ S', v = .i r ∧ Ext S0 w0 S' w' ∧ Hp nz wz S' w' ((some upe, .row 63 [(pt upf 0)] 1 0) :: (some upf, .row 97 [.slice (Gp upg) uph upi, (pt upk 0), (pt upp 0)] 3 0) :: (upg, .row 89 upj (upi * kT88.size) 0) :: (some upk, .row 106 [.slice (Gp upl) upm upn, .slice (Gp Gx0) nx0 cx0] 2 0) :: (upl, .row 3 upo (upn * (kInt .i64).size) 0) :: (Gx0, .row 98 upc (cx0 * (kInt .i64).size) 0) :: (some upp, .row 106 [.slice (Gp upq) upr ups, .slice (Gp upu) upv upw] 2 0) :: (upq, .row 3 upt (ups * (kInt .i64).size) 0) :: (upu, .row 98 upx (upw * (kInt .i64).size) 0) :: Lr)

def L.z3n (Gx0 : Option Nat) (nx0 : Nat) (cx0 : Nat) (upc : List Value) (upe : Nat) (upf : Nat) (upg : Option Nat) (uph : Nat) (upi : Nat) (upj : List Value) (upk : Nat) (upl : Option Nat) (upm : Nat) (upn : Nat) (upo : List Value) (upp : Nat) (upq : Option Nat) (upr : Nat) (ups : Nat) (upt : List Value) (upu : Option Nat) (upv : Nat) (upw : Nat) (upx : List Value) : Int × Int × (List Int) × (List T88) × (List Int) × T105 → Int → Prop := fun ⟨x7, x8, x0, upy, upz, uq0⟩ r => ∀ S1 w1, Ext S0 w0 S1 w1 → ∀ (_ : Hp nz wz S1 w1 ((some upe, .row 63 [(pt upf 0)] 1 0) :: (some upf, .row 97 [.slice (Gp upg) uph upi, (pt upk 0), (pt upp 0)] 3 0) :: (upg, .row 89 upj (upi * kT88.size) 0) :: (some upk, .row 106 [.slice (Gp upl) upm upn, .slice (Gp Gx0) nx0 cx0] 2 0) :: (upl, .row 3 upo (upn * (kInt .i64).size) 0) :: (Gx0, .row 98 upc (cx0 * (kInt .i64).size) 0) :: (some upp, .row 106 [.slice (Gp upq) upr ups, .slice (Gp upu) upv upw] 2 0) :: (upq, .row 3 upt (ups * (kInt .i64).size) 0) :: (upu, .row 98 upx (upw * (kInt .i64).size) 0) :: Lr)) (_ : Els kT88 S1 w1 upj upy) (_ : upy.length = uph) (_ : Els (kInt .i64) S1 w1 upo upz) (_ : upz.length = upm) (_ : Els (kInt .i64) S1 w1 upc x0) (_ : x0.length = nx0) (_ : Els (kInt .i64) S1 w1 upt uq0.place) (_ : uq0.place.length = upr) (_ : Els (kInt .i64) S1 w1 upx uq0.list) (_ : uq0.list.length = upv) (junk : Nat → Value),
 Goes Try.prog (base 70) Jrr ⟨lfr 19 [(0, .slice (Gp Gx0) nx0 cx0), (1, .func (.func 50) #[] #[(pt upe 0)]), (7, .i x7), (8, .i x8)] junk, []⟩ w1 (Done Try.prog 70 (Rets (Post.z3m nz wz S0 w0 Lr Gx0 nx0 cx0 upc upe upf upg uph upi upj upk upl upm upn upo upp upq upr ups upt upu upv upw upx x0 upy upz uq0 r)))

theorem W.z3n {nz wz S0 w0 Lr} (Gx0 : Option Nat) (nx0 : Nat) (cx0 : Nat) (upc : List Value) (upe : Nat) (upf : Nat) (upg : Option Nat) (uph : Nat) (upi : Nat) (upj : List Value) (upk : Nat) (upl : Option Nat) (upm : Nat) (upn : Nat) (upo : List Value) (upp : Nat) (upq : Option Nat) (upr : Nat) (ups : Nat) (upt : List Value) (upu : Option Nat) (upv : Nat) (upw : Nat) (upx : List Value) : ∀ a r, M.sim_state_3_l0 a = some r → (L.z3n nz wz S0 w0 Lr Gx0 nx0 cx0 upc upe upf upg uph upi upj upk upl upm upn upo upp upq upr ups upt upu upv upw upx) a r := by
 refine M.sim_state_3_l0.partial_correctness (motive := (L.z3n nz wz S0 w0 Lr Gx0 nx0 cx0 upc upe upf upg uph upi upj upk upl upm upn upo upp upq upr ups upt upu upv upw upx)) ?_
 intro uq1 uq2 ⟨x7, x8, x0, upy, upz, uq0⟩ r h S1 w1 hx p1 fs0 ls0 fs2 ls2 fs4 ls4 fs6 ls6 fs8 ls8 junk
 try dsimp only at h
 subst ls0
 subst ls2
 subst ls4
 subst ls6
 subst ls8
 refine Goes.rn 5 [(9, .bool (decide (x8 < x7)))] Jrt ?_
 refine ite_some h (fun h10 h => ?_) (fun h10 h => ?_)
 ·
  rw [decide_eq_true h10]
  refine Goes.rn 14 [(10, .i x8), (5, .i x8), (11, .func (.func 50) #[] #[(pt upe 0)]), (12, .slice (Gp Gx0) x0.length cx0), (13, .i x8)] Jrx ?_
  refine guard_some' h fun g11 h => ?_
  refine guard_some' h fun g12 h => ?_
  refine Op_.ixO_n 104 (.tmp 12) (.tmp 13) 14 0 98 .i64 x8 5 x0.length cx0 (gi x0 x8) rfl rfl p1 rfl fs4 Goes.v (by kernel_rfl) (by kernel_rfl) (by kernel_rfl) (by kernel_rfl) (by decide) g11 g12 ?_
  rintro b13 _ rfl q15 f14
  obtain rfl := q15
  refine Goes.ld 98 (.tmp 14) 15 98 ⟨b13, (x8 : Int).toNat * (kInt .i64).size, none⟩ (.i (gi x0 x8)) (f14 0 _ rfl) ?_
  refine bind_some' h fun y17 e18 h => ?_
  refine Goes.cal (.call { callee := .value (.tmp 11), args := #[(.tmp 15)], argTypes := #[98] }) 16 4 50 _ (W.z3l (gi x0 x8) (⟨upy, (⟨upz, x0⟩ : T105), uq0⟩ : T96) y17 e18 upe upf upg upy.length upi upj upk upl upz.length upn upo (some b13) x0.length cx0 upc upp upq uq0.place.length ups upt upu uq0.list.length upw upx p1 fs0 rfl fs2 rfl fs4 rfl fs6 rfl fs8 rfl) ?_
  rintro _ w2 ⟨S2, rfl, z2, p2⟩
  refine Goes.rn 1 [] Jrw ?_
  refine ite_some h (fun h19 h => ?_) (fun h19 h => ?_)
  ·
   rw [h19]
   refine Goes.rn 6 [(17, .i x8), (4, .i x8)] Jry ?_
   obtain rfl := Option.some.inj h
   exact Goes.rt Try.f70 (.i x8) ⟨S2, rfl, (hx.trans z2), p2⟩
  ·
   have u5u : y17 = false := by simpa using h19
   rw [u5u]
   refine Goes.rn 8 [(18, .i (wr .i64 (x8 + 1))), (8, .i (wr .i64 (x8 + 1)))] Jrr ?_
   exact Goes.jp 19 [(0, .slice (Gp (some b13)) x0.length cx0), (1, .func (.func 50) #[] #[(pt upe 0)]), (7, .i x7), (8, .i (wr .i64 (x8 + 1)))] (uq2 _ _ h _ _ (hx.trans z2) p2 (fs0.ext z2) rfl (fs2.ext z2) rfl (fs4.ext z2) rfl (fs6.ext z2) rfl (fs8.ext z2) rfl)
 ·
  rw [decide_eq_false h10]
  refine Goes.rn 6 [(4, .i (-1))] Jrz ?_
  obtain rfl := Option.some.inj h
  exact Goes.rt Try.f70 (.i (-1)) ⟨S1, rfl, hx, p1⟩

theorem W.z3m (x0 : List Int) (upy : List T88) (upz : List Int) (uq0 : T105) (r : Int) (h : M.sim_state_3 x0 upy upz uq0 = some r) {nz wz S0 w0 Lr} (Gx0 nx0 cx0 upc upe upf upg uph upi upj upk upl upm upn upo upp upq upr ups upt upu upv upw upx) (p0 : Hp nz wz S0 w0 ((Gx0, .row 98 upc (cx0 * (kInt .i64).size) 0) :: (some upe, .row 63 [(pt upf 0)] 1 0) :: (some upf, .row 97 [.slice (Gp upg) uph upi, (pt upk 0), (pt upp 0)] 3 0) :: (upg, .row 89 upj (upi * kT88.size) 0) :: (some upk, .row 106 [.slice (Gp upl) upm upn, .slice (Gp Gx0) nx0 cx0] 2 0) :: (upl, .row 3 upo (upn * (kInt .i64).size) 0) :: (some upp, .row 106 [.slice (Gp upq) upr ups, .slice (Gp upu) upv upw] 2 0) :: (upq, .row 3 upt (ups * (kInt .i64).size) 0) :: (upu, .row 98 upx (upw * (kInt .i64).size) 0) :: Lr)) (fx0 : Els (kInt .i64) S0 w0 upc x0) (lx0 : x0.length = nx0) (uq3 : Els kT88 S0 w0 upj upy) (uq4 : upy.length = uph) (uq5 : Els (kInt .i64) S0 w0 upo upz) (uq6 : upz.length = upm) (uq7 : Els (kInt .i64) S0 w0 upt uq0.place) (uq8 : uq0.place.length = upr) (uq9 : Els (kInt .i64) S0 w0 upx uq0.list) (uqa : uq0.list.length = upv) :
  Calls Try.prog 70 #[.slice (Gp Gx0) nx0 cx0, .func (.func 50) #[] #[(pt upe 0)]] w0 (Rets (Post.z3m nz wz S0 w0 Lr Gx0 nx0 cx0 upc upe upf upg uph upi upj upk upl upm upn upo upp upq upr ups upt upu upv upw upx x0 upy upz uq0 r)) := by
 subst lx0
 subst uq4
 subst uq6
 subst uq8
 subst uqa
 refine calls_of_goes (fn := Try.f70) (c := B70) (by kernel_rfl) (by kernel_rfl) 17 (by kernel_rfl) ?_
 refine Goes.jp 19 [(0, .slice (Gp Gx0) x0.length cx0), (1, .func (.func 50) #[] #[(pt upe 0)])] (fun junk => ?_)
 delta M.sim_state_3 at h
 refine Goes.rn 13 [(4, .i 0), (6, .slice (Gp Gx0) x0.length cx0), (7, .i (x0.length : Int)), (8, .i 0)] Jrr ?_
 have p0 := ((((((((p0.fr 8).fr 8).fr 8).fr 3).fr 8).fr 8).fr 8).fr 8).fr 8
 exact Goes.jp 19 [(0, .slice (Gp Gx0) x0.length cx0), (1, .func (.func 50) #[] #[(pt upe 0)]), (7, .i (x0.length : Int)), (8, .i 0)] (W.z3n Gx0 x0.length cx0 upc upe upf upg upy.length upi upj upk upl upz.length upn upo upp upq uq0.place.length ups upt upu uq0.list.length upw upx _ _ h _ _ (Ext.refl S0 w0) p0 uq3 rfl uq5 rfl fx0 rfl uq7 rfl uq9 rfl)

def Qm3 := sub [1, 1] B49
def Js0 : List Item := [.code Qm3]
def Qm4 := sub [1, 0] B49
def Js1 : List Item := .inRegion (opsOf Qm4) [2, 3, 4] :: Js0

def Post.z3o (Gx0 : Option Nat) (nx0 : Nat) (cx0 : Nat) (upc : List Value) (upe : Nat) (upf : Nat) (upg : Option Nat) (uph : Nat) (upi : Nat) (upj : List Value) (upk : Nat) (upl : Option Nat) (upm : Nat) (upn : Nat) (upo : List Value) (upp : Nat) (upq : Option Nat) (upr : Nat) (ups : Nat) (upt : List Value) (upu : Option Nat) (upv : Nat) (upw : Nat) (upx : List Value) (x0 : List Int) (upy : List T88) (upz : List Int) (uq0 : T105) (r : Bool) (v : Value) (w' : World) : Prop :=
 ∃ S', v = .bool r ∧ Ext S0 w0 S' w' ∧ Hp nz wz S' w' ((some upe, .row 63 [(pt upf 0)] 1 0) :: (some upf, .row 97 [.slice (Gp upg) uph upi, (pt upk 0), (pt upp 0)] 3 0) :: (upg, .row 89 upj (upi * kT88.size) 0) :: (some upk, .row 106 [.slice (Gp upl) upm upn, .slice (Gp Gx0) nx0 cx0] 2 0) :: (upl, .row 3 upo (upn * (kInt .i64).size) 0) :: (Gx0, .row 98 upc (cx0 * (kInt .i64).size) 0) :: (some upp, .row 106 [.slice (Gp upq) upr ups, .slice (Gp upu) upv upw] 2 0) :: (upq, .row 3 upt (ups * (kInt .i64).size) 0) :: (upu, .row 98 upx (upw * (kInt .i64).size) 0) :: Lr)

theorem W.z3o (x0 : List Int) (upy : List T88) (upz : List Int) (uq0 : T105) (r : Bool) (h : M.sim_state_2 x0 upy upz uq0 = some r) {nz wz S0 w0 Lr} (Gx0 nx0 cx0 upc upe upf upg uph upi upj upk upl upm upn upo upp upq upr ups upt upu upv upw upx) (p0 : Hp nz wz S0 w0 ((Gx0, .row 98 upc (cx0 * (kInt .i64).size) 0) :: (some upe, .row 63 [(pt upf 0)] 1 0) :: (some upf, .row 97 [.slice (Gp upg) uph upi, (pt upk 0), (pt upp 0)] 3 0) :: (upg, .row 89 upj (upi * kT88.size) 0) :: (some upk, .row 106 [.slice (Gp upl) upm upn, .slice (Gp Gx0) nx0 cx0] 2 0) :: (upl, .row 3 upo (upn * (kInt .i64).size) 0) :: (some upp, .row 106 [.slice (Gp upq) upr ups, .slice (Gp upu) upv upw] 2 0) :: (upq, .row 3 upt (ups * (kInt .i64).size) 0) :: (upu, .row 98 upx (upw * (kInt .i64).size) 0) :: Lr)) (fx0 : Els (kInt .i64) S0 w0 upc x0) (lx0 : x0.length = nx0) (uq3 : Els kT88 S0 w0 upj upy) (uq4 : upy.length = uph) (uq5 : Els (kInt .i64) S0 w0 upo upz) (uq6 : upz.length = upm) (uq7 : Els (kInt .i64) S0 w0 upt uq0.place) (uq8 : uq0.place.length = upr) (uq9 : Els (kInt .i64) S0 w0 upx uq0.list) (uqa : uq0.list.length = upv) :
  Calls Try.prog 49 #[.slice (Gp Gx0) nx0 cx0, .func (.func 50) #[] #[(pt upe 0)]] w0 (Rets (Post.z3o nz wz S0 w0 Lr Gx0 nx0 cx0 upc upe upf upg uph upi upj upk upl upm upn upo upp upq upr ups upt upu upv upw upx x0 upy upz uq0 r)) := by
 subst lx0
 subst uq4
 subst uq6
 subst uq8
 subst uqa
 refine calls_of_goes (fn := Try.f49) (c := B49) (by kernel_rfl) (by kernel_rfl) 7 (by kernel_rfl) ?_
 refine Goes.jp 9 [(0, .slice (Gp Gx0) x0.length cx0), (1, .func (.func 50) #[] #[(pt upe 0)])] (fun junk => ?_)
 delta M.sim_state_2 at h
 refine Goes.rn 8 [(4, .bool false), (5, .slice (Gp Gx0) x0.length cx0), (6, .func (.func 50) #[] #[(pt upe 0)])] Js1 ?_
 refine bind_some' h fun y10 e11 h => ?_
 refine Goes.cal (kc 70 [5, 6] #[104, 107]) 7 3 70 _ (W.z3m x0 upy upz uq0 y10 e11 Gx0 x0.length cx0 upc upe upf upg upy.length upi upj upk upl upz.length upn upo upp upq uq0.place.length ups upt upu uq0.list.length upw upx p0 fx0 rfl uq3 rfl uq5 rfl uq7 rfl uq9 rfl) ?_
 rintro _ w2 ⟨S2, rfl, z2, p2⟩
 refine Goes.rn 3 [(8, .bool (decide (y10 ≥ 0))), (4, .bool (decide (y10 ≥ 0)))] Js0 ?_
 obtain rfl := Option.some.inj h
 exact Goes.rt Try.f49 (.bool (decide (y10 ≥ 0))) ⟨S2, rfl, ((Ext.refl S0 w0).trans z2), p2⟩

def Qm5 := sub [1] B28
def Js2 : List Item := [.code Qm5]
def Qm6 := sub [0] B28
def Js3 : List Item := .inRegion (opsOf Qm6) [0, 1] :: Js2
def Qm7 := sub [1, 1] B28
def Js4 : List Item := [.code Qm7]
def Qm8 := sub [1, 0, 1] B28
def Js5 : List Item := .code Qm8 :: Js4
def Qm9 := sub [1, 0, 0] B28
def Js6 : List Item := .inRegion (opsOf Qm9) [0, 1, 2] :: Js5
def Qma := sub [1, 1, 1] B28
def Js7 : List Item := [.code Qma]
def Qmb := sub [1, 1, 0] B28
def Js8 : List Item := .inRegion (opsOf Qmb) [0, 1, 2, 3, 4, 5, 6, 7, 8, 9] :: Js7
def Js9 : List Item := .inRegion (opsOf Qmb) [3, 4, 5, 6, 7, 8, 9] :: Js7
def Jsa : List Item := .inRegion (opsOf Qmb) [6, 7, 8, 9] :: Js7
def Jsb : List Item := .inRegion (opsOf Qmb) [8, 9] :: Js7
def Qmc := sub [1, 0, 1, 0, 1] B28
def Jsc : List Item := .code Qmc :: Js4

def Post.z3p (gx0 : Nat) (uab : Option Nat) (uac : Nat) (uad : Nat) (uae : List Value) (ufr : Nat) (ufs : Option Nat) (uft : Nat) (ufu : Nat) (ufv : List Value) (ufw : Option Nat) (ufx : Nat) (ufy : Nat) (ufz : List Value) (ug0 : Nat) (ug1 : Option Nat) (ug2 : Nat) (ug3 : Nat) (ug4 : List Value) (ug5 : Option Nat) (ug6 : Nat) (ug7 : Nat) (ug8 : List Value) (x0v : T96) (r : Bool) (v : Value) (w' : World) : Prop :=
 ∃ S', v = .bool r ∧ Ext S0 w0 S' w' ∧ Hp nz wz S' w' ((some gx0, .row 97 [.slice (Gp uab) uac uad, (pt ufr 0), (pt ug0 0)] 3 0) :: (uab, .row 89 uae (uad * kT88.size) 0) :: (some ufr, .row 106 [.slice (Gp ufs) uft ufu, .slice (Gp ufw) ufx ufy] 2 0) :: (ufs, .row 3 ufv (ufu * (kInt .i64).size) 0) :: (ufw, .row 98 ufz (ufy * (kInt .i64).size) 0) :: (some ug0, .row 106 [.slice (Gp ug1) ug2 ug3, .slice (Gp ug5) ug6 ug7] 2 0) :: (ug1, .row 3 ug4 (ug3 * (kInt .i64).size) 0) :: (ug5, .row 98 ug8 (ug7 * (kInt .i64).size) 0) :: Lr)

theorem W.z3p (x0v : T96) (r : Bool) (h : M.sim_Runner_Accepts x0v = some r) {nz wz S0 w0 Lr} (gx0 uab uac uad uae ufr ufs uft ufu ufv ufw ufx ufy ufz ug0 ug1 ug2 ug3 ug4 ug5 ug6 ug7 ug8) (p0 : Hp nz wz S0 w0 ((some gx0, .row 97 [.slice (Gp uab) uac uad, (pt ufr 0), (pt ug0 0)] 3 0) :: (uab, .row 89 uae (uad * kT88.size) 0) :: (some ufr, .row 106 [.slice (Gp ufs) uft ufu, .slice (Gp ufw) ufx ufy] 2 0) :: (ufs, .row 3 ufv (ufu * (kInt .i64).size) 0) :: (ufw, .row 98 ufz (ufy * (kInt .i64).size) 0) :: (some ug0, .row 106 [.slice (Gp ug1) ug2 ug3, .slice (Gp ug5) ug6 ug7] 2 0) :: (ug1, .row 3 ug4 (ug3 * (kInt .i64).size) 0) :: (ug5, .row 98 ug8 (ug7 * (kInt .i64).size) 0) :: Lr)) (uaf : Els kT88 S0 w0 uae x0v.l) (uag : x0v.l.length = uac) (ug9 : Els (kInt .i64) S0 w0 ufv x0v.now.place) (uga : x0v.now.place.length = uft) (ugb : Els (kInt .i64) S0 w0 ufz x0v.now.list) (ugc : x0v.now.list.length = ufx) (ugd : Els (kInt .i64) S0 w0 ug4 x0v.next.place) (uge : x0v.next.place.length = ug2) (ugf : Els (kInt .i64) S0 w0 ug8 x0v.next.list) (ugg : x0v.next.list.length = ug6) :
  Calls Try.prog 28 #[(pt gx0 0)] w0 (Rets (Post.z3p nz wz S0 w0 Lr gx0 uab uac uad uae ufr ufs uft ufu ufv ufw ufx ufy ufz ug0 ug1 ug2 ug3 ug4 ug5 ug6 ug7 ug8 x0v r)) := by
 subst uag
 subst uga
 subst ugc
 subst uge
 subst ugg
 refine calls_of_goes (fn := Try.f28) (c := B28) (by kernel_rfl) (by kernel_rfl) 14 (by kernel_rfl) ?_
 refine Goes.jp 15 [(0, (pt gx0 0))] (fun junk => ?_)
 delta M.sim_Runner_Accepts at h
 refine Goes.rn 2 [] Js3 ?_
 refine Op_.box 63 (.tmp 0) 1 0 ((pt gx0 0)) [(pt gx0 0)] p0 Goes.v (by kernel_rfl) (by kernel_rfl) ?_
 intro b9 w2 z2 p2
 refine Goes.rn 5 [(2, .bool false)] Js6 ?_
 refine Goes.ld 63 (.tmp 1) 3 63 ⟨b9, 0, none⟩ ((pt gx0 0)) (p2.c 0 0) ?_
 have p2 := (((((((p2.fr 8).fr 8).fr 8).fr 8).fr 8).fr 8).fr 8).fr 8
 refine bind_some' h fun y11 e12 h => ?_
 refine Goes.cal (kc 44 [3] #[63]) 4 4 44 _ (W.z31 x0v y11 e12 gx0 uab x0v.l.length uad uae ufr ufs x0v.now.place.length ufu ufv ufw x0v.now.list.length ufy ufz ug0 ug1 x0v.next.place.length ug3 ug4 ug5 x0v.next.list.length ug7 ug8 p2 (uaf.ext z2) rfl (ug9.ext z2) rfl (ugb.ext z2) rfl (ugd.ext z2) rfl (ugf.ext z2) rfl) ?_
 rintro _ w3 ⟨S3, rfl, z3, p3⟩
 refine Goes.rn 2 [(5, .bool (!y11))] Js5 ?_
 refine ite_some h (fun h13 h => ?_) (fun h13 h => ?_)
 ·
  rw [h13]
  refine Goes.rn 4 [] Js8 ?_
  refine Goes.ld 63 (.tmp 1) 6 63 ⟨b9, 0, none⟩ ((pt gx0 0)) (p3.c 8 0) ?_
  refine Goes.rn 2 [(7, (pt gx0 0)), (8, (pt gx0 1))] Js9 ?_
  refine Goes.ld 95 (.tmp 8) 9 95 ⟨gx0, 1, none⟩ ((pt ufr 0)) (p3.c 0 1) ?_
  refine Goes.rn 2 [(10, (pt ufr 0)), (11, (pt ufr 1))] Jsa ?_
  refine Goes.ld 104 (.tmp 11) 12 104 ⟨ufr, 1, none⟩ (.slice (Gp ufw) x0v.now.list.length ufy) (p3.c 2 1) ?_
  refine Goes.rn 1 [(13, .func (.func 50) #[] #[(pt b9 0)])] Jsb ?_
  have p3 := ((((((((p3.fr 7).fr 7).fr 7).fr 6).fr 6).fr 6).fr 6).fr 8).fr 8
  refine bind_some' h fun y14 e15 h => ?_
  refine Goes.cal (kc 49 [12, 13] #[104, 107]) 14 4 49 _ (W.z3o x0v.now.list x0v.l x0v.now.place x0v.next y14 e15 ufw x0v.now.list.length ufy ufz b9 gx0 uab x0v.l.length uad uae ufr ufs x0v.now.place.length ufu ufv ug0 ug1 x0v.next.place.length ug3 ug4 ug5 x0v.next.list.length ug7 ug8 p3 (ugb.ext (z2.trans z3)) rfl (uaf.ext (z2.trans z3)) rfl (ug9.ext (z2.trans z3)) rfl (ugd.ext (z2.trans z3)) rfl (ugf.ext (z2.trans z3)) rfl) ?_
  rintro _ w4 ⟨S4, rfl, z4, p4⟩
  have p4 := p4.dp 0
  refine Goes.rn 2 [(2, .bool y14)] Js7 ?_
  obtain rfl := Option.some.inj h
  exact Goes.rt Try.f28 (.bool y14) ⟨S4, rfl, ((((Ext.refl S0 w0).trans z2).trans z3).trans z4), p4⟩
 ·
  have u67 : y11 = false := by simpa using h13
  rw [u67]
  refine Goes.rn 5 [(2, .bool false)] Jsc ?_
  obtain rfl := Option.some.inj h
  have p3 := p3.dp 8
  exact Goes.rt Try.f28 (.bool false) ⟨S3, rfl, (((Ext.refl S0 w0).trans z2).trans z3), p3⟩

def Qmd := sub [1, 1, 1, 1] B13
def Jsd : List Item := [.code Qmd]
def Jse : List Item := .inBlock 0 :: Jsd
def Qme := sub [1, 1, 1, 0, 1, 0, 0] B13
def Jsf : List Item := .inLoop Qme :: Jse
def Jsg : List Item := .code Qme :: Jsf
def Qmf := sub [1, 1, 1, 0, 1, 0, 0, 1, 1] B13
def Jsh : List Item := .code Qmf :: Jsf
def Qmg := sub [1, 1, 1, 0, 1, 0, 0, 1, 0] B13
def Jsi : List Item := .code Qmg :: Jsh
def Qmh := sub [1, 1, 1, 0, 1, 0, 0, 1, 1, 1] B13
def Jsj : List Item := .code Qmh :: Jsf
def Jsk : List Item := .inBlock 1 :: Jsj
def Qmi := sub [1, 1, 1, 0, 1, 0, 0, 1, 1, 0, 0, 1, 1] B13
def Jsl : List Item := .code Qmi :: Jsk
def Qmj := sub [1, 1, 1, 0, 1, 0, 0, 1, 1, 0, 0, 1, 0] B13
def Jsm : List Item := .inRegion (opsOf Qmj) [3, 4, 5] :: Jsl
def Qmk := sub [1, 1, 1, 0, 1, 0, 0, 1, 1, 0, 0, 1, 1, 0, 1] B13
def Jsn : List Item := .code Qmk :: Jsk
def Qml := sub [1, 1, 1, 1, 1] B13
def Jso : List Item := [.code Qml]
def Qmm := sub [1, 1, 1, 1, 0] B13
def Jsp : List Item := .inRegion (opsOf Qmm) [1, 2, 3, 4] :: Jso

def Post.z3q (r : Bool × Int) (v : Value) (w' : World) : Prop :=
 ∃ S', v = .tuple #[.bool r.1, .i r.2] ∧ Ext S0 w0 S' w' ∧ Hp nz wz S' w' (Lr)

def L.z3r : ByteArray × T96 × Int × Int × Int → (Bool × Int) → Prop := fun ⟨x1, x6v, x7, x19, x20⟩ r => ∀ S1 w1, Ext S0 w0 S1 w1 → ∀ gx6 uqb uqc uqd uqe uqf uqg uqh uqi uqj uqk uql uqm uqn uqo uqp uqq uqr uqs uqt uqu uqv uqw (_ : Hp nz wz S1 w1 ((some gx6, .row 97 [.slice (Gp uqb) uqc uqd, (pt uqf 0), (pt uqo 0)] 3 0) :: (uqb, .row 89 uqe (uqd * kT88.size) 0) :: (some uqf, .row 106 [.slice (Gp uqg) uqh uqi, .slice (Gp uqk) uql uqm] 2 0) :: (uqg, .row 3 uqj (uqi * (kInt .i64).size) 0) :: (uqk, .row 98 uqn (uqm * (kInt .i64).size) 0) :: (some uqo, .row 106 [.slice (Gp uqp) uqq uqr, .slice (Gp uqt) uqu uqv] 2 0) :: (uqp, .row 3 uqs (uqr * (kInt .i64).size) 0) :: (uqt, .row 98 uqw (uqv * (kInt .i64).size) 0) :: Lr)) (_ : Els kT88 S1 w1 uqe x6v.l) (_ : x6v.l.length = uqc) (_ : Els (kInt .i64) S1 w1 uqj x6v.now.place) (_ : x6v.now.place.length = uqh) (_ : Els (kInt .i64) S1 w1 uqn x6v.now.list) (_ : x6v.now.list.length = uql) (_ : Els (kInt .i64) S1 w1 uqs x6v.next.place) (_ : x6v.next.place.length = uqq) (_ : Els (kInt .i64) S1 w1 uqw x6v.next.list) (_ : x6v.next.list.length = uqu) (junk : Nat → Value),
 Goes Try.prog (base 13) Jsg ⟨lfr 34 [(1, .string x1), (6, (pt gx6 0)), (7, .i x7), (19, .i x19), (20, .i x20)] junk, []⟩ w1 (Done Try.prog 13 (Rets (Post.z3q nz wz S0 w0 Lr r)))

theorem W.z3r {nz wz S0 w0 Lr} : ∀ a r, M.sim_Match_l0 a = some r → (L.z3r nz wz S0 w0 Lr) a r := by
 refine M.sim_Match_l0.partial_correctness (motive := (L.z3r nz wz S0 w0 Lr)) ?_
 intro uqx uqy ⟨x1, x6v, x7, x19, x20⟩ r h S1 w1 hx gx6 uqb uqc uqd uqe uqf uqg uqh uqi uqj uqk uql uqm uqn uqo uqp uqq uqr uqs uqt uqu uqv uqw p1 uqz u3d ur0 ur1 ur2 ur3 ur4 ur5 ur6 ur7 junk
 try dsimp only at h
 subst u3d
 subst ur1
 subst ur3
 subst ur5
 subst ur7
 refine Goes.rn 5 [(21, .bool (decide (x20 < x19)))] Jsi ?_
 refine ite_some h (fun h21 h => ?_) (fun h21 h => ?_)
 ·
  rw [decide_eq_true h21]
  refine Goes.rn 14 [(22, .i x20), (8, .i x20), (23, (pt gx6 0)), (24, .string x1), (25, .i x20)] Jsm ?_
  refine guard_some' h fun g22 h => ?_
  refine guard_some' h fun g23 h => ?_
  refine Op_.ixS 9 (.tmp 24) (.tmp 25) 26 5 .i64 x1 x20 Goes.v (by kernel_rfl) (by kernel_rfl) (by kernel_rfl) g22 g23 ?_
  refine bind_some' h fun y24 e25 h => ?_
  refine Goes.cal (kc 27 [23, 26] #[63, 5]) 27 4 27 _ (W.z3k x6v (bt x1 x20) y24 e25 gx6 uqb x6v.l.length uqd uqe uqf uqg x6v.now.place.length uqi uqj uqk x6v.now.list.length uqm uqn uqo uqp x6v.next.place.length uqr uqs uqt x6v.next.list.length uqv uqw p1 uqz rfl ur0 rfl ur2 rfl ur4 rfl ur6 rfl) ?_
  rintro _ w4 ⟨S4, ucq, ucr, ucs, uct, ur8, ur9, ura, urb, urc, urd, ure, urf, urg, urh, uri, urj, urk, url, urm, urn, uro, urp, rfl, z4, p4, ucu, rfl, urq, rfl, urr, rfl, urs, rfl, urt, rfl⟩
  refine Goes.rn 2 [(28, .bool (!y24.1))] Jsl ?_
  refine ite_some h (fun h33 h => ?_) (fun h33 h => ?_)
  ·
   rw [h33]
   refine Goes.rn 8 [(30, .i (wr .i64 (x20 + 1))), (20, .i (wr .i64 (x20 + 1)))] Jsg ?_
   exact Goes.jp 34 [(1, .string x1), (6, (pt gx6 0)), (7, .i x7), (19, .i x19), (20, .i (wr .i64 (x20 + 1)))] (uqy _ _ h _ _ (hx.trans z4) gx6 ucq y24.2.l.length ucs uct ur8 ur9 y24.2.now.place.length urb urc urd y24.2.now.list.length urf urg urh uri y24.2.next.place.length urk url urm y24.2.next.list.length uro urp p4 ucu rfl urq rfl urr rfl urs rfl urt rfl)
  ·
   have uru : y24.1 = false := by simpa using h33
   rw [uru]
   refine Goes.rn 7 [(29, .i x7), (4, .bool false), (5, .i x7)] Jsn ?_
   obtain rfl := Option.some.inj h
   have p4 := (((((((p4.dp 0).dp 0).dp 0).dp 0).dp 0).dp 0).dp 0).dp 0
   exact Goes.rt Try.f13 (.tuple #[.bool false, .i x7]) ⟨S4, rfl, (hx.trans z4), p4⟩
 ·
  rw [decide_eq_false h21]
  refine Goes.rn 5 [(31, (pt gx6 0))] Jsp ?_
  refine bind_some' h fun y34 e35 h => ?_
  refine Goes.cal (kc 28 [31] #[63]) 32 4 28 _ (W.z3p x6v y34 e35 gx6 uqb x6v.l.length uqd uqe uqf uqg x6v.now.place.length uqi uqj uqk x6v.now.list.length uqm uqn uqo uqp x6v.next.place.length uqr uqs uqt x6v.next.list.length uqv uqw p1 uqz rfl ur0 rfl ur2 rfl ur4 rfl ur6 rfl) ?_
  rintro _ w5 ⟨S5, rfl, z5, p5⟩
  have p5 := (((((((p5.dp 0).dp 0).dp 0).dp 0).dp 0).dp 0).dp 0).dp 0
  refine Goes.rn 4 [(33, .i x7), (4, .bool y34), (5, .i x7)] Jso ?_
  obtain rfl := Option.some.inj h
  exact Goes.rt Try.f13 (.tuple #[.bool y34, .i x7]) ⟨S5, rfl, (hx.trans z5), p5⟩

def Jsq : List Item := .inRegion (opsOf Qiz) [8, 9] :: Jnr

def Post.z3s (r : Bool) (v : Value) (w' : World) : Prop :=
 ∃ S', v = .bool r ∧ Ext S0 w0 S' w' ∧ Hp nz wz S' w' (Lr)

theorem W.z3s (r : Bool) (h : M.sim_Runner_is_2 = some r) {nz wz S0 w0 Lr} (p0 : Hp nz wz S0 w0 (Lr)) :
  Calls Try.prog 44 #[.pointer none] w0 (Rets (Post.z3s nz wz S0 w0 Lr r)) := by
 refine calls_of_goes (fn := Try.f44) (c := B44) (by kernel_rfl) (by kernel_rfl) 11 (by kernel_rfl) ?_
 refine Goes.jp 12 [(0, .pointer none)] (fun junk => ?_)
 delta M.sim_Runner_is_2 at h
 refine Goes.rn 14 [(2, .bool false), (3, .pointer none), (4, .bool false), (5, .bool false), (6, undef), (7, undef), (8, undef), (9, undef), (10, undef)] Jsq ?_
 refine Goes.rn 3 [(11, .bool false), (2, .bool false)] Jnr ?_
 obtain rfl := Option.some.inj h
 exact Goes.rt Try.f44 (.bool false) ⟨S0, rfl, (Ext.refl S0 w0), p0⟩

def Post.z3t (r : Bool) (v : Value) (w' : World) : Prop :=
 ∃ S', v = .bool r ∧ Ext S0 w0 S' w' ∧ Hp nz wz S' w' (Lr)

theorem W.z3t (x1 : Int) (r : Bool) (h : M.sim_Runner_Feed_2 x1 = some r) {nz wz S0 w0 Lr} (p0 : Hp nz wz S0 w0 (Lr)) :
  Calls Try.prog 27 #[.pointer none, .int .u8 x1] w0 (Rets (Post.z3t nz wz S0 w0 Lr r)) := by
 refine calls_of_goes (fn := Try.f27) (c := B27) (by kernel_rfl) (by kernel_rfl) 40 (by kernel_rfl) ?_
 refine Goes.jp 42 [(0, .pointer none), (1, .int .u8 x1)] (fun junk => ?_)
 delta M.sim_Runner_Feed_2 at h
 refine Goes.rn 2 [] Jr1 ?_
 refine Op_.box 63 (.tmp 0) 2 0 (.pointer none) [.pointer none] p0 Goes.v (by kernel_rfl) (by kernel_rfl) ?_
 intro b1 w2 z2 p2
 refine Goes.rn 5 [(4, .bool false)] Jr4 ?_
 refine Goes.ld 63 (.tmp 2) 6 63 ⟨b1, 0, none⟩ (.pointer none) (p2.c 0 0) ?_
 refine bind_some' h fun y3 e4 h => ?_
 refine Goes.cal (kc 44 [6] #[63]) 7 4 44 _ (W.z3s y3 e4  p2 ) ?_
 rintro _ w3 ⟨S3, rfl, z3, p3⟩
 refine Goes.rn 2 [(8, .bool (!y3))] Jr3 ?_
 refine ite_some h (fun h5 h => ?_) (fun h5 h => ?_)
 ·
  rw [h5]
  refine Goes.rn 4 [] Jr6 ?_
  refine Goes.ld 63 (.tmp 2) 9 63 ⟨b1, 0, none⟩ (.pointer none) (p3.c 0 0) ?_
  cases h
 ·
  have h5' : y3 = false := by simpa using h5
  rw [h5']
  refine Goes.rn 5 [(4, .bool false)] Jri ?_
  obtain rfl := Option.some.inj h
  have p3 := p3.dp 0
  exact Goes.rt Try.f27 (.bool false) ⟨S3, rfl, (((Ext.refl S0 w0).trans z2).trans z3), p3⟩

def Post.z3u (r : Bool) (v : Value) (w' : World) : Prop :=
 ∃ S', v = .bool r ∧ Ext S0 w0 S' w' ∧ Hp nz wz S' w' (Lr)

theorem W.z3u (r : Bool) (h : M.sim_Runner_Accepts_2 = some r) {nz wz S0 w0 Lr} (p0 : Hp nz wz S0 w0 (Lr)) :
  Calls Try.prog 28 #[.pointer none] w0 (Rets (Post.z3u nz wz S0 w0 Lr r)) := by
 refine calls_of_goes (fn := Try.f28) (c := B28) (by kernel_rfl) (by kernel_rfl) 14 (by kernel_rfl) ?_
 refine Goes.jp 15 [(0, .pointer none)] (fun junk => ?_)
 delta M.sim_Runner_Accepts_2 at h
 refine Goes.rn 2 [] Js3 ?_
 refine Op_.box 63 (.tmp 0) 1 0 (.pointer none) [.pointer none] p0 Goes.v (by kernel_rfl) (by kernel_rfl) ?_
 intro b1 w2 z2 p2
 refine Goes.rn 5 [(2, .bool false)] Js6 ?_
 refine Goes.ld 63 (.tmp 1) 3 63 ⟨b1, 0, none⟩ (.pointer none) (p2.c 0 0) ?_
 refine bind_some' h fun y3 e4 h => ?_
 refine Goes.cal (kc 44 [3] #[63]) 4 4 44 _ (W.z3s y3 e4  p2 ) ?_
 rintro _ w3 ⟨S3, rfl, z3, p3⟩
 refine Goes.rn 2 [(5, .bool (!y3))] Js5 ?_
 refine ite_some h (fun h5 h => ?_) (fun h5 h => ?_)
 ·
  rw [h5]
  refine Goes.rn 4 [] Js8 ?_
  refine Goes.ld 63 (.tmp 1) 6 63 ⟨b1, 0, none⟩ (.pointer none) (p3.c 0 0) ?_
  cases h
 ·
  have h5' : y3 = false := by simpa using h5
  rw [h5']
  refine Goes.rn 5 [(2, .bool false)] Jsc ?_
  obtain rfl := Option.some.inj h
  have p3 := p3.dp 0
  exact Goes.rt Try.f28 (.bool false) ⟨S3, rfl, (((Ext.refl S0 w0).trans z2).trans z3), p3⟩

def L.z3v : ByteArray × Int × Int × Int → (Bool × Int) → Prop := fun ⟨x1, x7, x19, x20⟩ r => ∀ S1 w1, Ext S0 w0 S1 w1 → ∀ (_ : Hp nz wz S1 w1 (Lr)) (junk : Nat → Value),
 Goes Try.prog (base 13) Jsg ⟨lfr 34 [(1, .string x1), (6, .pointer none), (7, .i x7), (19, .i x19), (20, .i x20)] junk, []⟩ w1 (Done Try.prog 13 (Rets (Post.z3q nz wz S0 w0 Lr r)))

theorem W.z3v {nz wz S0 w0 Lr} : ∀ a r, M.sim_Match_l1 a = some r → (L.z3v nz wz S0 w0 Lr) a r := by
 refine M.sim_Match_l1.partial_correctness (motive := (L.z3v nz wz S0 w0 Lr)) ?_
 intro urv urw ⟨x1, x7, x19, x20⟩ r h S1 w1 hx p1 junk
 try dsimp only at h
 refine Goes.rn 5 [(21, .bool (decide (x20 < x19)))] Jsi ?_
 refine ite_some h (fun h36 h => ?_) (fun h36 h => ?_)
 ·
  rw [decide_eq_true h36]
  refine Goes.rn 14 [(22, .i x20), (8, .i x20), (23, .pointer none), (24, .string x1), (25, .i x20)] Jsm ?_
  refine guard_some' h fun g37 h => ?_
  refine guard_some' h fun g38 h => ?_
  refine Op_.ixS 9 (.tmp 24) (.tmp 25) 26 5 .i64 x1 x20 Goes.v (by kernel_rfl) (by kernel_rfl) (by kernel_rfl) g37 g38 ?_
  refine bind_some' h fun y39 e40 h => ?_
  refine Goes.cal (kc 27 [23, 26] #[63, 5]) 27 4 27 _ (W.z3t (bt x1 x20) y39 e40  p1 ) ?_
  rintro _ w6 ⟨S6, rfl, z6, p6⟩
  refine Goes.rn 2 [(28, .bool (!y39))] Jsl ?_
  refine ite_some h (fun h41 h => ?_) (fun h41 h => ?_)
  ·
   rw [h41]
   refine Goes.rn 8 [(30, .i (wr .i64 (x20 + 1))), (20, .i (wr .i64 (x20 + 1)))] Jsg ?_
   exact Goes.jp 34 [(1, .string x1), (6, .pointer none), (7, .i x7), (19, .i x19), (20, .i (wr .i64 (x20 + 1)))] (urw _ _ h _ _ (hx.trans z6) p6)
  ·
   have u90 : y39 = false := by simpa using h41
   rw [u90]
   refine Goes.rn 7 [(29, .i x7), (4, .bool false), (5, .i x7)] Jsn ?_
   obtain rfl := Option.some.inj h
   exact Goes.rt Try.f13 (.tuple #[.bool false, .i x7]) ⟨S6, rfl, (hx.trans z6), p6⟩
 ·
  rw [decide_eq_false h36]
  refine Goes.rn 5 [(31, .pointer none)] Jsp ?_
  refine bind_some' h fun y42 e43 h => ?_
  refine Goes.cal (kc 28 [31] #[63]) 32 4 28 _ (W.z3u y42 e43  p1 ) ?_
  rintro _ w7 ⟨S7, rfl, z7, p7⟩
  refine Goes.rn 4 [(33, .i x7), (4, .bool y42), (5, .i x7)] Jso ?_
  obtain rfl := Option.some.inj h
  exact Goes.rt Try.f13 (.tuple #[.bool y42, .i x7]) ⟨S7, rfl, (hx.trans z7), p7⟩

def Qmn := sub [1, 1] B13
def Jsr : List Item := [.code Qmn]
def Qmo := sub [1, 0] B13
def Jss : List Item := .inRegion (opsOf Qmo) [2, 3, 4, 5, 6, 7] :: Jsr
def Qmp := sub [1, 1, 1] B13
def Jst : List Item := [.code Qmp]
def Qmq := sub [1, 1, 0, 1] B13
def Jsu : List Item := .code Qmq :: Jst
def Qmr := sub [1, 1, 0, 1, 0, 1] B13
def Jsv : List Item := .code Qmr :: Jst

theorem W.z3q (x0 : List T88) (x1 : ByteArray) (r : Bool × Int) (h : M.sim_Match x0 x1 = some r) {nz wz S0 w0 Lr} (Ax0 nx0 cx0) (p0 : Hp nz wz S0 w0 (Lr)) (fx0 : Rd kT88 S0 w0 Ax0 cx0 x0) (lx0 : x0.length = nx0) :
  Calls Try.prog 13 #[.slice Ax0 nx0 cx0, .string x1] w0 (Rets (Post.z3q nz wz S0 w0 Lr r)) := by
 subst lx0
 refine calls_of_goes (fn := Try.f13) (c := B13) (by kernel_rfl) (by kernel_rfl) 32 (by kernel_rfl) ?_
 refine Goes.jp 34 [(0, .slice Ax0 x0.length cx0), (1, .string x1)] (fun junk => ?_)
 delta M.sim_Match at h
 refine Goes.rn 9 [(4, .bool false), (5, .i 0), (10, .slice Ax0 x0.length cx0), (11, .string x1)] Jss ?_
 refine bind_some' h fun y1 e2 h => ?_
 rcases y1 with uj2 | uj3
 ·
  try dsimp only at h
  refine Goes.cal (kc 26 [10, 11] #[35, 9]) 12 64 26 _ (W.z39 x0 x1 (Sum.inl uj2) e2 Ax0 x0.length cx0 p0 fx0 rfl) ?_
  rintro _ w2 ⟨S2, uj4, uj5, uj6, uj7, uj8, uj9, uja, ujb, ujc, ujd, uje, ujf, ujg, ujh, uji, ujj, ujk, ujl, ujm, ujn, ujo, ujp, ujq, rfl, z2, p2, ujr, rfl, ujs, rfl, ujt, rfl, uju, rfl, ujv, rfl⟩
  refine Goes.rn 12 [(9, .tuple #[(pt uj4 0), .i uj2.2]), (13, (pt uj4 0)), (14, .i uj2.2), (6, (pt uj4 0)), (7, .i uj2.2), (15, .i uj2.2), (16, .bool (!(decide (uj2.2 = 0))))] Jsu ?_
  refine ite_some h (fun h11 h => ?_) (fun h11 h => ?_)
  ·
   rw [decide_eq_true h11]
   refine Goes.rn 11 [(18, .string x1), (19, .i (x1.size : Int)), (20, .i 0)] Jsg ?_
   exact Goes.jp 34 [(1, .string x1), (6, (pt uj4 0)), (7, .i uj2.2), (19, .i (x1.size : Int)), (20, .i 0)] (W.z3r _ _ h _ _ ((Ext.refl S0 w0).trans z2) uj4 uj5 uj2.1.l.length uj7 uj8 uj9 uja uj2.1.now.place.length ujc ujd uje uj2.1.now.list.length ujg ujh uji ujj uj2.1.next.place.length ujl ujm ujn uj2.1.next.list.length ujp ujq p2 ujr rfl ujs rfl ujt rfl uju rfl ujv rfl)
  ·
   rw [decide_eq_false h11]
   refine Goes.rn 7 [(17, .i uj2.2), (4, .bool false), (5, .i uj2.2)] Jsv ?_
   obtain rfl := Option.some.inj h
   have p2 := (((((((p2.dp 0).dp 0).dp 0).dp 0).dp 0).dp 0).dp 0).dp 0
   exact Goes.rt Try.f13 (.tuple #[.bool false, .i uj2.2]) ⟨S2, rfl, ((Ext.refl S0 w0).trans z2), p2⟩
 ·
  try dsimp only at h
  refine Goes.cal (kc 26 [10, 11] #[35, 9]) 12 64 26 _ (W.z39 x0 x1 (Sum.inr uj3) e2 Ax0 x0.length cx0 p0 fx0 rfl) ?_
  rintro _ w3 ⟨S3, rfl, z3, p3⟩
  refine Goes.rn 12 [(9, .tuple #[.pointer none, .i uj3]), (13, .pointer none), (14, .i uj3), (6, .pointer none), (7, .i uj3), (15, .i uj3), (16, .bool (!(decide (uj3 = 0))))] Jsu ?_
  refine ite_some h (fun h20 h => ?_) (fun h20 h => ?_)
  ·
   rw [decide_eq_true h20]
   refine Goes.rn 11 [(18, .string x1), (19, .i (x1.size : Int)), (20, .i 0)] Jsg ?_
   exact Goes.jp 34 [(1, .string x1), (6, .pointer none), (7, .i uj3), (19, .i (x1.size : Int)), (20, .i 0)] (W.z3v _ _ h _ _ ((Ext.refl S0 w0).trans z3) p3)
  ·
   rw [decide_eq_false h20]
   refine Goes.rn 7 [(17, .i uj3), (4, .bool false), (5, .i uj3)] Jsv ?_
   obtain rfl := Option.some.inj h
   exact Goes.rt Try.f13 (.tuple #[.bool false, .i uj3]) ⟨S3, rfl, ((Ext.refl S0 w0).trans z3), p3⟩

def Qms := sub [1, 1] B16
def Jsw : List Item := [.code Qms]
def Qmt := sub [1, 0] B16
def Jsx : List Item := .inRegion (opsOf Qmt) [1, 2, 3, 4, 5, 6, 7, 8, 9] :: Jsw
def Jsy : List Item := .inRegion (opsOf Qmt) [6, 7, 8, 9] :: Jsw
def Qmu := sub [1, 1, 1] B16
def Jsz : List Item := [.code Qmu]
def Qmv := sub [1, 1, 0, 1] B16
def Jt0 : List Item := .code Qmv :: Jsz
def Qmw := sub [1, 1, 1, 1] B16
def Jt1 : List Item := [.code Qmw]
def Qmx := sub [1, 1, 1, 0] B16
def Jt2 : List Item := .inRegion (opsOf Qmx) [0, 1, 2, 3, 4, 5, 6] :: Jt1
def Qmy := sub [1, 1, 1, 1, 1] B16
def Jt3 : List Item := [.code Qmy]
def Qmz := sub [1, 1, 1, 1, 0, 1] B16
def Jt4 : List Item := .code Qmz :: Jt3
def Qn0 := sub [1, 1, 1, 1, 1, 1] B16
def Jt5 : List Item := [.code Qn0]
def Qn1 := sub [1, 1, 1, 1, 1, 0] B16
def Jt6 : List Item := .inRegion (opsOf Qn1) [2, 3, 4, 5, 6, 7] :: Jt5
def Qn2 := sub [1, 1, 1, 1, 1, 1, 1] B16
def Jt7 : List Item := [.code Qn2]
def Qn3 := sub [1, 1, 1, 1, 0, 1, 0, 1] B16
def Jt8 : List Item := .code Qn3 :: Jt3
def Qn4 := sub [1, 1, 0, 1, 0, 1] B16
def Jt9 : List Item := .code Qn4 :: Jsz

def Post.z3w (r : Bool × Int × Int) (v : Value) (w' : World) : Prop :=
 ∃ S', v = .tuple #[.bool r.1, .i r.2.1, .i r.2.2] ∧ Ext S0 w0 S' w' ∧ Hp nz wz S' w' (Lr)

theorem W.z3w (x0 : ByteArray) (x1 : ByteArray) (r : Bool × Int × Int) (h : M.sim_Full x0 x1 = some r) {nz wz S0 w0 Lr} (p0 : Hp nz wz S0 w0 (Lr)) :
  Calls Try.prog 16 #[.string x0, .string x1] w0 (Rets (Post.z3w nz wz S0 w0 Lr r)) := by
 refine calls_of_goes (fn := Try.f16) (c := B16) (by kernel_rfl) (by kernel_rfl) 36 (by kernel_rfl) ?_
 refine Goes.jp 38 [(0, .string x0), (1, .string x1)] (fun junk => ?_)
 delta M.sim_Full at h
 refine Goes.rn 9 [(4, .bool false), (5, .i 0), (6, .i 0), (13, .string x0)] Jsx ?_
 refine bind_some' h fun y1 e2 h => ?_
 refine Goes.cal (kc 8 [13] #[9]) 14 30 8 _ (W.z1i x0 y1 e2  p0 ) ?_
 rintro _ w2 ⟨S2, urx, ury, urz, rfl, z2, p2, us0, us1, rfl⟩
 refine Goes.rn 4 [(12, .tuple #[(ag (.i y1.1.Kind :: U4 y1.1.Set [.slice urx y1.1.L.length urz, .i y1.1.Min, .i y1.1.Max])), .i y1.2.1, .i y1.2.2]), (15, (ag (.i y1.1.Kind :: U4 y1.1.Set [.slice urx y1.1.L.length urz, .i y1.1.Min, .i y1.1.Max]))), (16, .i y1.2.1), (17, .i y1.2.2)] Jsy ?_
 refine Op_.alloc 28 7 0 (.agg #[.i 0, .u 0, .u 0, .u 0, .u 0, .slice none 0 0, .i 0, .i 0]) [.i 0, .u 0, .u 0, .u 0, .u 0, .slice none 0 0, .i 0, .i 0] p2 Goes.v (by kernel_rfl) (by kernel_rfl) ?_
 intro b3 w3 z3 p3
 refine Op_.st 28 (.tmp 7) (.tmp 15) 0 0 b3 0 (ag (.i y1.1.Kind :: U4 y1.1.Set [.slice urx y1.1.L.length urz, .i y1.1.Min, .i y1.1.Max])) (.i y1.1.Kind :: U4 y1.1.Set [.slice urx y1.1.L.length urz, .i y1.1.Min, .i y1.1.Max]) p3 rfl Goes.s (by kernel_rfl) (by kernel_rfl) (by kernel_rfl) (by kernel_rfl) (Nat.zero_le _) (by simp only [List.length_cons, List.length_nil]; omega) (by simp [Value.oneCell']) ?_
 intro w4 z4 p4
 have p4 : Hp nz wz S2 w4 ((some b3, .row 28 (.i y1.1.Kind :: U4 y1.1.Set [.slice urx y1.1.L.length urz, .i y1.1.Min, .i y1.1.Max]) 8 0) :: Lr) := p4
 refine Goes.rn 9 [(8, .i y1.2.1), (9, .i y1.2.2), (18, .i y1.2.2), (19, .bool (!(decide (y1.2.2 = 0))))] Jt0 ?_
 refine ite_some h (fun h5 h => ?_) (fun h5 h => ?_)
 ·
  rw [decide_eq_true h5]
  refine Goes.rn 4 [] Jt2 ?_
  refine Goes.ldN 28 (.tmp 7) 23 28 ⟨b3, 0, none⟩ (.i y1.1.Kind :: U4 y1.1.Set [.slice urx y1.1.L.length urz, .i y1.1.Min, .i y1.1.Max]) (p4.pa 0 0) ?_
  refine bind_some' h fun y6 e7 h => ?_
  refine Goes.cal (kc 22 [23] #[28]) 24 56 22 _ (W.z2t y1.1 y6 e7 urx y1.1.L.length urz p4 us0 (us1.ext (z3.trans z4)) rfl) ?_
  rintro _ w5 ⟨S5, us2, us3, us4, us5, rfl, z5, p5, us6, rfl⟩
  have p5 := p5.dp 1
  refine Goes.rn 12 [(22, .tuple #[.slice (Gp us2) y6.1.length us4, .i y6.2]), (25, .slice (Gp us2) y6.1.length us4), (26, .i y6.2), (10, .slice (Gp us2) y6.1.length us4), (9, .i y6.2), (27, .i y6.2), (28, .bool (!(decide (y6.2 = 0))))] Jt4 ?_
  refine ite_some h (fun h9 h => ?_) (fun h9 h => ?_)
  ·
   rw [decide_eq_true h9]
   refine Goes.rn 6 [(31, .slice (Gp us2) y6.1.length us4), (32, .string x1)] Jt6 ?_
   obtain ⟨S6, z6, p6, f10⟩ := p5.freezeRd 0 rfl us6 (by decide)
   refine bind_some' h fun y11 e12 h => ?_
   refine Goes.cal (kc 13 [31, 32] #[35, 9]) 33 38 13 _ (W.z3q y6.1 x1 y11 e12 (Gp us2) y6.1.length us4 p6 f10 rfl) ?_
   rintro _ w7 ⟨S7, rfl, z7, p7⟩
   have p7 := p7.dp 0
   refine Goes.rn 14 [(30, .tuple #[.bool y11.1, .i y11.2]), (34, .bool y11.1), (35, .i y11.2), (11, .bool y11.1), (9, .i y11.2), (36, .bool y11.1), (37, .i y11.2), (4, .bool y11.1), (5, .i 0), (6, .i y11.2)] Jt7 ?_
   obtain rfl := Option.some.inj h
   exact Goes.rt Try.f16 (.tuple #[.bool y11.1, .i 0, .i y11.2]) ⟨S7, rfl, (((((((Ext.refl S0 w0).trans z2).trans z3).trans z4).trans z5).trans z6).trans z7), p7⟩
  ·
   rw [decide_eq_false h9]
   refine Goes.rn 8 [(29, .i y6.2), (4, .bool false), (5, .i 0), (6, .i y6.2)] Jt8 ?_
   obtain rfl := Option.some.inj h
   have p5 := p5.dp 0
   exact Goes.rt Try.f16 (.tuple #[.bool false, .i 0, .i y6.2]) ⟨S5, rfl, (((((Ext.refl S0 w0).trans z2).trans z3).trans z4).trans z5), p5⟩
 ·
  rw [decide_eq_false h5]
  refine Goes.rn 9 [(20, .i y1.2.1), (21, .i y1.2.2), (4, .bool false), (5, .i y1.2.1), (6, .i y1.2.2)] Jt9 ?_
  obtain rfl := Option.some.inj h
  have p4 := p4.dp 0
  exact Goes.rt Try.f16 (.tuple #[.bool false, .i y1.2.1, .i y1.2.2]) ⟨S2, rfl, ((((Ext.refl S0 w0).trans z2).trans z3).trans z4), p4⟩

def Qn5 := sub [1] B42
def Jta : List Item := [.code Qn5]
def Qn6 := sub [0] B42
def Jtb : List Item := .inRegion (opsOf Qn6) [0, 1, 2, 3] :: Jta
def Qn7 := sub [1, 1] B42
def Jtc : List Item := [.code Qn7]

def Post.z3x (gx0 : Nat) (uab : Option Nat) (uac : Nat) (uad : Nat) (uae : List Value) (ufr : Nat) (ufs : Option Nat) (uft : Nat) (ufu : Nat) (ufv : List Value) (ufw : Option Nat) (ufx : Nat) (ufy : Nat) (ufz : List Value) (ug0 : Nat) (ug1 : Option Nat) (ug2 : Nat) (ug3 : Nat) (ug4 : List Value) (ug5 : Option Nat) (ug6 : Nat) (ug7 : Nat) (ug8 : List Value) (x0v : T96) (r : Int × ByteArray) (v : Value) (w' : World) : Prop :=
 ∃ S' uh ujw us7, v = .func (.func 62) #[] #[(pt uh 0), (pt ujw 0), (pt us7 0)] ∧ Ext S0 w0 S' w' ∧ Hp nz wz S' w' ((some uh, .row 3 [.i r.1] 1 0) :: (some ujw, .row 63 [(pt gx0 0)] 1 0) :: (some us7, .row 9 [.string r.2] 1 0) :: (some gx0, .row 97 [.slice (Gp uab) uac uad, (pt ufr 0), (pt ug0 0)] 3 0) :: (uab, .row 89 uae (uad * kT88.size) 0) :: (some ufr, .row 106 [.slice (Gp ufs) uft ufu, .slice (Gp ufw) ufx ufy] 2 0) :: (ufs, .row 3 ufv (ufu * (kInt .i64).size) 0) :: (ufw, .row 98 ufz (ufy * (kInt .i64).size) 0) :: (some ug0, .row 106 [.slice (Gp ug1) ug2 ug3, .slice (Gp ug5) ug6 ug7] 2 0) :: (ug1, .row 3 ug4 (ug3 * (kInt .i64).size) 0) :: (ug5, .row 98 ug8 (ug7 * (kInt .i64).size) 0) :: Lr)

theorem W.z3x (x0v : T96) (x1 : ByteArray) (x2 : Int) (r : Int × ByteArray) (h : M.sim_Runner_ends x0v x1 x2 = some r) {nz wz S0 w0 Lr} (gx0 uab uac uad uae ufr ufs uft ufu ufv ufw ufx ufy ufz ug0 ug1 ug2 ug3 ug4 ug5 ug6 ug7 ug8) (p0 : Hp nz wz S0 w0 ((some gx0, .row 97 [.slice (Gp uab) uac uad, (pt ufr 0), (pt ug0 0)] 3 0) :: (uab, .row 89 uae (uad * kT88.size) 0) :: (some ufr, .row 106 [.slice (Gp ufs) uft ufu, .slice (Gp ufw) ufx ufy] 2 0) :: (ufs, .row 3 ufv (ufu * (kInt .i64).size) 0) :: (ufw, .row 98 ufz (ufy * (kInt .i64).size) 0) :: (some ug0, .row 106 [.slice (Gp ug1) ug2 ug3, .slice (Gp ug5) ug6 ug7] 2 0) :: (ug1, .row 3 ug4 (ug3 * (kInt .i64).size) 0) :: (ug5, .row 98 ug8 (ug7 * (kInt .i64).size) 0) :: Lr)) (uaf : Els kT88 S0 w0 uae x0v.l) (uag : x0v.l.length = uac) (ug9 : Els (kInt .i64) S0 w0 ufv x0v.now.place) (uga : x0v.now.place.length = uft) (ugb : Els (kInt .i64) S0 w0 ufz x0v.now.list) (ugc : x0v.now.list.length = ufx) (ugd : Els (kInt .i64) S0 w0 ug4 x0v.next.place) (uge : x0v.next.place.length = ug2) (ugf : Els (kInt .i64) S0 w0 ug8 x0v.next.list) (ugg : x0v.next.list.length = ug6) :
  Calls Try.prog 42 #[(pt gx0 0), .string x1, .i x2] w0 (Rets (Post.z3x nz wz S0 w0 Lr gx0 uab uac uad uae ufr ufs uft ufu ufv ufw ufx ufy ufz ug0 ug1 ug2 ug3 ug4 ug5 ug6 ug7 ug8 x0v r)) := by
 subst uag
 subst uga
 subst ugc
 subst uge
 subst ugg
 refine calls_of_goes (fn := Try.f42) (c := B42) (by kernel_rfl) (by kernel_rfl) 5 (by kernel_rfl) ?_
 refine Goes.jp 8 [(0, (pt gx0 0)), (1, .string x1), (2, .i x2)] (fun junk => ?_)
 delta M.sim_Runner_ends at h
 refine Goes.rn 2 [] Jtb ?_
 refine Op_.box 63 (.tmp 0) 3 0 ((pt gx0 0)) [(pt gx0 0)] p0 Goes.v (by kernel_rfl) (by kernel_rfl) ?_
 intro b9 w2 z2 p2
 refine Op_.box 9 (.tmp 1) 4 0 (.string x1) [.string x1] p2 Goes.v (by kernel_rfl) (by kernel_rfl) ?_
 intro b11 w3 z3 p3
 refine Op_.box 3 (.tmp 2) 5 0 (.i x2) [.i x2] p3 Goes.v (by kernel_rfl) (by kernel_rfl) ?_
 intro b13 w4 z4 p4
 refine Goes.rn 7 [(6, .func (.func 62) #[] #[(pt b13 0), (pt b9 0), (pt b11 0)]), (7, .func (.func 62) #[] #[(pt b13 0), (pt b9 0), (pt b11 0)])] Jtc ?_
 obtain rfl := Option.some.inj h
 have p4 := ((((((((((p4.fr 10).fr 10).fr 10).fr 10).fr 10).fr 10).fr 10).fr 10).fr 9).fr 10).fr 10
 exact Goes.rt Try.f42 (.func (.func 62) #[] #[(pt b13 0), (pt b9 0), (pt b11 0)]) ⟨S0, b13, b9, b11, rfl, ((((Ext.refl S0 w0).trans z2).trans z3).trans z4), p4⟩

def Qn8 := sub [1, 0, 1, 0, 1, 0] B61
def Jtd : List Item := .inRegion (opsOf Qn8) [0, 1, 2, 3, 4] :: J7c
def Jte : List Item := .inRegion (opsOf Qn8) [2, 3, 4] :: J7c
def Qn9 := sub [1, 0, 1, 0] B61
def Qna := sub [1, 0, 1, 0, 1] B61

def Post.z3y (lk : Nat) (rk : Nat) (jkk : Nat → Value) (u46 : Nat) (us8 : Nat) (us9 : Nat) (usa : Nat) (usb : Option Nat) (usc : Nat) (usd : Nat) (use : List Value) (usf : Nat) (usg : Option Nat) (ush : Nat) (usi : Nat) (usj : List Value) (usk : Option Nat) (usl : Nat) (usm : Nat) (usn : List Value) (uso : Nat) (usp : Option Nat) (usq : Nat) (usr : Nat) (uss : List Value) (ust : Option Nat) (usu : Nat) (usv : Nat) (usw : List Value) (usx : Nat) (usy : Int) (usz : T96) (ut0 : ByteArray) (r : List Int) (v : Value) (w' : World) : Prop :=
 ∃ S' ugs ugt ugu ugv, v = .bool true ∧ Ext S0 w0 S' w' ∧ Hp nz wz S' w' ((some lk, .obj (lpst 61 (lfr 13 [(2, (pt u46 0)), (6, .func (.func 62) #[] #[(pt us8 0), (pt us9 0), (pt usx 0)])] jkk) #[7] (rfAssign (Qn9)) (rfBody (Qn9)) rk .ready none)) :: (some u46, .row 58 [.slice (Gp ugs) ugt ugu] 1 0) :: (ugs, .row 3 ugv (ugu * (kInt .i64).size) 0) :: (some us8, .row 3 [.i usy] 1 0) :: (some us9, .row 63 [(pt usa 0)] 1 0) :: (some usa, .row 97 [.slice (Gp usb) usc usd, (pt usf 0), (pt uso 0)] 3 0) :: (usb, .row 89 use (usd * kT88.size) 0) :: (some usf, .row 106 [.slice (Gp usg) ush usi, .slice (Gp usk) usl usm] 2 0) :: (usg, .row 3 usj (usi * (kInt .i64).size) 0) :: (usk, .row 98 usn (usm * (kInt .i64).size) 0) :: (some uso, .row 106 [.slice (Gp usp) usq usr, .slice (Gp ust) usu usv] 2 0) :: (usp, .row 3 uss (usr * (kInt .i64).size) 0) :: (ust, .row 98 usw (usv * (kInt .i64).size) 0) :: (some usx, .row 9 [.string ut0] 1 0) :: Lr) ∧ Els (kInt .i64) S' w' ugv r ∧ r.length = ugt

theorem W.z3y (ut1 : List Int) (usy : Int) (usz : T96) (ut0 : ByteArray) (a0 : Int) (r : List Int) (h : M.slices_AppendSeq_int_int__r_2 ut1 usy usz ut0 a0 = some r) {nz wz S0 w0 Lr} (lk rk jkk u46 ut2 ut3 ut4 ut5 us8 us9 usa usb usc usd use usf usg ush usi usj usk usl usm usn uso usp usq usr uss ust usu usv usw usx) (p0 : Hp nz wz S0 w0 ((some lk, .obj (lpst 61 (lfr 13 [(2, (pt u46 0)), (6, .func (.func 62) #[] #[(pt us8 0), (pt us9 0), (pt usx 0)])] jkk) #[7] (rfAssign (Qn9)) (rfBody (Qn9)) rk .ready none)) :: (some u46, .row 58 [.slice (Gp ut2) ut3 ut4] 1 0) :: (ut2, .row 3 ut5 (ut4 * (kInt .i64).size) 0) :: (some us8, .row 3 [.i usy] 1 0) :: (some us9, .row 63 [(pt usa 0)] 1 0) :: (some usa, .row 97 [.slice (Gp usb) usc usd, (pt usf 0), (pt uso 0)] 3 0) :: (usb, .row 89 use (usd * kT88.size) 0) :: (some usf, .row 106 [.slice (Gp usg) ush usi, .slice (Gp usk) usl usm] 2 0) :: (usg, .row 3 usj (usi * (kInt .i64).size) 0) :: (usk, .row 98 usn (usm * (kInt .i64).size) 0) :: (some uso, .row 106 [.slice (Gp usp) usq usr, .slice (Gp ust) usu usv] 2 0) :: (usp, .row 3 uss (usr * (kInt .i64).size) 0) :: (ust, .row 98 usw (usv * (kInt .i64).size) 0) :: (some usx, .row 9 [.string ut0] 1 0) :: Lr)) (ut6 : Els (kInt .i64) S0 w0 ut5 ut1) (ut7 : ut1.length = ut3) (ut8 : Els kT88 S0 w0 use usz.l) (ut9 : usz.l.length = usc) (uta : Els (kInt .i64) S0 w0 usj usz.now.place) (utb : usz.now.place.length = ush) (utc : Els (kInt .i64) S0 w0 usn usz.now.list) (utd : usz.now.list.length = usl) (ute : Els (kInt .i64) S0 w0 uss usz.next.place) (utf : usz.next.place.length = usq) (utg : Els (kInt .i64) S0 w0 usw usz.next.list) (uth : usz.next.list.length = usu) :
  Goes Try.prog (rbase 61 lk) [.code (rfAssign (Qn9)), .beginRound, .code (rfBody (Qn9))] ⟨setp (lfr 13 [(2, (pt u46 0)), (6, .func (.func 62) #[] #[(pt us8 0), (pt us9 0), (pt usx 0)])] jkk) #[7] #[.i a0], []⟩ w0 (DoneR (Post.z3y nz wz S0 w0 Lr lk rk jkk u46 us8 us9 usa usb usc usd use usf usg ush usi usj usk usl usm usn uso usp usq usr uss ust usu usv usw usx usy usz ut0 r)) := by
 subst ut7
 subst ut9
 subst utb
 subst utd
 subst utf
 subst uth
 refine Goes.jp 13 [(2, (pt u46 0)), (6, .func (.func 62) #[] #[(pt us8 0), (pt us9 0), (pt usx 0)]), (7, .i a0)] (fun junk => ?_)
 delta M.slices_AppendSeq_int_int__r_2 at h
 refine Goes.rn 3 [(5, .i a0)] [.beginRound, .code (Qna)] ?_
 refine Goes.beginR 0 rfl p0 rfl ?_
 intro w2 z2 p2
 refine Goes.rn 2 [] Jtd ?_
 refine Goes.ld 58 (.tmp 2) 8 58 ⟨u46, 0, none⟩ (.slice (Gp ut2) ut1.length ut4) (p2.c 1 0) ?_
 refine Goes.rn 1 [(9, .i a0)] Jte ?_
 have f16 : Els (kInt .i64) S0 w2 ([.i a0] : List Value) [a0] := by exact (Els.cons (K := (kInt .i64)) (vs := [.i a0]) (x := a0) rfl Els.nil)
 refine Op_.made (.buildSlice 58 1 #[(0, (.tmp 9))]) 10 58 (fun b => .slice (Gp (some b)) 1 1) 3 ([.i a0] : List Value) p2 Goes.v (by kernel_rfl) ?_
 intro b15 w3 z3 p3
 have p3 : Hp nz wz S0 w3 (((some b15), .row 3 ([.i a0] : List Value) (1 * (kInt .i64).size) 0) :: (some lk, .obj (lpst 61 (lfr 13 [(2, (pt u46 0)), (6, .func (.func 62) #[] #[(pt us8 0), (pt us9 0), (pt usx 0)])] jkk) #[7] (rfAssign (Qn9)) (rfBody (Qn9)) rk .busy none)) :: (some u46, .row 58 [.slice (Gp ut2) ut1.length ut4] 1 0) :: (ut2, .row 3 ut5 (ut4 * (kInt .i64).size) 0) :: (some us8, .row 3 [.i usy] 1 0) :: (some us9, .row 63 [(pt usa 0)] 1 0) :: (some usa, .row 97 [.slice (Gp usb) usz.l.length usd, (pt usf 0), (pt uso 0)] 3 0) :: (usb, .row 89 use (usd * kT88.size) 0) :: (some usf, .row 106 [.slice (Gp usg) usz.now.place.length usi, .slice (Gp usk) usz.now.list.length usm] 2 0) :: (usg, .row 3 usj (usi * (kInt .i64).size) 0) :: (usk, .row 98 usn (usm * (kInt .i64).size) 0) :: (some uso, .row 106 [.slice (Gp usp) usz.next.place.length usr, .slice (Gp ust) usz.next.list.length usv] 2 0) :: (usp, .row 3 uss (usr * (kInt .i64).size) 0) :: (ust, .row 98 usw (usv * (kInt .i64).size) 0) :: (some usx, .row 9 [.string ut0] 1 0) :: Lr) := p3
 refine guard_some' h fun g21 h => ?_
 refine Op_.ap_n (K := (kInt .i64)) 58 (.tmp 8) (.tmp 10) 11 58 3 3 (.i 0) 8 ut1.length ut4 1 ut1 [a0] (ut1 ++ [a0]) (Gp (some b15)) 1 rfl rfl rfl p3 rfl (ut6.ext (z2.trans z3)) Goes.v (by kernel_rfl) (by kernel_rfl) (by kernel_rfl) (by kernel_rfl) rfl (by decide) (f16.ext z3) (src_own p3 (q := 0) rfl) (by have := g21; omega) (by have := g21; omega) ?_
 intro w4 G22 c23 uti z4 p4 f25
 refine Op_.st 58 (.tmp 2) (.tmp 11) 0 2 u46 0 (.slice (Gp G22) ((ut1 ++ [a0]).length) c23) [.slice (Gp G22) ((ut1 ++ [a0]).length) c23] p4 rfl Goes.s (by kernel_rfl) (by kernel_rfl) (by kernel_rfl) (by kernel_rfl) (Nat.zero_le _) (by simp only [List.length_cons, List.length_nil]; omega) (by simp [Value.oneCell']) ?_
 intro w5 z5 p5
 have p5 : Hp nz wz S0 w5 (((some b15), .row 3 ([.i a0] : List Value) (1 * (kInt .i64).size) 0) :: (some lk, .obj (lpst 61 (lfr 13 [(2, (pt u46 0)), (6, .func (.func 62) #[] #[(pt us8 0), (pt us9 0), (pt usx 0)])] jkk) #[7] (rfAssign (Qn9)) (rfBody (Qn9)) rk .busy none)) :: (some u46, .row 58 [.slice (Gp G22) ((ut1 ++ [a0]).length) c23] 1 0) :: (G22, .row 3 uti (c23 * (kInt .i64).size) 0) :: (some us8, .row 3 [.i usy] 1 0) :: (some us9, .row 63 [(pt usa 0)] 1 0) :: (some usa, .row 97 [.slice (Gp usb) usz.l.length usd, (pt usf 0), (pt uso 0)] 3 0) :: (usb, .row 89 use (usd * kT88.size) 0) :: (some usf, .row 106 [.slice (Gp usg) usz.now.place.length usi, .slice (Gp usk) usz.now.list.length usm] 2 0) :: (usg, .row 3 usj (usi * (kInt .i64).size) 0) :: (usk, .row 98 usn (usm * (kInt .i64).size) 0) :: (some uso, .row 106 [.slice (Gp usp) usz.next.place.length usr, .slice (Gp ust) usz.next.list.length usv] 2 0) :: (usp, .row 3 uss (usr * (kInt .i64).size) 0) :: (ust, .row 98 usw (usv * (kInt .i64).size) 0) :: (some usx, .row 9 [.string ut0] 1 0) :: Lr) := p5
 refine Goes.rn 2 [] [] ?_
 have p5 := p5.dp 0
 obtain rfl := Option.some.inj h
 refine Goes.endR 0 p5 rfl ?_
 intro w6 z6 p6
 exact ⟨S0, G22, (ut1 ++ [a0]).length, c23, uti, rfl, ((((((Ext.refl S0 w0).trans z2).trans z3).trans z4).trans z5).trans z6), p6, (f25.ext (z5.trans z6)), rfl⟩

def Qnb := sub [1, 0, 0] B62
def Jtf : List Item := .inLoop Qnb :: J7e
def Jtg : List Item := .code Qnb :: Jtf
def Qnc := sub [1, 0, 0, 1] B62
def Jth : List Item := .code Qnc :: Jtf
def Jti : List Item := .inBlock 1 :: Jth
def Qnd := sub [1, 0, 0, 0, 0, 1] B62
def Jtj : List Item := .code Qnd :: Jti
def Qne := sub [1, 0, 0, 0, 0, 0, 1] B62
def Jtk : List Item := .code Qne :: Jtj
def Qnf := sub [1, 0, 0, 0, 0, 1, 1] B62
def Jtl : List Item := .code Qnf :: Jti
def Qng := sub [1, 0, 0, 0, 0, 0, 0] B62
def Jtm : List Item := .inRegion (opsOf Qng) [0, 1, 2, 3, 4, 5, 6, 7] :: Jtk
def Jtn : List Item := .inRegion (opsOf Qng) [3, 4, 5, 6, 7] :: Jtk
def Jto : List Item := .inRegion (opsOf Qng) [5, 6, 7] :: Jtk
def Qnh := sub [1, 0, 0, 0, 0, 0, 1, 0] B62
def Jtp : List Item := .code Qnh :: Jtj
def Qni := sub [1, 0, 0, 0, 0, 1, 0] B62
def Jtq : List Item := .code Qni :: Jtl
def Qnj := sub [1, 0, 0, 0, 0, 1, 1, 0] B62
def Jtr : List Item := .code Qnj :: Jti

def Post.z3z (lx0 : Nat) (rx0 : Nat) (u4q : Nat → Value) (u4r : Nat) (utj : Nat) (utk : Nat) (utl : Nat) (utm : Nat) (utn : Int) (uto : ByteArray) (r : (List Int) × T96) (v : Value) (w' : World) : Prop :=
 ∃ S' ugs ugt ugu ugv uku ukv ukw ukx utp utq utr uts utt utu utv utw utx uty utz uu0 uu1 uu2 uu3 uu4 uu5 uu6, v = .tuple #[] ∧ Ext S0 w0 S' w' ∧ Hp nz wz S' w' ((some lx0, .obj (lpst 61 (lfr 13 [(2, (pt u4r 0)), (6, .func (.func 62) #[] #[(pt utj 0), (pt utk 0), (pt utm 0)])] u4q) #[7] (rfAssign (Qn9)) (rfBody (Qn9)) rx0 .ready none)) :: (some u4r, .row 58 [.slice (Gp ugs) ugt ugu] 1 0) :: (ugs, .row 3 ugv (ugu * (kInt .i64).size) 0) :: (some utj, .row 3 [.i utn] 1 0) :: (some utk, .row 63 [(pt utl 0)] 1 0) :: (some utl, .row 97 [.slice (Gp uku) ukv ukw, (pt utp 0), (pt uty 0)] 3 0) :: (uku, .row 89 ukx (ukw * kT88.size) 0) :: (some utp, .row 106 [.slice (Gp utq) utr uts, .slice (Gp utu) utv utw] 2 0) :: (utq, .row 3 utt (uts * (kInt .i64).size) 0) :: (utu, .row 98 utx (utw * (kInt .i64).size) 0) :: (some uty, .row 106 [.slice (Gp utz) uu0 uu1, .slice (Gp uu3) uu4 uu5] 2 0) :: (utz, .row 3 uu2 (uu1 * (kInt .i64).size) 0) :: (uu3, .row 98 uu6 (uu5 * (kInt .i64).size) 0) :: (some utm, .row 9 [.string uto] 1 0) :: Lr) ∧ Els (kInt .i64) S' w' ugv r.1 ∧ r.1.length = ugt ∧ Els kT88 S' w' ukx r.2.l ∧ r.2.l.length = ukv ∧ Els (kInt .i64) S' w' utt r.2.now.place ∧ r.2.now.place.length = utr ∧ Els (kInt .i64) S' w' utx r.2.now.list ∧ r.2.now.list.length = utv ∧ Els (kInt .i64) S' w' uu2 r.2.next.place ∧ r.2.next.place.length = uu0 ∧ Els (kInt .i64) S' w' uu6 r.2.next.list ∧ r.2.next.list.length = uu4

def L.z40 (lx0 : Nat) (rx0 : Nat) (u4q : Nat → Value) (u4r : Nat) (utj : Nat) (utk : Nat) (utl : Nat) (utm : Nat) : Int × (List Int) × T96 × Int × ByteArray → ((List Int) × T96) → Prop := fun ⟨x5, uu7, e4v, utn, uto⟩ r => ∀ S1 w1, Ext S0 w0 S1 w1 → ∀ ugs ugt ugu ugv uku ukv ukw ukx utp utq utr uts utt utu utv utw utx uty utz uu0 uu1 uu2 uu3 uu4 uu5 uu6 (_ : Hp nz wz S1 w1 ((some lx0, .obj (lpst 61 (lfr 13 [(2, (pt u4r 0)), (6, .func (.func 62) #[] #[(pt utj 0), (pt utk 0), (pt utm 0)])] u4q) #[7] (rfAssign (Qn9)) (rfBody (Qn9)) rx0 .ready none)) :: (some u4r, .row 58 [.slice (Gp ugs) ugt ugu] 1 0) :: (ugs, .row 3 ugv (ugu * (kInt .i64).size) 0) :: (some utj, .row 3 [.i utn] 1 0) :: (some utk, .row 63 [(pt utl 0)] 1 0) :: (some utl, .row 97 [.slice (Gp uku) ukv ukw, (pt utp 0), (pt uty 0)] 3 0) :: (uku, .row 89 ukx (ukw * kT88.size) 0) :: (some utp, .row 106 [.slice (Gp utq) utr uts, .slice (Gp utu) utv utw] 2 0) :: (utq, .row 3 utt (uts * (kInt .i64).size) 0) :: (utu, .row 98 utx (utw * (kInt .i64).size) 0) :: (some uty, .row 106 [.slice (Gp utz) uu0 uu1, .slice (Gp uu3) uu4 uu5] 2 0) :: (utz, .row 3 uu2 (uu1 * (kInt .i64).size) 0) :: (uu3, .row 98 uu6 (uu5 * (kInt .i64).size) 0) :: (some utm, .row 9 [.string uto] 1 0) :: Lr)) (_ : Els (kInt .i64) S1 w1 ugv uu7) (_ : uu7.length = ugt) (_ : Els kT88 S1 w1 ukx e4v.l) (_ : e4v.l.length = ukv) (_ : Els (kInt .i64) S1 w1 utt e4v.now.place) (_ : e4v.now.place.length = utr) (_ : Els (kInt .i64) S1 w1 utx e4v.now.list) (_ : e4v.now.list.length = utv) (_ : Els (kInt .i64) S1 w1 uu2 e4v.next.place) (_ : e4v.next.place.length = uu0) (_ : Els (kInt .i64) S1 w1 uu6 e4v.next.list) (_ : e4v.next.list.length = uu4) (junk : Nat → Value),
 Goes Try.prog (base 62) Jtg ⟨lfr 29 [(0, yieldV lx0), (2, (pt utk 0)), (3, (pt utm 0)), (5, .i x5)] junk, []⟩ w1 (Done Try.prog 62 (Rets (Post.z3z nz wz S0 w0 Lr lx0 rx0 u4q u4r utj utk utl utm utn uto r)))

def L.z41 (lx0 : Nat) (rx0 : Nat) (u4q : Nat → Value) (u4r : Nat) (utj : Nat) (utk : Nat) (utl : Nat) (utm : Nat) : Int × Bool × (List Int) × T96 × Int × ByteArray → ((List Int) × T96) → Prop := fun ⟨x5, x16, uu7, e4v, utn, uto⟩ r => ∀ S1 w1, Ext S0 w0 S1 w1 → ∀ ugs ugt ugu ugv uku ukv ukw ukx utp utq utr uts utt utu utv utw utx uty utz uu0 uu1 uu2 uu3 uu4 uu5 uu6 (_ : Hp nz wz S1 w1 ((some lx0, .obj (lpst 61 (lfr 13 [(2, (pt u4r 0)), (6, .func (.func 62) #[] #[(pt utj 0), (pt utk 0), (pt utm 0)])] u4q) #[7] (rfAssign (Qn9)) (rfBody (Qn9)) rx0 .ready none)) :: (some u4r, .row 58 [.slice (Gp ugs) ugt ugu] 1 0) :: (ugs, .row 3 ugv (ugu * (kInt .i64).size) 0) :: (some utj, .row 3 [.i utn] 1 0) :: (some utk, .row 63 [(pt utl 0)] 1 0) :: (some utl, .row 97 [.slice (Gp uku) ukv ukw, (pt utp 0), (pt uty 0)] 3 0) :: (uku, .row 89 ukx (ukw * kT88.size) 0) :: (some utp, .row 106 [.slice (Gp utq) utr uts, .slice (Gp utu) utv utw] 2 0) :: (utq, .row 3 utt (uts * (kInt .i64).size) 0) :: (utu, .row 98 utx (utw * (kInt .i64).size) 0) :: (some uty, .row 106 [.slice (Gp utz) uu0 uu1, .slice (Gp uu3) uu4 uu5] 2 0) :: (utz, .row 3 uu2 (uu1 * (kInt .i64).size) 0) :: (uu3, .row 98 uu6 (uu5 * (kInt .i64).size) 0) :: (some utm, .row 9 [.string uto] 1 0) :: Lr)) (_ : Els (kInt .i64) S1 w1 ugv uu7) (_ : uu7.length = ugt) (_ : Els kT88 S1 w1 ukx e4v.l) (_ : e4v.l.length = ukv) (_ : Els (kInt .i64) S1 w1 utt e4v.now.place) (_ : e4v.now.place.length = utr) (_ : Els (kInt .i64) S1 w1 utx e4v.now.list) (_ : e4v.now.list.length = utv) (_ : Els (kInt .i64) S1 w1 uu2 e4v.next.place) (_ : e4v.next.place.length = uu0) (_ : Els (kInt .i64) S1 w1 uu6 e4v.next.list) (_ : e4v.next.list.length = uu4) (junk : Nat → Value),
 Goes Try.prog (base 62) Jtk ⟨lfr 29 [(0, yieldV lx0), (2, (pt utk 0)), (3, (pt utm 0)), (5, .i x5), (16, .bool x16)] junk, []⟩ w1 (Done Try.prog 62 (Rets (Post.z3z nz wz S0 w0 Lr lx0 rx0 u4q u4r utj utk utl utm utn uto r)))

def L.z42 (lx0 : Nat) (rx0 : Nat) (u4q : Nat → Value) (u4r : Nat) (utj : Nat) (utk : Nat) (utl : Nat) (utm : Nat) : Int × Bool × (List Int) × T96 × Int × ByteArray → ((List Int) × T96) → Prop := fun ⟨x5, x28, uu7, e4v, utn, uto⟩ r => ∀ S1 w1, Ext S0 w0 S1 w1 → ∀ ugs ugt ugu ugv uku ukv ukw ukx utp utq utr uts utt utu utv utw utx uty utz uu0 uu1 uu2 uu3 uu4 uu5 uu6 (_ : Hp nz wz S1 w1 ((some lx0, .obj (lpst 61 (lfr 13 [(2, (pt u4r 0)), (6, .func (.func 62) #[] #[(pt utj 0), (pt utk 0), (pt utm 0)])] u4q) #[7] (rfAssign (Qn9)) (rfBody (Qn9)) rx0 .ready none)) :: (some u4r, .row 58 [.slice (Gp ugs) ugt ugu] 1 0) :: (ugs, .row 3 ugv (ugu * (kInt .i64).size) 0) :: (some utj, .row 3 [.i utn] 1 0) :: (some utk, .row 63 [(pt utl 0)] 1 0) :: (some utl, .row 97 [.slice (Gp uku) ukv ukw, (pt utp 0), (pt uty 0)] 3 0) :: (uku, .row 89 ukx (ukw * kT88.size) 0) :: (some utp, .row 106 [.slice (Gp utq) utr uts, .slice (Gp utu) utv utw] 2 0) :: (utq, .row 3 utt (uts * (kInt .i64).size) 0) :: (utu, .row 98 utx (utw * (kInt .i64).size) 0) :: (some uty, .row 106 [.slice (Gp utz) uu0 uu1, .slice (Gp uu3) uu4 uu5] 2 0) :: (utz, .row 3 uu2 (uu1 * (kInt .i64).size) 0) :: (uu3, .row 98 uu6 (uu5 * (kInt .i64).size) 0) :: (some utm, .row 9 [.string uto] 1 0) :: Lr)) (_ : Els (kInt .i64) S1 w1 ugv uu7) (_ : uu7.length = ugt) (_ : Els kT88 S1 w1 ukx e4v.l) (_ : e4v.l.length = ukv) (_ : Els (kInt .i64) S1 w1 utt e4v.now.place) (_ : e4v.now.place.length = utr) (_ : Els (kInt .i64) S1 w1 utx e4v.now.list) (_ : e4v.now.list.length = utv) (_ : Els (kInt .i64) S1 w1 uu2 e4v.next.place) (_ : e4v.next.place.length = uu0) (_ : Els (kInt .i64) S1 w1 uu6 e4v.next.list) (_ : e4v.next.list.length = uu4) (junk : Nat → Value),
 Goes Try.prog (base 62) Jtl ⟨lfr 29 [(0, yieldV lx0), (2, (pt utk 0)), (3, (pt utm 0)), (5, .i x5), (28, .bool x28)] junk, []⟩ w1 (Done Try.prog 62 (Rets (Post.z3z nz wz S0 w0 Lr lx0 rx0 u4q u4r utj utk utl utm utn uto r)))

theorem W.z43 {nz wz S0 w0 Lr} (lx0 : Nat) (rx0 : Nat) (u4q : Nat → Value) (u4r : Nat) (utj : Nat) (utk : Nat) (utl : Nat) (utm : Nat) : (∀ a r, M.sim_Runner_ends_1_2_l0 a = some r → (L.z40 nz wz S0 w0 Lr lx0 rx0 u4q u4r utj utk utl utm) a r) ∧ (∀ a r, M.sim_Runner_ends_1_2_l1 a = some r → (L.z41 nz wz S0 w0 Lr lx0 rx0 u4q u4r utj utk utl utm) a r) ∧ (∀ a r, M.sim_Runner_ends_1_2_l2 a = some r → (L.z42 nz wz S0 w0 Lr lx0 rx0 u4q u4r utj utk utl utm) a r) := by
 refine M.sim_Runner_ends_1_2_l0.mutual_partial_correctness (L.z40 nz wz S0 w0 Lr lx0 rx0 u4q u4r utj utk utl utm) (L.z41 nz wz S0 w0 Lr lx0 rx0 u4q u4r utj utk utl utm) (L.z42 nz wz S0 w0 Lr lx0 rx0 u4q u4r utj utk utl utm) ?_ ?_ ?_
 ·
  intro uu8 uu9 ⟨x5, uu7, e4v, utn, uto⟩ r h S1 w1 hx ugs ugt ugu ugv uku ukv ukw ukx utp utq utr uts utt utu utv utw utx uty utz uu0 uu1 uu2 uu3 uu4 uu5 uu6 p1 uh2 uh3 umf umg uua uub uuc uud uue uuf uug uuh junk
  try dsimp only at h
  subst uh3
  subst umg
  subst uub
  subst uud
  subst uuf
  subst uuh
  refine Goes.rn 5 [] Jtm ?_
  refine Goes.ld 63 (.tmp 2) 9 63 ⟨utk, 0, none⟩ ((pt utl 0)) (p1.c 4 0) ?_
  have p1 := (((((((p1.fr 12).fr 12).fr 12).fr 12).fr 12).fr 12).fr 12).fr 12
  refine bind_some' h fun y23 e24 h => ?_
  refine Goes.cal (kc 28 [9] #[63]) 10 4 28 _ (W.z3p e4v y23 e24 utl uku e4v.l.length ukw ukx utp utq e4v.now.place.length uts utt utu e4v.now.list.length utw utx uty utz e4v.next.place.length uu1 uu2 uu3 e4v.next.list.length uu5 uu6 p1 umf rfl uua rfl uuc rfl uue rfl uug rfl) ?_
  rintro _ w2 ⟨S2, rfl, z2, p2⟩
  refine Goes.rn 1 [(11, .bool y23)] Jtn ?_
  refine ite_some h (fun h25 h => ?_) (fun h25 h => ?_)
  ·
   rw [h25]
   refine Goes.rn 2 [(12, yieldV lx0), (13, .i x5)] Jto ?_
   have p2 := (((((((((((((p2.fr 13).fr 8).fr 8).fr 8).fr 8).fr 8).fr 8).fr 8).fr 8).fr 13).fr 13).fr 13).fr 13).fr 13
   refine bind_some' h fun y26 e27 h => ?_
   refine Goes.yieldAt (.call { callee := .value (.tmp 12), args := #[(.tmp 13)], argTypes := #[3] }) 14 4 0 lx0 #[.i x5] p2 rfl (by kernel_rfl) rfl (fun _ => by kernel_rfl) rfl (W.z3y uu7 utn e4v uto x5 y26 e27 lx0 rx0 u4q u4r ugs uu7.length ugu ugv utj utk utl uku e4v.l.length ukw ukx utp utq e4v.now.place.length uts utt utu e4v.now.list.length utw utx uty utz e4v.next.place.length uu1 uu2 uu3 e4v.next.list.length uu5 uu6 utm p2 (uh2.ext z2) rfl (umf.ext z2) rfl (uua.ext z2) rfl (uuc.ext z2) rfl (uue.ext z2) rfl (uug.ext z2) rfl) ?_
   rintro _ w3 ⟨S3, uui, uuj, uuk, uul, rfl, z3, p3, uum, rfl⟩
   refine Goes.rn 3 [(15, .bool (!true)), (16, .bool (!true))] Jtk ?_
   exact Goes.jp 29 [(0, yieldV lx0), (2, (pt utk 0)), (3, (pt utm 0)), (5, .i x5), (16, .bool (!true))] (uu9 _ _ h _ _ ((hx.trans z2).trans z3) uui y26.length uuk uul uku e4v.l.length ukw ukx utp utq e4v.now.place.length uts utt utu e4v.now.list.length utw utx uty utz e4v.next.place.length uu1 uu2 uu3 e4v.next.list.length uu5 uu6 p3 uum rfl (umf.ext (z2.trans z3)) rfl (uua.ext (z2.trans z3)) rfl (uuc.ext (z2.trans z3)) rfl (uue.ext (z2.trans z3)) rfl (uug.ext (z2.trans z3)) rfl)
  ·
   have u7e : y23 = false := by simpa using h25
   rw [u7e]
   refine Goes.rn 6 [(12, undef), (13, undef), (14, undef), (15, undef), (16, .bool false)] Jtk ?_
   have p2 := (((((((((((((p2.fr 13).fr 8).fr 8).fr 8).fr 8).fr 8).fr 8).fr 8).fr 8).fr 13).fr 13).fr 13).fr 13).fr 13
   exact Goes.jp 29 [(0, yieldV lx0), (2, (pt utk 0)), (3, (pt utm 0)), (5, .i x5), (16, .bool false)] (uu9 _ _ h _ _ (hx.trans z2) ugs uu7.length ugu ugv uku e4v.l.length ukw ukx utp utq e4v.now.place.length uts utt utu e4v.now.list.length utw utx uty utz e4v.next.place.length uu1 uu2 uu3 e4v.next.list.length uu5 uu6 p2 (uh2.ext z2) rfl (umf.ext z2) rfl (uua.ext z2) rfl (uuc.ext z2) rfl (uue.ext z2) rfl (uug.ext z2) rfl)
 ·
  intro uun uuo ⟨x5, x16, uu7, e4v, utn, uto⟩ r h S1 w1 hx ugs ugt ugu ugv uku ukv ukw ukx utp utq utr uts utt utu utv utw utx uty utz uu0 uu1 uu2 uu3 uu4 uu5 uu6 p1 uh2 uh3 umf umg uua uub uuc uud uue uuf uug uuh junk
  try dsimp only at h
  subst uh3
  subst umg
  subst uub
  subst uud
  subst uuf
  subst uuh
  refine ite_some h (fun h37 h => ?_) (fun h37 h => ?_)
  ·
   rw [h37]
   refine Goes.rn 1 [] Jtp ?_
   obtain rfl := Option.some.inj h
   exact Goes.rt Try.f62 (.tuple #[]) ⟨S1, ugs, uu7.length, ugu, ugv, uku, e4v.l.length, ukw, ukx, utp, utq, e4v.now.place.length, uts, utt, utu, e4v.now.list.length, utw, utx, uty, utz, e4v.next.place.length, uu1, uu2, uu3, e4v.next.list.length, uu5, uu6, rfl, hx, p1, uh2, rfl, umf, rfl, uua, rfl, uuc, rfl, uue, rfl, uug, rfl⟩
  ·
   have uup : x16 = false := by simpa using h37
   rw [uup]
   refine Goes.rn 3 [] Jtq ?_
   have z4 : Ext S1 w1 S1 (w1).drew := Ext.draw
   have p4 := p1.draw
   refine Goes.drawn (s := [9]) (F := Fc S1 (w1).drew [(⟨utm, 0, none⟩, .string uto), (⟨utk, 0, none⟩, (pt utl 0))]) 3 12 (by kernel_rfl) (by kernel_rfl) (by kernel_rfl) (by kernel_rfl) ?_
   generalize (w1).drew = w4 at z4 p4 ⊢
   refine AnyG.pu 0 (.move (.tmp 5)) 17 3 (.i x5) (Fc.here (p4.cs [(13, 0, 1), (4, 0, 1)])) ?_
   refine AnyG.ld1 (i := 1) 9 (.tmp 3) 18 9 ⟨utm, 0, none⟩ (.string uto) (by kernel_rfl) (by kernel_rfl) (Fc.here (p4.cs [(13, 0, 1), (4, 0, 1)])) (by kernel_rfl) (by kernel_rfl) (fun _ h => h.2.at_ 0 rfl) ?_
   refine AnyG.pu 2 (.call { callee := .builtin .len, args := #[(.tmp 18)], argTypes := #[9] }) 19 3 (.i (uto.size : Int)) (Fc.here (p4.cs [(13, 0, 1), (4, 0, 1)])) ?_
   refine AnyG.pu 3 (.binOp .eql 3 (.tmp 17) (.tmp 19) 3) 20 4 (.bool (decide (x5 = (uto.size : Int)))) (Fc.here (p4.cs [(13, 0, 1), (4, 0, 1)])) ?_
   refine AnyG.pu 4 (.move (.tmp 20)) 21 4 (.bool (decide (x5 = (uto.size : Int)))) (Fc.here (p4.cs [(13, 0, 1), (4, 0, 1)])) ?_
   refine ite_some h (fun h38 h => ?_) (fun h38 h => ?_)
   ·
    rw [decide_eq_true h38]
    refine AnyG.s1 5 22 (Fc.here (p4.cs [(13, 0, 1), (4, 0, 1)])) ?_
    refine AnyG.s1 6 23 (Fc.here (p4.cs [(13, 0, 1), (4, 0, 1)])) ?_
    refine AnyG.s1 7 24 (Fc.here (p4.cs [(13, 0, 1), (4, 0, 1)])) ?_
    refine AnyG.s1 8 25 (Fc.here (p4.cs [(13, 0, 1), (4, 0, 1)])) ?_
    refine AnyG.skipL1 (i := 9) 26 (by kernel_rfl) (by kernel_rfl) (.inl (by decide)) ?_
    refine AnyG.s1 10 27 (Fc.here (p4.cs [(13, 0, 1), (4, 0, 1)])) ?_
    refine AnyG.pu 11 (.pick (.tmp 21) (.const (.bool true)) (.tmp 27)) 28 4 (.bool true) (Fc.here (p4.cs [(13, 0, 1), (4, 0, 1)])) ?_
    refine AnyG.done (by kernel_rfl) ?_ _
    exact Goes.jp 29 [(0, yieldV lx0), (2, (pt utk 0)), (3, (pt utm 0)), (5, .i x5), (28, .bool true)] (uuo _ _ h _ _ (hx.trans z4) ugs uu7.length ugu ugv uku e4v.l.length ukw ukx utp utq e4v.now.place.length uts utt utu e4v.now.list.length utw utx uty utz e4v.next.place.length uu1 uu2 uu3 e4v.next.list.length uu5 uu6 p4 (uh2.ext z4) rfl (umf.ext z4) rfl (uua.ext z4) rfl (uuc.ext z4) rfl (uue.ext z4) rfl (uug.ext z4) rfl)
   ·
    rw [decide_eq_false h38]
    refine AnyG.ld1 (i := 5) 63 (.tmp 2) 22 63 ⟨utk, 0, none⟩ ((pt utl 0)) (by kernel_rfl) (by kernel_rfl) (Fc.here (p4.cs [(13, 0, 1), (4, 0, 1)])) (by kernel_rfl) (by kernel_rfl) (fun _ h => h.2.at_ 1 rfl) ?_
    refine AnyG.ld1 (i := 6) 9 (.tmp 3) 23 9 ⟨utm, 0, none⟩ (.string uto) (by kernel_rfl) (by kernel_rfl) (Fc.here (p4.cs [(13, 0, 1), (4, 0, 1)])) (by kernel_rfl) (by kernel_rfl) (fun _ h => h.2.at_ 0 rfl) ?_
    refine AnyG.pu 7 (.move (.tmp 5)) 24 3 (.i x5) (Fc.here (p4.cs [(13, 0, 1), (4, 0, 1)])) ?_
    refine guard_some' h fun g47 h => ?_
    refine guard_some' h fun g48 h => ?_
    refine AnyG.ixS (i := 8) 9 (.tmp 23) (.tmp 24) 25 5 .i64 uto x5 (by kernel_rfl) (by kernel_rfl) (Fc.here (p4.cs [(13, 0, 1), (4, 0, 1)])) (by kernel_rfl) (by kernel_rfl) (by kernel_rfl) g47 g48 ?_
    have p4 := (((((((p4.fr 12).fr 12).fr 12).fr 12).fr 12).fr 12).fr 12).fr 12
    refine bind_some' h fun y49 e50 h => ?_
    refine Op_.call (kc 27 [22, 25] #[63, 5]) 26 4 27 #[(pt utl 0), .int .u8 (bt uto x5)] (AnyG.cs (i := 9) (by kernel_rfl) (by kernel_rfl)) (by kernel_rfl) (W.z3k e4v (bt uto x5) y49 e50 utl uku e4v.l.length ukw ukx utp utq e4v.now.place.length uts utt utu e4v.now.list.length utw utx uty utz e4v.next.place.length uu1 uu2 uu3 e4v.next.list.length uu5 uu6 p4 (umf.ext z4) rfl (uua.ext z4) rfl (uuc.ext z4) rfl (uue.ext z4) rfl (uug.ext z4) rfl) ?_
    rintro _ w5 ⟨S5, udo, udp, udq, udr, uuq, uur, uus, uut, uuu, uuv, uuw, uux, uuy, uuz, uv0, uv1, uv2, uv3, uv4, uv5, uv6, uv7, rfl, z5, p5, uds, rfl, uv8, rfl, uv9, rfl, uva, rfl, uvb, rfl⟩
    refine AnyG.last [] (Fc S5 w5 []) (by decide) ?_
    refine AnyG.pu 10 (.unOp .not 4 (.tmp 26)) 27 4 (.bool (!y49.1)) (Fc.here trivial) ?_
    refine AnyG.pu 11 (.pick (.tmp 21) (.const (.bool true)) (.tmp 27)) 28 4 (.bool (!y49.1)) (Fc.here trivial) ?_
    refine AnyG.done (by kernel_rfl) ?_ _
    have p5 := (((((((((((((p5.fr 13).fr 8).fr 8).fr 8).fr 8).fr 8).fr 8).fr 8).fr 8).fr 13).fr 13).fr 13).fr 13).fr 13
    exact Goes.jp 29 [(0, yieldV lx0), (2, (pt utk 0)), (3, (pt utm 0)), (5, .i x5), (28, .bool (!y49.1))] (uuo _ _ h _ _ ((hx.trans z4).trans z5) ugs uu7.length ugu ugv udo y49.2.l.length udq udr uuq uur y49.2.now.place.length uut uuu uuv y49.2.now.list.length uux uuy uuz uv0 y49.2.next.place.length uv2 uv3 uv4 y49.2.next.list.length uv6 uv7 p5 (uh2.ext (z4.trans z5)) rfl uds rfl uv8 rfl uv9 rfl uva rfl uvb rfl)
 ·
  intro uvc uvd ⟨x5, x28, uu7, e4v, utn, uto⟩ r h S1 w1 hx ugs ugt ugu ugv uku ukv ukw ukx utp utq utr uts utt utu utv utw utx uty utz uu0 uu1 uu2 uu3 uu4 uu5 uu6 p1 uh2 uh3 umf umg uua uub uuc uud uue uuf uug uuh junk
  try dsimp only at h
  subst uh3
  subst umg
  subst uub
  subst uud
  subst uuf
  subst uuh
  refine ite_some h (fun h58 h => ?_) (fun h58 h => ?_)
  ·
   rw [h58]
   refine Goes.rn 1 [] Jtr ?_
   obtain rfl := Option.some.inj h
   exact Goes.rt Try.f62 (.tuple #[]) ⟨S1, ugs, uu7.length, ugu, ugv, uku, e4v.l.length, ukw, ukx, utp, utq, e4v.now.place.length, uts, utt, utu, e4v.now.list.length, utw, utx, uty, utz, e4v.next.place.length, uu1, uu2, uu3, e4v.next.list.length, uu5, uu6, rfl, hx, p1, uh2, rfl, umf, rfl, uua, rfl, uuc, rfl, uue, rfl, uug, rfl⟩
  ·
   have uve : x28 = false := by simpa using h58
   rw [uve]
   refine Goes.rn 9 [(7, .i x5), (8, .i (wr .i64 (x5 + 1))), (5, .i (wr .i64 (x5 + 1)))] Jtg ?_
   exact Goes.jp 29 [(0, yieldV lx0), (2, (pt utk 0)), (3, (pt utm 0)), (5, .i (wr .i64 (x5 + 1)))] (uvd _ _ h _ _ hx ugs uu7.length ugu ugv uku e4v.l.length ukw ukx utp utq e4v.now.place.length uts utt utu e4v.now.list.length utw utx uty utz e4v.next.place.length uu1 uu2 uu3 e4v.next.list.length uu5 uu6 p1 uh2 rfl umf rfl uua rfl uuc rfl uue rfl uug rfl)

theorem W.z40 {nz wz S0 w0 Lr} (lx0 : Nat) (rx0 : Nat) (u4q : Nat → Value) (u4r : Nat) (utj : Nat) (utk : Nat) (utl : Nat) (utm : Nat) : ∀ a r, M.sim_Runner_ends_1_2_l0 a = some r → (L.z40 nz wz S0 w0 Lr lx0 rx0 u4q u4r utj utk utl utm) a r := (W.z43 lx0 rx0 u4q u4r utj utk utl utm).1

theorem W.z41 {nz wz S0 w0 Lr} (lx0 : Nat) (rx0 : Nat) (u4q : Nat → Value) (u4r : Nat) (utj : Nat) (utk : Nat) (utl : Nat) (utm : Nat) : ∀ a r, M.sim_Runner_ends_1_2_l1 a = some r → (L.z41 nz wz S0 w0 Lr lx0 rx0 u4q u4r utj utk utl utm) a r := (W.z43 lx0 rx0 u4q u4r utj utk utl utm).2.1

theorem W.z42 {nz wz S0 w0 Lr} (lx0 : Nat) (rx0 : Nat) (u4q : Nat → Value) (u4r : Nat) (utj : Nat) (utk : Nat) (utl : Nat) (utm : Nat) : ∀ a r, M.sim_Runner_ends_1_2_l2 a = some r → (L.z42 nz wz S0 w0 Lr lx0 rx0 u4q u4r utj utk utl utm) a r := (W.z43 lx0 rx0 u4q u4r utj utk utl utm).2.2

def Qnk := sub [1] B62
def Jts : List Item := [.code Qnk]
def Qnl := sub [0] B62
def Jtt : List Item := .inRegion (opsOf Qnl) [0, 1] :: Jts

theorem W.z3z (uvf : List Int) (utn : Int) (uvg : T96) (uto : ByteArray) (r : (List Int) × T96) (h : M.sim_Runner_ends_1_2 uvf utn uvg uto = some r) {nz wz S0 w0 Lr} (lx0 rx0 u4q u4r uvh uvi uvj uvk utj utk utl uvl uvm uvn uvo uvp uvq uvr uvs uvt uvu uvv uvw uvx uvy uvz uw0 uw1 uw2 uw3 uw4 uw5 uw6 utm) (p0 : Hp nz wz S0 w0 ((some lx0, .obj (lpst 61 (lfr 13 [(2, (pt u4r 0)), (6, .func (.func 62) #[] #[(pt utj 0), (pt utk 0), (pt utm 0)])] u4q) #[7] (rfAssign (Qn9)) (rfBody (Qn9)) rx0 .ready none)) :: (some u4r, .row 58 [.slice (Gp uvh) uvi uvj] 1 0) :: (uvh, .row 3 uvk (uvj * (kInt .i64).size) 0) :: (some utj, .row 3 [.i utn] 1 0) :: (some utk, .row 63 [(pt utl 0)] 1 0) :: (some utl, .row 97 [.slice (Gp uvl) uvm uvn, (pt uvp 0), (pt uvy 0)] 3 0) :: (uvl, .row 89 uvo (uvn * kT88.size) 0) :: (some uvp, .row 106 [.slice (Gp uvq) uvr uvs, .slice (Gp uvu) uvv uvw] 2 0) :: (uvq, .row 3 uvt (uvs * (kInt .i64).size) 0) :: (uvu, .row 98 uvx (uvw * (kInt .i64).size) 0) :: (some uvy, .row 106 [.slice (Gp uvz) uw0 uw1, .slice (Gp uw3) uw4 uw5] 2 0) :: (uvz, .row 3 uw2 (uw1 * (kInt .i64).size) 0) :: (uw3, .row 98 uw6 (uw5 * (kInt .i64).size) 0) :: (some utm, .row 9 [.string uto] 1 0) :: Lr)) (uw7 : Els (kInt .i64) S0 w0 uvk uvf) (uw8 : uvf.length = uvi) (uw9 : Els kT88 S0 w0 uvo uvg.l) (uwa : uvg.l.length = uvm) (uwb : Els (kInt .i64) S0 w0 uvt uvg.now.place) (uwc : uvg.now.place.length = uvr) (uwd : Els (kInt .i64) S0 w0 uvx uvg.now.list) (uwe : uvg.now.list.length = uvv) (uwf : Els (kInt .i64) S0 w0 uw2 uvg.next.place) (uwg : uvg.next.place.length = uw0) (uwh : Els (kInt .i64) S0 w0 uw6 uvg.next.list) (uwi : uvg.next.list.length = uw4) :
  Calls Try.prog 62 #[yieldV lx0, (pt utj 0), (pt utk 0), (pt utm 0)] w0 (Rets (Post.z3z nz wz S0 w0 Lr lx0 rx0 u4q u4r utj utk utl utm utn uto r)) := by
 subst uw8
 subst uwa
 subst uwc
 subst uwe
 subst uwg
 subst uwi
 refine calls_of_goes (fn := Try.f62) (c := B62) (by kernel_rfl) (by kernel_rfl) 25 (by kernel_rfl) ?_
 refine Goes.jp 29 [(0, yieldV lx0), (1, (pt utj 0)), (2, (pt utk 0)), (3, (pt utm 0))] (fun junk => ?_)
 delta M.sim_Runner_ends_1_2 at h
 refine Goes.rn 2 [] Jtt ?_
 refine Goes.ld 3 (.tmp 1) 6 3 ⟨utj, 0, none⟩ (.i utn) (p0.c 3 0) ?_
 refine Goes.rn 4 [(5, .i utn)] Jtg ?_
 exact Goes.jp 29 [(0, yieldV lx0), (2, (pt utk 0)), (3, (pt utm 0)), (5, .i utn)] (W.z40 lx0 rx0 u4q u4r utj utk utl utm _ _ h _ _ (Ext.refl S0 w0) uvh uvf.length uvj uvk uvl uvg.l.length uvn uvo uvp uvq uvg.now.place.length uvs uvt uvu uvg.now.list.length uvw uvx uvy uvz uvg.next.place.length uw1 uw2 uw3 uvg.next.list.length uw5 uw6 p0 uw7 rfl uw9 rfl uwb rfl uwd rfl uwf rfl uwh rfl)

def Qnm := sub [1] B61
def Jtu : List Item := [.code Qnm]
def Qnn := sub [0] B61
def Jtv : List Item := .inRegion (opsOf Qnn) [0, 1] :: Jtu
def Qno := sub [1, 1] B61
def Jtw : List Item := [.code Qno]
def Jtx : List Item := .inBlock 0 :: Jtw
def Jty : List Item := .code Qn9 :: Jtx
def Qnp := sub [1, 1, 1] B61
def Jtz : List Item := [.code Qnp]
def Qnq := sub [1, 1, 0] B61
def Ju0 : List Item := .inRegion (opsOf Qnq) [0, 1] :: Jtz

def Post.z44 (upe : Nat) (uwj : Nat) (uwk : Nat) (uwl : Nat) (uwm : Int) (uwn : ByteArray) (r : (List Int) × T96) (v : Value) (w' : World) : Prop :=
 ∃ S' Gq nq cq csq ujx ujy ujz uk0 uwo uwp uwq uwr uws uwt uwu uwv uww uwx uwy uwz ux0 ux1 ux2 ux3 ux4 ux5, v = .slice (Gp Gq) nq cq ∧ Ext S0 w0 S' w' ∧ Hp nz wz S' w' ((Gq, .row 3 csq (cq * (kInt .i64).size) 0) :: (some upe, .row 3 [.i uwm] 1 0) :: (some uwj, .row 63 [(pt uwk 0)] 1 0) :: (some uwk, .row 97 [.slice (Gp ujx) ujy ujz, (pt uwo 0), (pt uwx 0)] 3 0) :: (ujx, .row 89 uk0 (ujz * kT88.size) 0) :: (some uwo, .row 106 [.slice (Gp uwp) uwq uwr, .slice (Gp uwt) uwu uwv] 2 0) :: (uwp, .row 3 uws (uwr * (kInt .i64).size) 0) :: (uwt, .row 98 uww (uwv * (kInt .i64).size) 0) :: (some uwx, .row 106 [.slice (Gp uwy) uwz ux0, .slice (Gp ux2) ux3 ux4] 2 0) :: (uwy, .row 3 ux1 (ux0 * (kInt .i64).size) 0) :: (ux2, .row 98 ux5 (ux4 * (kInt .i64).size) 0) :: (some uwl, .row 9 [.string uwn] 1 0) :: Lr) ∧ Els (kInt .i64) S' w' csq r.1 ∧ r.1.length = nq ∧ Els kT88 S' w' uk0 r.2.l ∧ r.2.l.length = ujy ∧ Els (kInt .i64) S' w' uws r.2.now.place ∧ r.2.now.place.length = uwq ∧ Els (kInt .i64) S' w' uww r.2.now.list ∧ r.2.now.list.length = uwu ∧ Els (kInt .i64) S' w' ux1 r.2.next.place ∧ r.2.next.place.length = uwz ∧ Els (kInt .i64) S' w' ux5 r.2.next.list ∧ r.2.next.list.length = ux3

theorem W.z44 (uwm : Int) (ux6 : T96) (uwn : ByteArray) (r : (List Int) × T96) (h : M.slices_AppendSeq_int_int_2 uwm ux6 uwn = some r) {nz wz S0 w0 Lr} (upe uwj uwk ux7 ux8 ux9 uxa uxb uxc uxd uxe uxf uxg uxh uxi uxj uxk uxl uxm uxn uxo uxp uxq uxr uxs uwl) (p0 : Hp nz wz S0 w0 ((some upe, .row 3 [.i uwm] 1 0) :: (some uwj, .row 63 [(pt uwk 0)] 1 0) :: (some uwk, .row 97 [.slice (Gp ux7) ux8 ux9, (pt uxb 0), (pt uxk 0)] 3 0) :: (ux7, .row 89 uxa (ux9 * kT88.size) 0) :: (some uxb, .row 106 [.slice (Gp uxc) uxd uxe, .slice (Gp uxg) uxh uxi] 2 0) :: (uxc, .row 3 uxf (uxe * (kInt .i64).size) 0) :: (uxg, .row 98 uxj (uxi * (kInt .i64).size) 0) :: (some uxk, .row 106 [.slice (Gp uxl) uxm uxn, .slice (Gp uxp) uxq uxr] 2 0) :: (uxl, .row 3 uxo (uxn * (kInt .i64).size) 0) :: (uxp, .row 98 uxs (uxr * (kInt .i64).size) 0) :: (some uwl, .row 9 [.string uwn] 1 0) :: Lr)) (uxt : Els kT88 S0 w0 uxa ux6.l) (uxu : ux6.l.length = ux8) (uxv : Els (kInt .i64) S0 w0 uxf ux6.now.place) (uxw : ux6.now.place.length = uxd) (uxx : Els (kInt .i64) S0 w0 uxj ux6.now.list) (uxy : ux6.now.list.length = uxh) (uxz : Els (kInt .i64) S0 w0 uxo ux6.next.place) (uy0 : ux6.next.place.length = uxm) (uy1 : Els (kInt .i64) S0 w0 uxs ux6.next.list) (uy2 : ux6.next.list.length = uxq) :
  Calls Try.prog 61 #[.slice none 0 0, .func (.func 62) #[] #[(pt upe 0), (pt uwj 0), (pt uwl 0)]] w0 (Rets (Post.z44 nz wz S0 w0 Lr upe uwj uwk uwl uwm uwn r)) := by
 subst uxu
 subst uxw
 subst uxy
 subst uy0
 subst uy2
 refine calls_of_goes (fn := Try.f61) (c := B61) (by kernel_rfl) (by kernel_rfl) 11 (by kernel_rfl) ?_
 refine Goes.jp 13 [(0, .slice none 0 0), (1, .func (.func 62) #[] #[(pt upe 0), (pt uwj 0), (pt uwl 0)])] (fun junk => ?_)
 delta M.slices_AppendSeq_int_int_2 at h
 refine Goes.rn 2 [] Jtv ?_
 refine Op_.box 58 (.tmp 0) 2 0 (.slice none 0 0) [.slice none 0 0] p0 Goes.v (by kernel_rfl) (by kernel_rfl) ?_
 intro b12 w2 z2 p2
 refine Goes.rn 8 [(4, .slice none 0 0), (6, .func (.func 62) #[] #[(pt upe 0), (pt uwj 0), (pt uwl 0)])] Jty ?_
 refine Goes.jp 13 [(2, (pt b12 0)), (6, .func (.func 62) #[] #[(pt upe 0), (pt uwj 0), (pt uwl 0)])] (fun uy3 => ?_)
 refine Goes.rangeF (f := 61) (.tmp 6) #[7] 62 #[] #[(pt upe 0), (pt uwj 0), (pt uwl 0)] (by kernel_rfl) (by kernel_rfl) (fun _ => by kernel_rfl) p2 ?_
 intro r15 l16 w3 z3 p3
 have p3 : Hp nz wz S0 w3 ((none, .row 3 [] (0 * (kInt .i64).size) 0) :: (some l16, .obj (lpst 61 (lfr 13 [(2, (pt b12 0)), (6, .func (.func 62) #[] #[(pt upe 0), (pt uwj 0), (pt uwl 0)])] uy3) #[7] (rfAssign (Qn9)) (rfBody (Qn9)) r15 .ready none)) :: (some r15, .obj (.deferred (some []))) :: (some b12, .row 58 [.slice none 0 0] 1 0) :: (some upe, .row 3 [.i uwm] 1 0) :: (some uwj, .row 63 [(pt uwk 0)] 1 0) :: (some uwk, .row 97 [.slice (Gp ux7) ux6.l.length ux9, (pt uxb 0), (pt uxk 0)] 3 0) :: (ux7, .row 89 uxa (ux9 * kT88.size) 0) :: (some uxb, .row 106 [.slice (Gp uxc) ux6.now.place.length uxe, .slice (Gp uxg) ux6.now.list.length uxi] 2 0) :: (uxc, .row 3 uxf (uxe * (kInt .i64).size) 0) :: (uxg, .row 98 uxj (uxi * (kInt .i64).size) 0) :: (some uxk, .row 106 [.slice (Gp uxl) ux6.next.place.length uxn, .slice (Gp uxp) ux6.next.list.length uxr] 2 0) :: (uxl, .row 3 uxo (uxn * (kInt .i64).size) 0) :: (uxp, .row 98 uxs (uxr * (kInt .i64).size) 0) :: (some uwl, .row 9 [.string uwn] 1 0) :: Lr) := p3.nilRow' 3
 have p3 := (((((((((((((p3.fr 14).fr 14).fr 14).fr 14).fr 14).fr 14).fr 14).fr 14).fr 14).fr 14).fr 14).fr 11).fr 14).fr 13
 refine bind_some' h fun y20 e21 h => ?_
 refine ⟨_, W.z3z ([] : List Int) uwm ux6 uwn y20 e21 l16 r15 uy3 b12 none 0 0 [] upe uwj uwk ux7 ux6.l.length ux9 uxa uxb uxc ux6.now.place.length uxe uxf uxg ux6.now.list.length uxi uxj uxk uxl ux6.next.place.length uxn uxo uxp ux6.next.list.length uxr uxs uwl p3 (Els.nil (K := (kInt .i64))) rfl (uxt.ext (z2.trans z3)) rfl (uxv.ext (z2.trans z3)) rfl (uxx.ext (z2.trans z3)) rfl (uxz.ext (z2.trans z3)) rfl (uy1.ext (z2.trans z3)) rfl, ?_⟩
 rintro _ w4 ⟨S4, uhf, uhg, uhh, uhi, uy4, uy5, uy6, uy7, uy8, uy9, uya, uyb, uyc, uyd, uye, uyf, uyg, uyh, uyi, uyj, uyk, uyl, uym, uyn, uyo, uyp, rfl, z4, p4, uhn, rfl, uyq, rfl, uyr, rfl, uys, rfl, uyt, rfl, uyu, rfl⟩
 refine Goes.endF 0 p4 rfl rfl ?_
 intro w5 z5 p5
 replace p5 : Hp nz wz S4 w5 ((some b12, .row 58 [.slice (Gp uhf) y20.1.length uhh] 1 0) :: (uhf, .row 3 uhi (uhh * (kInt .i64).size) 0) :: (some upe, .row 3 [.i uwm] 1 0) :: (some uwj, .row 63 [(pt uwk 0)] 1 0) :: (some uwk, .row 97 [.slice (Gp uy4) y20.2.l.length uy6, (pt uy8 0), (pt uyh 0)] 3 0) :: (uy4, .row 89 uy7 (uy6 * kT88.size) 0) :: (some uy8, .row 106 [.slice (Gp uy9) y20.2.now.place.length uyb, .slice (Gp uyd) y20.2.now.list.length uyf] 2 0) :: (uy9, .row 3 uyc (uyb * (kInt .i64).size) 0) :: (uyd, .row 98 uyg (uyf * (kInt .i64).size) 0) :: (some uyh, .row 106 [.slice (Gp uyi) y20.2.next.place.length uyk, .slice (Gp uym) y20.2.next.list.length uyo] 2 0) :: (uyi, .row 3 uyl (uyk * (kInt .i64).size) 0) :: (uym, .row 98 uyp (uyo * (kInt .i64).size) 0) :: (some uwl, .row 9 [.string uwn] 1 0) :: (some r15, .obj (.deferred (some []))) :: Lr) := (p5.front 0 _ rfl).drop
 show Goes _ _ Jtx _ _ _
 refine Goes.rn 3 [] Ju0 ?_
 refine Goes.ld 58 (.tmp 2) 12 58 ⟨b12, 0, none⟩ (.slice (Gp uhf) y20.1.length uhh) (p5.c 0 0) ?_
 refine Goes.rn 2 [(4, .slice (Gp uhf) y20.1.length uhh)] Jtz ?_
 obtain rfl := Option.some.inj h
 have p5 := p5.dp 0
 have p5 := ((((((((((((p5.fr 11).fr 11).fr 11).fr 11).fr 11).fr 11).fr 11).fr 11).fr 11).fr 11).fr 11).fr 11).fr 12
 refine Goes.retL ?_
 refine lvs_mark 0 rfl rfl p5 rfl ?_
 intro w6 z6 p6
 replace p6 : Hp nz wz S4 w6 ((uhf, .row 3 uhi (uhh * (kInt .i64).size) 0) :: (some upe, .row 3 [.i uwm] 1 0) :: (some uwj, .row 63 [(pt uwk 0)] 1 0) :: (some uwk, .row 97 [.slice (Gp uy4) y20.2.l.length uy6, (pt uy8 0), (pt uyh 0)] 3 0) :: (uy4, .row 89 uy7 (uy6 * kT88.size) 0) :: (some uy8, .row 106 [.slice (Gp uy9) y20.2.now.place.length uyb, .slice (Gp uyd) y20.2.now.list.length uyf] 2 0) :: (uy9, .row 3 uyc (uyb * (kInt .i64).size) 0) :: (uyd, .row 98 uyg (uyf * (kInt .i64).size) 0) :: (some uyh, .row 106 [.slice (Gp uyi) y20.2.next.place.length uyk, .slice (Gp uym) y20.2.next.list.length uyo] 2 0) :: (uyi, .row 3 uyl (uyk * (kInt .i64).size) 0) :: (uym, .row 98 uyp (uyo * (kInt .i64).size) 0) :: (some uwl, .row 9 [.string uwn] 1 0) :: Lr) := p6.drop
 exact lvs_done (fn := Try.f61) rfl rfl rfl rfl (by kernel_rfl) (v := .slice (Gp uhf) y20.1.length uhh) (by kernel_rfl) ⟨S4, uhf, y20.1.length, uhh, uhi, uy4, y20.2.l.length, uy6, uy7, uy8, uy9, y20.2.now.place.length, uyb, uyc, uyd, y20.2.now.list.length, uyf, uyg, uyh, uyi, y20.2.next.place.length, uyk, uyl, uym, y20.2.next.list.length, uyo, uyp, rfl, ((((((Ext.refl S0 w0).trans z2).trans z3).trans z4).trans z5).trans z6), p6, (uhn.ext (z5.trans z6)), rfl, (uyq.ext (z5.trans z6)), rfl, (uyr.ext (z5.trans z6)), rfl, (uys.ext (z5.trans z6)), rfl, (uyt.ext (z5.trans z6)), rfl, (uyu.ext (z5.trans z6)), rfl⟩

def Qnr := sub [1, 1] B41
def Ju1 : List Item := [.code Qnr]
def Qns := sub [1, 0] B41
def Ju2 : List Item := .inRegion (opsOf Qns) [1, 2] :: Ju1

def Post.z45 (uyv : Nat) (uyw : Nat) (uyx : Nat) (uyy : Nat) (uyz : Int) (uz0 : ByteArray) (r : (List Int) × T96) (v : Value) (w' : World) : Prop :=
 ∃ S' Gq nq cq csq ujx ujy ujz uk0 uwo uwp uwq uwr uws uwt uwu uwv uww uwx uwy uwz ux0 ux1 ux2 ux3 ux4 ux5, v = .slice (Gp Gq) nq cq ∧ Ext S0 w0 S' w' ∧ Hp nz wz S' w' ((Gq, .row 3 csq (cq * (kInt .i64).size) 0) :: (some uyv, .row 3 [.i uyz] 1 0) :: (some uyw, .row 63 [(pt uyx 0)] 1 0) :: (some uyx, .row 97 [.slice (Gp ujx) ujy ujz, (pt uwo 0), (pt uwx 0)] 3 0) :: (ujx, .row 89 uk0 (ujz * kT88.size) 0) :: (some uwo, .row 106 [.slice (Gp uwp) uwq uwr, .slice (Gp uwt) uwu uwv] 2 0) :: (uwp, .row 3 uws (uwr * (kInt .i64).size) 0) :: (uwt, .row 98 uww (uwv * (kInt .i64).size) 0) :: (some uwx, .row 106 [.slice (Gp uwy) uwz ux0, .slice (Gp ux2) ux3 ux4] 2 0) :: (uwy, .row 3 ux1 (ux0 * (kInt .i64).size) 0) :: (ux2, .row 98 ux5 (ux4 * (kInt .i64).size) 0) :: (some uyy, .row 9 [.string uz0] 1 0) :: Lr) ∧ Els (kInt .i64) S' w' csq r.1 ∧ r.1.length = nq ∧ Els kT88 S' w' uk0 r.2.l ∧ r.2.l.length = ujy ∧ Els (kInt .i64) S' w' uws r.2.now.place ∧ r.2.now.place.length = uwq ∧ Els (kInt .i64) S' w' uww r.2.now.list ∧ r.2.now.list.length = uwu ∧ Els (kInt .i64) S' w' ux1 r.2.next.place ∧ r.2.next.place.length = uwz ∧ Els (kInt .i64) S' w' ux5 r.2.next.list ∧ r.2.next.list.length = ux3

theorem W.z45 (uyz : Int) (uz1 : T96) (uz0 : ByteArray) (r : (List Int) × T96) (h : M.slices_Collect_int uyz uz1 uz0 = some r) {nz wz S0 w0 Lr} (uyv uyw uyx uz2 uz3 uz4 uz5 uz6 uz7 uz8 uz9 uza uzb uzc uzd uze uzf uzg uzh uzi uzj uzk uzl uzm uzn uyy) (p0 : Hp nz wz S0 w0 ((some uyv, .row 3 [.i uyz] 1 0) :: (some uyw, .row 63 [(pt uyx 0)] 1 0) :: (some uyx, .row 97 [.slice (Gp uz2) uz3 uz4, (pt uz6 0), (pt uzf 0)] 3 0) :: (uz2, .row 89 uz5 (uz4 * kT88.size) 0) :: (some uz6, .row 106 [.slice (Gp uz7) uz8 uz9, .slice (Gp uzb) uzc uzd] 2 0) :: (uz7, .row 3 uza (uz9 * (kInt .i64).size) 0) :: (uzb, .row 98 uze (uzd * (kInt .i64).size) 0) :: (some uzf, .row 106 [.slice (Gp uzg) uzh uzi, .slice (Gp uzk) uzl uzm] 2 0) :: (uzg, .row 3 uzj (uzi * (kInt .i64).size) 0) :: (uzk, .row 98 uzn (uzm * (kInt .i64).size) 0) :: (some uyy, .row 9 [.string uz0] 1 0) :: Lr)) (uzo : Els kT88 S0 w0 uz5 uz1.l) (uzp : uz1.l.length = uz3) (uzq : Els (kInt .i64) S0 w0 uza uz1.now.place) (uzr : uz1.now.place.length = uz8) (uzs : Els (kInt .i64) S0 w0 uze uz1.now.list) (uzt : uz1.now.list.length = uzc) (uzu : Els (kInt .i64) S0 w0 uzj uz1.next.place) (uzv : uz1.next.place.length = uzh) (uzw : Els (kInt .i64) S0 w0 uzn uz1.next.list) (uzx : uz1.next.list.length = uzl) :
  Calls Try.prog 41 #[.func (.func 62) #[] #[(pt uyv 0), (pt uyw 0), (pt uyy 0)]] w0 (Rets (Post.z45 nz wz S0 w0 Lr uyv uyw uyx uyy uyz uz0 r)) := by
 subst uzp
 subst uzr
 subst uzt
 subst uzv
 subst uzx
 refine calls_of_goes (fn := Try.f41) (c := B41) (by kernel_rfl) (by kernel_rfl) 4 (by kernel_rfl) ?_
 refine Goes.jp 5 [(0, .func (.func 62) #[] #[(pt uyv 0), (pt uyw 0), (pt uyy 0)])] (fun junk => ?_)
 delta M.slices_Collect_int at h
 refine Goes.rn 7 [(2, .slice none 0 0), (3, .func (.func 62) #[] #[(pt uyv 0), (pt uyw 0), (pt uyy 0)])] Ju2 ?_
 refine bind_some' h fun y12 e13 h => ?_
 refine Goes.cal (.call { callee := .value (.func 61), args := #[(.const (.slice none 0 0)), (.tmp 3)], argTypes := #[58, 92] }) 4 58 61 _ (W.z44 uyz uz1 uz0 y12 e13 uyv uyw uyx uz2 uz1.l.length uz4 uz5 uz6 uz7 uz1.now.place.length uz9 uza uzb uz1.now.list.length uzd uze uzf uzg uz1.next.place.length uzi uzj uzk uz1.next.list.length uzm uzn uyy p0 uzo rfl uzq rfl uzs rfl uzu rfl uzw rfl) ?_
 rintro _ w2 ⟨S2, uzy, uzz, u100, u101, u102, u103, u104, u105, u106, u107, u108, u109, u10a, u10b, u10c, u10d, u10e, u10f, u10g, u10h, u10i, u10j, u10k, u10l, u10m, u10n, rfl, z2, p2, u10o, rfl, u10p, rfl, u10q, rfl, u10r, rfl, u10s, rfl, u10t, rfl⟩
 refine Goes.rn 2 [(2, .slice (Gp uzy) y12.1.length u100)] Ju1 ?_
 obtain rfl := Option.some.inj h
 exact Goes.rt Try.f41 (.slice (Gp uzy) y12.1.length u100) ⟨S2, uzy, y12.1.length, u100, u101, u102, y12.2.l.length, u104, u105, u106, u107, y12.2.now.place.length, u109, u10a, u10b, y12.2.now.list.length, u10d, u10e, u10f, u10g, y12.2.next.place.length, u10i, u10j, u10k, y12.2.next.list.length, u10m, u10n, rfl, ((Ext.refl S0 w0).trans z2), p2, u10o, rfl, u10p, rfl, u10q, rfl, u10r, rfl, u10s, rfl, u10t, rfl⟩

def Qnt := sub [1, 1, 1] B23
def Ju3 : List Item := [.code Qnt]
def Ju4 : List Item := .inBlock 0 :: Ju3
def Qnu := sub [1, 1, 0, 0, 1, 1, 1] B23
def Ju5 : List Item := .code Qnu :: Ju4
def Qnv := sub [1, 1, 0, 0, 1, 1, 1, 0, 1] B23
def Ju6 : List Item := .code Qnv :: Ju4
def Qnw := sub [1, 1, 1, 1] B23
def Ju7 : List Item := [.code Qnw]
def Qnx := sub [1, 1, 1, 0] B23
def Ju8 : List Item := .inRegion (opsOf Qnx) [3, 4, 5, 6, 7] :: Ju7

def Post.z46 (r : (List Int) × Int) (v : Value) (w' : World) : Prop :=
 ∃ S' ufb ufc ufd ufe, v = .tuple #[.slice (Gp ufb) ufc ufd, .i r.2] ∧ Ext S0 w0 S' w' ∧ Hp nz wz S' w' ((ufb, .row 3 ufe (ufd * (kInt .i64).size) 0) :: Lr) ∧ Els (kInt .i64) S' w' ufe r.1 ∧ r.1.length = ufc

def L.z47 : ByteArray × Int × T96 × Int × Bool → ((List Int) × Int) → Prop := fun ⟨x1, x2, x8v, x9, x20⟩ r => ∀ S1 w1, Ext S0 w0 S1 w1 → ∀ gx8 u10u u10v u10w u10x u10y u10z u110 u111 u112 u113 u114 u115 u116 u117 u118 u119 u11a u11b u11c u11d u11e u11f (_ : Hp nz wz S1 w1 ((some gx8, .row 97 [.slice (Gp u10u) u10v u10w, (pt u10y 0), (pt u117 0)] 3 0) :: (u10u, .row 89 u10x (u10w * kT88.size) 0) :: (some u10y, .row 106 [.slice (Gp u10z) u110 u111, .slice (Gp u113) u114 u115] 2 0) :: (u10z, .row 3 u112 (u111 * (kInt .i64).size) 0) :: (u113, .row 98 u116 (u115 * (kInt .i64).size) 0) :: (some u117, .row 106 [.slice (Gp u118) u119 u11a, .slice (Gp u11c) u11d u11e] 2 0) :: (u118, .row 3 u11b (u11a * (kInt .i64).size) 0) :: (u11c, .row 98 u11f (u11e * (kInt .i64).size) 0) :: Lr)) (_ : Els kT88 S1 w1 u10x x8v.l) (_ : x8v.l.length = u10v) (_ : Els (kInt .i64) S1 w1 u112 x8v.now.place) (_ : x8v.now.place.length = u110) (_ : Els (kInt .i64) S1 w1 u116 x8v.now.list) (_ : x8v.now.list.length = u114) (_ : Els (kInt .i64) S1 w1 u11b x8v.next.place) (_ : x8v.next.place.length = u119) (_ : Els (kInt .i64) S1 w1 u11f x8v.next.list) (_ : x8v.next.list.length = u11d) (junk : Nat → Value),
 Goes Try.prog (base 23) Ju5 ⟨lfr 35 [(1, .string x1), (2, .i x2), (8, (pt gx8 0)), (9, .i x9), (20, .bool x20)] junk, []⟩ w1 (Done Try.prog 23 (Rets (Post.z46 nz wz S0 w0 Lr r)))

theorem W.z47 {nz wz S0 w0 Lr} : ∀ a r, M.sim_Ends_l0 a = some r → L.z47 nz wz S0 w0 Lr a r := by
 intro ⟨x1, x2, x8v, x9, x20⟩ r h S1 w1 hx gx8 u10u u10v u10w u10x u10y u10z u110 u111 u112 u113 u114 u115 u116 u117 u118 u119 u11a u11b u11c u11d u11e u11f p1 u11g u11h u11i u11j u11k u11l u11m u11n u11o u11p junk
 rw [M.sim_Ends_l0] at h
 try dsimp only at h
 subst u11h
 subst u11j
 subst u11l
 subst u11n
 subst u11p
 refine ite_some h (fun h25 h => ?_) (fun h25 h => ?_)
 ·
  rw [h25]
  refine Goes.rn 6 [(6, .slice none 0 0), (7, .i 2)] Ju6 ?_
  have p1 : Hp nz wz S1 w1 ((none, .row 3 [] (0 * (kInt .i64).size) 0) :: (some gx8, .row 97 [.slice (Gp u10u) x8v.l.length u10w, (pt u10y 0), (pt u117 0)] 3 0) :: (u10u, .row 89 u10x (u10w * kT88.size) 0) :: (some u10y, .row 106 [.slice (Gp u10z) x8v.now.place.length u111, .slice (Gp u113) x8v.now.list.length u115] 2 0) :: (u10z, .row 3 u112 (u111 * (kInt .i64).size) 0) :: (u113, .row 98 u116 (u115 * (kInt .i64).size) 0) :: (some u117, .row 106 [.slice (Gp u118) x8v.next.place.length u11a, .slice (Gp u11c) x8v.next.list.length u11e] 2 0) :: (u118, .row 3 u11b (u11a * (kInt .i64).size) 0) :: (u11c, .row 98 u11f (u11e * (kInt .i64).size) 0) :: Lr) := p1.nilRow' 3
  obtain rfl := Option.some.inj h
  have p1 := (((((((p1.dp 1).dp 1).dp 1).dp 1).dp 1).dp 1).dp 1).dp 1
  exact Goes.rt Try.f23 (.tuple #[.slice (Gp none) 0 0, .i 2]) ⟨S1, none, 0, 0, [], rfl, hx, p1, (Els.nil (K := (kInt .i64))), rfl⟩
 ·
  have u7e : x20 = false := by simpa using h25
  rw [u7e]
  refine Goes.rn 8 [(29, (pt gx8 0)), (30, .string x1), (31, .i x2)] Ju8 ?_
  refine bind_some' h fun y27 e28 h => ?_
  refine Goes.cal (kc 42 [29, 30, 31] #[63, 9, 3]) 32 92 42 _ (W.z3x x8v x1 x2 y27 e28 gx8 u10u x8v.l.length u10w u10x u10y u10z x8v.now.place.length u111 u112 u113 x8v.now.list.length u115 u116 u117 u118 x8v.next.place.length u11a u11b u11c x8v.next.list.length u11e u11f p1 u11g rfl u11i rfl u11k rfl u11m rfl u11o rfl) ?_
  rintro _ w4 ⟨S4, u11q, u11r, u11s, rfl, z4, p4⟩
  have p4 := ((((((((((p4.fr 2).fr 10).fr 10).fr 10).fr 10).fr 10).fr 10).fr 10).fr 10).fr 10).fr 10
  refine bind_some' h fun y32 e33 h => ?_
  refine Goes.cal (kc 41 [32] #[92]) 33 58 41 _ (W.z45 y27.1 x8v y27.2 y32 e33 u11q u11r gx8 u10u x8v.l.length u10w u10x u10y u10z x8v.now.place.length u111 u112 u113 x8v.now.list.length u115 u116 u117 u118 x8v.next.place.length u11a u11b u11c x8v.next.list.length u11e u11f u11s p4 (u11g.ext z4) rfl (u11i.ext z4) rfl (u11k.ext z4) rfl (u11m.ext z4) rfl (u11o.ext z4) rfl) ?_
  rintro _ w5 ⟨S5, ucv, ucw, ucx, ucy, u11t, u11u, u11v, u11w, u11x, u11y, u11z, u120, u121, u122, u123, u124, u125, u126, u127, u128, u129, u12a, u12b, u12c, u12d, u12e, rfl, z5, p5, ux, rfl, u12f, rfl, u12g, rfl, u12h, rfl, u12i, rfl, u12j, rfl⟩
  have p5 := ((((((((((p5.dp 1).dp 1).dp 1).dp 1).dp 1).dp 1).dp 1).dp 1).dp 1).dp 1).dp 1
  refine Goes.rn 4 [(34, .i x9), (6, .slice (Gp ucv) y32.1.length ucx), (7, .i x9)] Ju7 ?_
  obtain rfl := Option.some.inj h
  exact Goes.rt Try.f23 (.tuple #[.slice (Gp ucv) y32.1.length ucx, .i x9]) ⟨S5, ucv, y32.1.length, ucx, ucy, rfl, ((hx.trans z4).trans z5), p5, ux, rfl⟩

def Post.z48 (r : Int × ByteArray) (v : Value) (w' : World) : Prop :=
 ∃ S' uh ujw us7, v = .func (.func 62) #[] #[(pt uh 0), (pt ujw 0), (pt us7 0)] ∧ Ext S0 w0 S' w' ∧ Hp nz wz S' w' ((some uh, .row 3 [.i r.1] 1 0) :: (some ujw, .row 63 [.pointer none] 1 0) :: (some us7, .row 9 [.string r.2] 1 0) :: Lr)

theorem W.z48 (x1 : ByteArray) (x2 : Int) (r : Int × ByteArray) (h : M.sim_Runner_ends_2 x1 x2 = some r) {nz wz S0 w0 Lr} (p0 : Hp nz wz S0 w0 (Lr)) :
  Calls Try.prog 42 #[.pointer none, .string x1, .i x2] w0 (Rets (Post.z48 nz wz S0 w0 Lr r)) := by
 refine calls_of_goes (fn := Try.f42) (c := B42) (by kernel_rfl) (by kernel_rfl) 5 (by kernel_rfl) ?_
 refine Goes.jp 8 [(0, .pointer none), (1, .string x1), (2, .i x2)] (fun junk => ?_)
 delta M.sim_Runner_ends_2 at h
 refine Goes.rn 2 [] Jtb ?_
 refine Op_.box 63 (.tmp 0) 3 0 (.pointer none) [.pointer none] p0 Goes.v (by kernel_rfl) (by kernel_rfl) ?_
 intro b1 w2 z2 p2
 refine Op_.box 9 (.tmp 1) 4 0 (.string x1) [.string x1] p2 Goes.v (by kernel_rfl) (by kernel_rfl) ?_
 intro b3 w3 z3 p3
 refine Op_.box 3 (.tmp 2) 5 0 (.i x2) [.i x2] p3 Goes.v (by kernel_rfl) (by kernel_rfl) ?_
 intro b5 w4 z4 p4
 refine Goes.rn 7 [(6, .func (.func 62) #[] #[(pt b5 0), (pt b1 0), (pt b3 0)]), (7, .func (.func 62) #[] #[(pt b5 0), (pt b1 0), (pt b3 0)])] Jtc ?_
 obtain rfl := Option.some.inj h
 have p4 := ((p4.fr 1).fr 2).fr 2
 exact Goes.rt Try.f42 (.func (.func 62) #[] #[(pt b5 0), (pt b1 0), (pt b3 0)]) ⟨S0, b5, b1, b3, rfl, ((((Ext.refl S0 w0).trans z2).trans z3).trans z4), p4⟩

def Post.z49 (lk : Nat) (rk : Nat) (jkk : Nat → Value) (u46 : Nat) (us8 : Nat) (us9 : Nat) (usx : Nat) (usy : Int) (ut0 : ByteArray) (r : List Int) (v : Value) (w' : World) : Prop :=
 ∃ S' ugs ugt ugu ugv, v = .bool true ∧ Ext S0 w0 S' w' ∧ Hp nz wz S' w' ((some lk, .obj (lpst 61 (lfr 13 [(2, (pt u46 0)), (6, .func (.func 62) #[] #[(pt us8 0), (pt us9 0), (pt usx 0)])] jkk) #[7] (rfAssign (Qn9)) (rfBody (Qn9)) rk .ready none)) :: (some u46, .row 58 [.slice (Gp ugs) ugt ugu] 1 0) :: (ugs, .row 3 ugv (ugu * (kInt .i64).size) 0) :: (some us8, .row 3 [.i usy] 1 0) :: (some us9, .row 63 [.pointer none] 1 0) :: (some usx, .row 9 [.string ut0] 1 0) :: Lr) ∧ Els (kInt .i64) S' w' ugv r ∧ r.length = ugt

theorem W.z49 (ut1 : List Int) (usy : Int) (ut0 : ByteArray) (a0 : Int) (r : List Int) (h : M.slices_AppendSeq_int_int__r_4 ut1 usy ut0 a0 = some r) {nz wz S0 w0 Lr} (lk rk jkk u46 ut2 ut3 ut4 ut5 us8 us9 usx) (p0 : Hp nz wz S0 w0 ((some lk, .obj (lpst 61 (lfr 13 [(2, (pt u46 0)), (6, .func (.func 62) #[] #[(pt us8 0), (pt us9 0), (pt usx 0)])] jkk) #[7] (rfAssign (Qn9)) (rfBody (Qn9)) rk .ready none)) :: (some u46, .row 58 [.slice (Gp ut2) ut3 ut4] 1 0) :: (ut2, .row 3 ut5 (ut4 * (kInt .i64).size) 0) :: (some us8, .row 3 [.i usy] 1 0) :: (some us9, .row 63 [.pointer none] 1 0) :: (some usx, .row 9 [.string ut0] 1 0) :: Lr)) (ut6 : Els (kInt .i64) S0 w0 ut5 ut1) (ut7 : ut1.length = ut3) :
  Goes Try.prog (rbase 61 lk) [.code (rfAssign (Qn9)), .beginRound, .code (rfBody (Qn9))] ⟨setp (lfr 13 [(2, (pt u46 0)), (6, .func (.func 62) #[] #[(pt us8 0), (pt us9 0), (pt usx 0)])] jkk) #[7] #[.i a0], []⟩ w0 (DoneR (Post.z49 nz wz S0 w0 Lr lk rk jkk u46 us8 us9 usx usy ut0 r)) := by
 subst ut7
 refine Goes.jp 13 [(2, (pt u46 0)), (6, .func (.func 62) #[] #[(pt us8 0), (pt us9 0), (pt usx 0)]), (7, .i a0)] (fun junk => ?_)
 delta M.slices_AppendSeq_int_int__r_4 at h
 refine Goes.rn 3 [(5, .i a0)] [.beginRound, .code (Qna)] ?_
 refine Goes.beginR 0 rfl p0 rfl ?_
 intro w2 z2 p2
 refine Goes.rn 2 [] Jtd ?_
 refine Goes.ld 58 (.tmp 2) 8 58 ⟨u46, 0, none⟩ (.slice (Gp ut2) ut1.length ut4) (p2.c 1 0) ?_
 refine Goes.rn 1 [(9, .i a0)] Jte ?_
 have f8 : Els (kInt .i64) S0 w2 ([.i a0] : List Value) [a0] := by exact (Els.cons (K := (kInt .i64)) (vs := [.i a0]) (x := a0) rfl Els.nil)
 refine Op_.made (.buildSlice 58 1 #[(0, (.tmp 9))]) 10 58 (fun b => .slice (Gp (some b)) 1 1) 3 ([.i a0] : List Value) p2 Goes.v (by kernel_rfl) ?_
 intro b7 w3 z3 p3
 have p3 : Hp nz wz S0 w3 (((some b7), .row 3 ([.i a0] : List Value) (1 * (kInt .i64).size) 0) :: (some lk, .obj (lpst 61 (lfr 13 [(2, (pt u46 0)), (6, .func (.func 62) #[] #[(pt us8 0), (pt us9 0), (pt usx 0)])] jkk) #[7] (rfAssign (Qn9)) (rfBody (Qn9)) rk .busy none)) :: (some u46, .row 58 [.slice (Gp ut2) ut1.length ut4] 1 0) :: (ut2, .row 3 ut5 (ut4 * (kInt .i64).size) 0) :: (some us8, .row 3 [.i usy] 1 0) :: (some us9, .row 63 [.pointer none] 1 0) :: (some usx, .row 9 [.string ut0] 1 0) :: Lr) := p3
 refine guard_some' h fun g13 h => ?_
 refine Op_.ap_n (K := (kInt .i64)) 58 (.tmp 8) (.tmp 10) 11 58 3 3 (.i 0) 8 ut1.length ut4 1 ut1 [a0] (ut1 ++ [a0]) (Gp (some b7)) 1 rfl rfl rfl p3 rfl (ut6.ext (z2.trans z3)) Goes.v (by kernel_rfl) (by kernel_rfl) (by kernel_rfl) (by kernel_rfl) rfl (by decide) (f8.ext z3) (src_own p3 (q := 0) rfl) (by have := g13; omega) (by have := g13; omega) ?_
 intro w4 G14 c15 u12k z4 p4 f17
 refine Op_.st 58 (.tmp 2) (.tmp 11) 0 2 u46 0 (.slice (Gp G14) ((ut1 ++ [a0]).length) c15) [.slice (Gp G14) ((ut1 ++ [a0]).length) c15] p4 rfl Goes.s (by kernel_rfl) (by kernel_rfl) (by kernel_rfl) (by kernel_rfl) (Nat.zero_le _) (by simp only [List.length_cons, List.length_nil]; omega) (by simp [Value.oneCell']) ?_
 intro w5 z5 p5
 have p5 : Hp nz wz S0 w5 (((some b7), .row 3 ([.i a0] : List Value) (1 * (kInt .i64).size) 0) :: (some lk, .obj (lpst 61 (lfr 13 [(2, (pt u46 0)), (6, .func (.func 62) #[] #[(pt us8 0), (pt us9 0), (pt usx 0)])] jkk) #[7] (rfAssign (Qn9)) (rfBody (Qn9)) rk .busy none)) :: (some u46, .row 58 [.slice (Gp G14) ((ut1 ++ [a0]).length) c15] 1 0) :: (G14, .row 3 u12k (c15 * (kInt .i64).size) 0) :: (some us8, .row 3 [.i usy] 1 0) :: (some us9, .row 63 [.pointer none] 1 0) :: (some usx, .row 9 [.string ut0] 1 0) :: Lr) := p5
 refine Goes.rn 2 [] [] ?_
 have p5 := p5.dp 0
 obtain rfl := Option.some.inj h
 refine Goes.endR 0 p5 rfl ?_
 intro w6 z6 p6
 exact ⟨S0, G14, (ut1 ++ [a0]).length, c15, u12k, rfl, ((((((Ext.refl S0 w0).trans z2).trans z3).trans z4).trans z5).trans z6), p6, (f17.ext (z5.trans z6)), rfl⟩

end

end Go.Gx
