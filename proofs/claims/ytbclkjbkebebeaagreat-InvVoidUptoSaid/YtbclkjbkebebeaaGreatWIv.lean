import Derived.Test.YtbclkjbkebebeaaGreatWIvc

set_option linter.unusedVariables false

set_option linter.unusedSimpArgs false

set_option maxRecDepth 100000

set_option maxHeartbeats 4000000

namespace Go.Gx

open Go.RowKit Go.Proofs

variable (nz : Nat) (wz : World) (S0 : Fz) (w0 : World) (Lr : List Ent)

noncomputable section

def Qms := Yq 10 B130

theorem W.z76 (u2l : List ByteArray) (u2a : Option Nat) (uuv : T64) (pl : Z) (r : (List ByteArray) × Nat) (h : M.a81 u2l u2a uuv pl = some r) {nz wz S0 w0 Lr} (lx0 rx0 u27 u28 u2m u2n u2o u2p u29 uvw uur uus uut uuu Epl) (p0 : Hp nz wz S0 w0 ((some lx0, .obj (lpst 174 (lfr 13 [(2, (pt u28 0)), (6, .func (.func 130) #[] #[(pt u29 0), (pt uur 0)])] u27) #[7] (rfAssign (Q2p)) (rfBody (Q2p)) rx0 .ready none)) :: (some u28, .row 28 [.slice (Gp u2m) u2n u2o] 1 0) :: (u2m, .row 9 u2p (u2o * kStr.size) 0) :: (some u29, .row 119 [uvw] 1 0) :: (some uur, .row 65 (vT64 uuv uus uut uuu) 3 0) :: PL Epl (Lr))) (u2q : Els kStr S0 w0 u2p u2l) (u2r : u2l.length = u2n) (uod : PpO 126 S0 uvw u2a) (uvx : Rd kT64 S0 w0 uus uuu uuv.L) (uvy : uuv.L.length = uut) (fpl : PS S0 w0 Epl pl) :
  Calls Tryz.prog 130 #[yieldV lx0, (pt u29 0), (pt uur 0)] w0 (Rets (Post.z76 nz wz S0 w0 Lr lx0 rx0 u27 u28 u29 uur uus uut uuu Epl uuv pl r)) := by
 subst u2r
 subst uvy
 refine Zf Tryz.f130 B130 38 ?_
 refine Gj 41 [(0, yieldV lx0), (1, (pt u29 0)), (2, (pt uur 0))] fun junk => ?_
 delta M.a81 at h
 refine Hn 2 (Zr Qms [0, 1, 2, 3, 4, 5, 6] Jsk) ?_
 refine Hd (p0.e 3 0) ?_
 refine Gl h fun v46 h6 h => ?_
 rcases v46 with _ | y7
 ·
  try dsimp only at h
  obtain rfl := PpO.nil uod h6
  cases h
 ·
  try dsimp only at h
  obtain ⟨g8, rfl, f9⟩ := PpO.got uod h6
  refine Hn 2 (Zr Qms [3, 4, 5, 6] Jsk) ?_
  obtain ⟨uvz, q11, l12, e13, f14⟩ := Pl.row p0 12 rfl fpl.zh f9
  obtain ⟨_, _, rfl, q17, ⟨_, _, rfl, q20, ⟨_, _, rfl, q23, ⟨_, _, rfl, q26, ⟨_, _, rfl, rfl, rfl⟩⟩⟩⟩⟩ := q11
  obtain ⟨v15, rfl, f16⟩ := kMp_one (w := w0) q17
  obtain ⟨v18, rfl, f19⟩ := kMp_one (w := w0) q20
  obtain ⟨v21, rfl, f22⟩ := kMp_one (w := w0) q23
  obtain ⟨v24, rfl, f25⟩ := kPp_one (w := w0) q26
  refine Hd (f14 2 _ rfl) ?_
  refine Gl h fun v45 h27 h => ?_
  rcases v45 with _ | y28
  ·
   try dsimp only at h
   obtain rfl := MpO.nil f22 h27
   have p0 := p0.rt 5 10
   refine Gb h fun y31 e32 h => ?_
   refine Gc (kc 131 [12] #[124]) 13 141 131 _ (W.z6a pl y31 e32 _ p0 fpl) ?_
   rintro _ w2 ⟨S2, u32, rfl, z2, p2⟩
   refine Gb h fun y34 e35 h => ?_
   refine Gc (kc 79 [13] #[141]) 14 31 79 _ (W.z6f pl y34 e35 _ _ p2 (fpl.ext z2)) ?_
   rintro _ w3 ⟨S3, u1d, u1e, u1f, u1g, rfl, z3, p3, u1h, rfl⟩
   have p3 := p3.dp 1
   refine Hn 2 Jsk ?_
   have p3 := p3.rt 1 10
   have p3 := (((((p3.fr 15).fr 15).fr 15).fr 15).fr 15).fr 15
   exact Gk (W.z7a lx0 rx0 u27 u28 u29 uur uus uuv.L.length uuu Epl _ _ h _ _ (z2.t z3) _ _ _ _ _ _ _ _ _ p3 u1h rfl (u2q.ext (z2.t z3)) rfl (f9.ext (z2.t z3)) (uvx.ext (z2.t z3)) rfl (fpl.ext (z2.t z3)))
  ·
   try dsimp only at h
   obtain ⟨g29, rfl, f30⟩ := MpO.got f22 h27
   have p0 := p0.rt 5 10
   refine Gb h fun y39 e40 h => ?_
   refine Gc (kc 131 [12] #[124]) 13 141 131 _ (W.z7b y28 pl y39 e40 _ _ p0 f30 fpl) ?_
   rintro _ w4 ⟨S4, u5u, uqz, rfl, z4, p4, u62⟩
   refine Gb h fun y42 e43 h => ?_
   refine Gc (kc 79 [13] #[141]) 14 31 79 _ (W.z7h y39 pl y42 e43 _ _ _ p4 u62 (fpl.ext z4)) ?_
   rintro _ w5 ⟨S5, u6q, u6r, u6s, u6t, rfl, z5, p5, u1p, rfl⟩
   have p5 := p5.dp 1
   refine Hn 2 Jsk ?_
   have p5 := p5.rt 1 10
   have p5 := (((((p5.fr 15).fr 15).fr 15).fr 15).fr 15).fr 15
   exact Gk (W.z7a lx0 rx0 u27 u28 u29 uur uus uuv.L.length uuu Epl _ _ h _ _ (z4.t z5) _ _ _ _ _ _ _ _ _ p5 u1p rfl (u2q.ext (z4.t z5)) rfl (f9.ext (z4.t z5)) (uvx.ext (z4.t z5)) rfl (fpl.ext (z4.t z5)))

def Post.z7i (u2s : Nat) (uw0 : Nat) (uw1 : Option Addr) (uw2 : Nat) (uw3 : Nat) (Epl : ZE) (uw4 : T64) (pl : Z) (r : (List ByteArray) × Nat) (v : Value) (w' : World) : Prop :=
 ∃ S' Gq nq cq csq uw5, v = .slice (Gp Gq) nq cq ∧ Ext S0 w0 S' w' ∧ Hp nz wz S' w' ((Gq, .row 9 csq (cq * kStr.size) 0) :: (some u2s, .row 119 [(pt uw5 0)] 1 0) :: (some uw0, .row 65 (vT64 uw4 uw1 uw2 uw3) 3 0) :: PL Epl (Lr)) ∧ Els kStr S' w' csq r.1 ∧ r.1.length = nq ∧ Pa 126 S' r.2 uw5

theorem W.z7i (u2t : Option Nat) (uw4 : T64) (pl : Z) (r : (List ByteArray) × Nat) (h : M.a82 u2t uw4 pl = some r) {nz wz S0 w0 Lr} (u2s uw6 uw0 uw1 uw2 uw3 Epl) (p0 : Hp nz wz S0 w0 ((some u2s, .row 119 [uw6] 1 0) :: (some uw0, .row 65 (vT64 uw4 uw1 uw2 uw3) 3 0) :: PL Epl (Lr))) (uof : PpO 126 S0 uw6 u2t) (uw7 : Rd kT64 S0 w0 uw1 uw3 uw4.L) (uw8 : uw4.L.length = uw2) (fpl : PS S0 w0 Epl pl) :
  Calls Tryz.prog 174 #[.slice none 0 0, .func (.func 130) #[] #[(pt u2s 0), (pt uw0 0)]] w0 (Rets (Post.z7i nz wz S0 w0 Lr u2s uw0 uw1 uw2 uw3 Epl uw4 pl r)) := by
 subst uw8
 refine Zf Tryz.f174 B174 11 ?_
 refine Gj 13 [(0, .slice none 0 0), (1, .func (.func 130) #[] #[(pt u2s 0), (pt uw0 0)])] fun junk => ?_
 delta M.a82 at h
 refine Hn 2 J3x ?_
 refine Ob 28 (.tmp 0) 2 0 (.slice none 0 0) [.slice none 0 0] p0 Goes.v fun b3 w2 z2 p2 => ?_
 refine Hn 8 J40 ?_
 refine Gj 13 [(2, (pt b3 0)), (6, .func (.func 130) #[] #[(pt u2s 0), (pt uw0 0)])] (fun uw9 => ?_)
 refine Goes.rangeF (f := 174) (.tmp 6) #[7] 130 #[] #[(pt u2s 0), (pt uw0 0)] (by kernel_rfl) (by kernel_rfl) (fun _ => by kernel_rfl) p2 fun r6 l7 w3 z3 p3 => ?_
 have p3 : Hp nz wz S0 w3 ((none, .row 9 [] (0 * kStr.size) 0) :: (some l7, .obj (lpst 174 (lfr 13 [(2, (pt b3 0)), (6, .func (.func 130) #[] #[(pt u2s 0), (pt uw0 0)])] uw9) #[7] (rfAssign (Q2p)) (rfBody (Q2p)) r6 .ready none)) :: (some r6, .obj (.deferred (some []))) :: (some b3, .row 28 [.slice none 0 0] 1 0) :: (some u2s, .row 119 [uw6] 1 0) :: (some uw0, .row 65 (vT64 uw4 uw1 uw4.L.length uw3) 3 0) :: PL Epl (Lr)) := p3.nilRow' 9
 have p3 := p3.rt 6 10
 have p3 := ((((p3.fr 15).fr 15).fr 12).fr 15).fr 14
 refine Gb h fun y11 e12 h => ?_
 refine ⟨_, W.z76 ([] : List ByteArray) u2t uw4 pl y11 e12 _ _ _ _ none 0 0 [] _ _ _ _ _ _ _ p3 (Els.nil (K := kStr)) rfl (uof.ext (z2.t z3)) (uw7.ext (z2.t z3)) rfl (fpl.ext (z2.t z3)), ?_⟩
 rintro _ w4 ⟨S4, u2v, u2w, u2x, u2y, uwa, rfl, z4, p4, u2z, rfl, uwb⟩
 refine Goes.endF 0 p4 rfl rfl fun w5 z5 p5 => ?_
 replace p5 : Hp nz wz S4 w5 ((some b3, .row 28 [.slice (Gp u2v) y11.1.length u2x] 1 0) :: (u2v, .row 9 u2y (u2x * kStr.size) 0) :: (some u2s, .row 119 [(pt uwa 0)] 1 0) :: (some uw0, .row 65 (vT64 uw4 uw1 uw4.L.length uw3) 3 0) :: PL Epl ((some r6, .obj (.deferred (some []))) :: Lr)) := (p5.front 0 _ rfl).drop
 show Goes _ _ J3z _ _ _
 refine Hn 3 J42 ?_
 refine Hd (p5.e 0 0) ?_
 refine Hn 2 J41 ?_
 obtain rfl := sj h
 have p5 := p5.dp 0
 have p5 := p5.fr 13
 refine Goes.retL ?_
 refine lvs_mark 0 rfl rfl p5 rfl fun w6 z6 p6 => ?_
 replace p6 : Hp nz wz S4 w6 ((u2v, .row 9 u2y (u2x * kStr.size) 0) :: (some u2s, .row 119 [(pt uwa 0)] 1 0) :: (some uw0, .row 65 (vT64 uw4 uw1 uw4.L.length uw3) 3 0) :: PL Epl (Lr)) := p6.drop
 exact lvs_done (fn := Tryz.f174) rfl rfl rfl rfl (by kernel_rfl) (v := .slice (Gp u2v) y11.1.length u2x) (by kernel_rfl) ⟨S4, u2v, y11.1.length, u2x, u2y, uwa, rfl, ((((z2.t z3).t z4).t z5).t z6), p6, (u2z.ext (z5.t z6)), rfl, (uwb.ext (z5.t z6))⟩

def Post.z7j (u30 : Nat) (uwc : Nat) (uwd : Option Addr) (uwe : Nat) (uwf : Nat) (Epl : ZE) (uwg : T64) (pl : Z) (r : (List ByteArray) × Nat) (v : Value) (w' : World) : Prop :=
 ∃ S' Gq nq cq csq uw5, v = .slice (Gp Gq) nq cq ∧ Ext S0 w0 S' w' ∧ Hp nz wz S' w' ((Gq, .row 9 csq (cq * kStr.size) 0) :: (some u30, .row 119 [(pt uw5 0)] 1 0) :: (some uwc, .row 65 (vT64 uwg uwd uwe uwf) 3 0) :: PL Epl (Lr)) ∧ Els kStr S' w' csq r.1 ∧ r.1.length = nq ∧ Pa 126 S' r.2 uw5

theorem W.z7j (u31 : Option Nat) (uwg : T64) (pl : Z) (r : (List ByteArray) × Nat) (h : M.a83 u31 uwg pl = some r) {nz wz S0 w0 Lr} (u30 uwh uwc uwd uwe uwf Epl) (p0 : Hp nz wz S0 w0 ((some u30, .row 119 [uwh] 1 0) :: (some uwc, .row 65 (vT64 uwg uwd uwe uwf) 3 0) :: PL Epl (Lr))) (uoj : PpO 126 S0 uwh u31) (uwi : Rd kT64 S0 w0 uwd uwf uwg.L) (uwj : uwg.L.length = uwe) (fpl : PS S0 w0 Epl pl) :
  Calls Tryz.prog 115 #[.func (.func 130) #[] #[(pt u30 0), (pt uwc 0)]] w0 (Rets (Post.z7j nz wz S0 w0 Lr u30 uwc uwd uwe uwf Epl uwg pl r)) := by
 subst uwj
 refine Zf Tryz.f115 B115 4 ?_
 refine Gj 5 [(0, .func (.func 130) #[] #[(pt u30 0), (pt uwc 0)])] fun junk => ?_
 delta M.a83 at h
 refine Hn 7 J44 ?_
 refine Gb h fun y3 e4 h => ?_
 refine Gc (.call { callee := .value (.func 174), args := #[(.const (.slice none 0 0)), (.tmp 3)], argTypes := #[28, 117] }) 4 28 174 _ (W.z7i u31 uwg pl y3 e4 _ _ _ _ _ _ _ p0 uoj uwi rfl fpl) ?_
 rintro _ w2 ⟨S2, ul, um, un, uo, uwk, rfl, z2, p2, up, rfl, uwl⟩
 refine Hn 2 J43 ?_
 obtain rfl := sj h
 exact Hr Tryz.f115 ⟨_, _, _, _, _, _, rfl, z2, p2, up, rfl, uwl⟩

def Post.z7k (u30 : Nat) (uwc : Nat) (uwd : Option Addr) (uwe : Nat) (uwf : Nat) (Epl : ZE) (uwg : T64) (pl : Z) (r : (List ByteArray) × Nat) (v : Value) (w' : World) : Prop :=
 ∃ S' Gq nq cq csq uw5, v = .slice (Gp Gq) nq cq ∧ Ext S0 w0 S' w' ∧ Hp nz wz S' w' ((Gq, .row 9 csq (cq * kStr.size) 0) :: (some u30, .row 119 [(pt uw5 0)] 1 0) :: (some uwc, .row 65 (vT64 uwg uwd uwe uwf) 3 0) :: PL Epl (Lr)) ∧ Els kStr S' w' csq r.1 ∧ r.1.length = nq ∧ Pa 126 S' r.2 uw5

theorem W.z7k (u31 : Option Nat) (uwg : T64) (pl : Z) (r : (List ByteArray) × Nat) (h : M.a84 u31 uwg pl = some r) {nz wz S0 w0 Lr} (u30 uwh uwc uwd uwe uwf Epl) (p0 : Hp nz wz S0 w0 ((some u30, .row 119 [uwh] 1 0) :: (some uwc, .row 65 (vT64 uwg uwd uwe uwf) 3 0) :: PL Epl (Lr))) (uoj : PpO 126 S0 uwh u31) (uwi : Rd kT64 S0 w0 uwd uwf uwg.L) (uwj : uwg.L.length = uwe) (fpl : PS S0 w0 Epl pl) :
  Calls Tryz.prog 60 #[.func (.func 130) #[] #[(pt u30 0), (pt uwc 0)]] w0 (Rets (Post.z7k nz wz S0 w0 Lr u30 uwc uwd uwe uwf Epl uwg pl r)) := by
 subst uwj
 refine Zf Tryz.f60 B60 8 ?_
 refine Gj 9 [(0, .func (.func 130) #[] #[(pt u30 0), (pt uwc 0)])] fun junk => ?_
 delta M.a84 at h
 refine Hn 7 J46 ?_
 refine Gb h fun y3 e4 h => ?_
 refine Gc (kc 115 [4] #[117]) 5 28 115 _ (W.z7j u31 uwg pl y3 e4 _ _ _ _ _ _ _ p0 uoj uwi rfl fpl) ?_
 rintro _ w2 ⟨S2, ul, um, un, uo, uwk, rfl, z2, p2, up, rfl, uwl⟩
 refine Hn 5 J48 ?_
 refine Gg h fun g6 h => ?_
 refine Gc (kc 116 [6] #[28]) 7 0 116 _ (sortS_calls Tryz.sortS p2 up rfl g6) ?_
 rintro _ w3 ⟨rfl, z3, cs7, p3, f8⟩
 refine Hn 6 J49 ?_
 obtain rfl := sj h
 exact Hr Tryz.f60 ⟨_, _, _, _, _, _, rfl, (z2.t z3), p3, f8, (srtS_len rfl), (uwl.ext z3)⟩

def Jsu := Ys 1111 B35 []

def Post.z7l (r : (List ByteArray) × Int × Z) (v : Value) (w' : World) : Prop :=
 ∃ S' uq ur ut uu Ee0, v = .tuple #[.slice (Gp uq) ur ut, .i r.2.1] ∧ Ext S0 w0 S' w' ∧ Hp nz wz S' w' ((uq, .row 9 uu (ut * kStr.size) 0) :: PL Ee0 (Lr)) ∧ Els kStr S' w' uu r.1 ∧ r.1.length = ur ∧ PS S' w' Ee0 r.2.2

theorem W.z7l (x0 : Nat) (x1 : ByteArray) (x2 : T64) (pl : Z) (r : (List ByteArray) × Int × Z) (h : M.a50 x0 x1 x2 pl = some r) {nz wz S0 w0 Lr} (gx0 urx ury urz Epl) (p0 : Hp nz wz S0 w0 (PL Epl (Lr))) (fx0 : Pa 80 S0 x0 gx0) (us0 : Rd kT64 S0 w0 urx urz x2.L) (us1 : x2.L.length = ury) (fpl : PS S0 w0 Epl pl) :
  Calls Tryz.prog 35 #[(pt gx0 0), .string x1, (ag (vT64 x2 urx ury urz))] w0 (Rets (Post.z7l nz wz S0 w0 Lr r)) := by
 subst us1
 refine Zf Tryz.f35 B35 20 ?_
 refine Gj 23 [(0, (pt gx0 0)), (1, .string x1), (2, (ag (vT64 x2 urx x2.L.length urz)))] fun junk => ?_
 delta M.a50 at h
 refine Hn 2 Jnk ?_
 refine Ob 65 (.tmp 2) 5 0 (ag (vT64 x2 urx x2.L.length urz)) (vT64 x2 urx x2.L.length urz) p0 Goes.v fun b1 w2 z2 p2 => ?_
 refine Hn 7 Jnn ?_
 have p2 := p2.rt 1 10
 refine Gb h fun y3 e4 h => ?_
 refine Gc (kc 59 [9] #[24]) 10 4 59 _ (W.z1 x0 pl y3 e4 _ _ p2 (fx0.ext z2) (fpl.ext z2)) ?_
 rintro _ w3 ⟨S3, rfl, z3, p3⟩
 refine Hn 2 Jnm ?_
 refine Hb [(10, .bool y3), (11, .bool (!y3))] ?_
 refine Gi h (fun h5 h => ?_) fun h5 h => ?_
 ·
  rw [h5]
  refine Hn 5 (Yt 11100 B35 [0, 1, 2] (Ys 11101 B35 Jsu)) ?_
  refine Goes.ldN 65 (.tmp 5) 12 65 ⟨b1, 0, none⟩ (vT64 x2 urx x2.L.length urz) (p3.pa 10 0) ?_
  refine Gb h fun y6 e7 h => ?_
  refine Gc (kc 75 [12] #[65]) 13 39 75 _ (W.z68 x2 y6 e7 _ _ _ p3 (us0.ext (z2.t z3)) rfl) ?_
  rintro _ w4 ⟨S4, rfl, z4, p4⟩
  refine Hn 7 (Ys 111011 B35 Jsu) ?_
  refine Hb [(15, .bool (!(decide (y6 = 0))))] ?_
  refine Gi h (fun h8 h => ?_) fun h8 h => ?_
  ·
   rw [dt h8]
   refine Hn 3 (Ys 11110 B35 (Ys 11111 B35 [])) ?_
   have z5 : Ext S4 w4 S4 (w4).drew := Ext.draw
   have p5 := p4.draw
   refine Gd [4, 5] (Fc S4 (w4).drew [(⟨b1, 0, none⟩, .i x2.Op), (⟨b1, 1, none⟩, .string x2.Text), (⟨b1, 2, none⟩, .slice urx x2.L.length urz)]) 6 8 ?_
   generalize (w4).drew = w5 at z5 p5 ⊢
   refine Hq [0, 1] 2 (Fc.here (p5.cs [(10, 0, 3)])) ?_
   refine AnyG.ldN (i := 3) 65 (.tmp 5) 20 65 ⟨b1, 0, none⟩ (vT64 x2 urx x2.L.length urz) (by kernel_rfl) (by kernel_rfl) (Fc.here (p5.cs [(10, 0, 3)])) (by kernel_rfl) (by kernel_rfl) (by kernel_rfl) (fun _ h j v hj => by match j, hj with | 0, rfl => exact h.2.at_ 0 rfl | 1, rfl => exact h.2.at_ 1 rfl | 2, rfl => exact h.2.at_ 2 rfl | (j + 3), hj => simp at hj) ?_
   refine Gb h fun y9 e10 h => ?_
   refine Oc (kc 63 [17, 18] #[24, 9]) 19 119 63 #[(pt gx0 0), .string x1] (Ac 2) (W.z23 x0 x1 pl y9 e10 _ _ p5 (fx0.ext (((z2.t z3).t z4).t z5)) (fpl.ext (((z2.t z3).t z4).t z5))) ?_
   rintro uwm w6 ⟨S6, _, uwn, rfl, z6, p6, uow, ug3⟩
   refine AnyG.next z6 ⟨(p6.c 10 0), (p6.c 10 1), (p6.c 10 2), trivial⟩ ?_
   refine Gb h fun y11 e12 h => ?_
   refine Oc (kc 76 [19, 20] #[119, 65]) 21 117 76 #[uwm, (ag (vT64 x2 urx x2.L.length urz))] (Ac 4) (W.z69 y9.1 x2 y9.2 y11 e12 _ _ _ _ _ p6 uow (us0.ext ((((z2.t z3).t z4).t z5).t z6)) rfl ug3) ?_
   rintro _ w7 ⟨S7, uwo, uwp, uwq, uwr, uws, uwt, rfl, z7, p7, uwu, uwv, rfl⟩
   refine AnyG.last [5] (Fc S7 w7 []) (by decide) ?_
   refine Gb h fun y15 e16 h => ?_
   refine Oc (kc 60 [21] #[117]) 22 28 60 #[.func (.func 130) #[] #[(pt uwo 0), (pt uwq 0)]] (Ac 5) (W.z7k y11.1 y11.2 y9.2 y15 e16 _ _ _ _ _ _ _ p7 uwu uwv rfl (ug3.ext z7)) ?_
   rintro _ w8 ⟨S8, uww, uwx, uwy, uwz, ux0, rfl, z8, p8, ux1, rfl, ux2⟩
   refine AnyG.last [] (Fc S8 w8 []) (by decide) ?_
   refine Hq [6, 7] 2 (Fc.here trivial) ?_
   refine Ad ?_
   have p8 := ((p8.dp 1).dp 1).dp 11
   obtain rfl := sj h
   exact Hr Tryz.f35 ⟨_, _, _, _, _, _, rfl, ((((((z2.t z3).t z4).t z5).t z6).t z7).t z8), p8, ux1, rfl, (ug3.ext (z7.t z8))⟩
  ·
   rw [df h8]
   refine Hn 7 (Ys 11101101 B35 Jsu) ?_
   have p4 : Hp nz wz S4 w4 ((none, .row 9 [] (0 * kStr.size) 0) :: PL Epl ((some b1, .row 65 (vT64 x2 urx x2.L.length urz) 3 0) :: Lr)) := p4.nilRow' 9
   obtain rfl := sj h
   have p4 := p4.dp 11
   exact Hr Tryz.f35 ⟨_, _, _, _, _, _, rfl, ((z2.t z3).t z4), p4, (Els.nil (K := kStr)), rfl, (fpl.ext ((z2.t z3).t z4))⟩
 ·
  rw [bf h5]
  refine Hn 6 Jno ?_
  have p3 : Hp nz wz S3 w3 ((none, .row 9 [] (0 * kStr.size) 0) :: PL Epl ((some b1, .row 65 (vT64 x2 urx x2.L.length urz) 3 0) :: Lr)) := p3.nilRow' 9
  obtain rfl := sj h
  have p3 := p3.dp 11
  exact Hr Tryz.f35 ⟨_, _, _, _, _, _, rfl, (z2.t z3), p3, (Els.nil (K := kStr)), rfl, (fpl.ext (z2.t z3))⟩

def Jt1 := Ys 111 B29 []

def Post.z7m (Epl : ZE) (pl : Z) (r : Unit) (v : Value) (w' : World) : Prop :=
 ∃ S', v = .tuple #[.slice none 0 0, .bool false] ∧ Ext S0 w0 S' w' ∧ Hp nz wz S' w' (PL Epl (Lr))

theorem W.z7m (x1 : Int) (pl : Z) (r : Unit) (h : M.a6c x1 pl = some r) {nz wz S0 w0 Lr} (Epl) (p0 : Hp nz wz S0 w0 (PL Epl (Lr))) (fpl : PS S0 w0 Epl pl) :
  Calls Tryz.prog 29 #[.pointer none, .u x1] w0 (Rets (Post.z7m nz wz S0 w0 Lr Epl pl r)) := by
 refine Zf Tryz.f29 B29 21 ?_
 refine Gj 23 [(0, .pointer none), (1, .u x1)] fun junk => ?_
 delta M.a6c at h
 refine Hn 9 (Yt 1100 B29 [1, 2] (Ys 1101 B29 Jt1)) ?_
 refine Gb h fun y1 e2 h => ?_
 refine Gc (kc 59 [8] #[24]) 9 4 59 _ (W.z5u pl y1 e2 _ p0 fpl) ?_
 rintro _ w2 ⟨S2, rfl, z2, p2⟩
 refine Hn 8 (Ys 110101 B29 Jt1) ?_
 obtain rfl := sj h
 exact Hr Tryz.f29 ⟨_, rfl, z2, p2⟩

def Jt5 := Ys 111 B31 []
def Jt6 := Ys 1101 B31 Jt5
def Jta := Ys 11111 B31 []
def Jtc := Ys 111111 B31 []
def Qnc := Yq 111110 B31
def Jtf := Ys 1111111 B31 []

def Post.z7n (Epl : ZE) (pl : Z) (r : Int × Bool) (v : Value) (w' : World) : Prop :=
 ∃ S', v = .tuple #[.u r.1, .bool r.2] ∧ Ext S0 w0 S' w' ∧ Hp nz wz S' w' (PL Epl (Lr))

theorem W.z7n (x0 : Nat) (x1 : List T55) (pl : Z) (r : Int × Bool) (h : M.a51 x0 x1 pl = some r) {nz wz S0 w0 Lr} (gx0 Ax1 nx1 cx1 Epl) (p0 : Hp nz wz S0 w0 (PL Epl (Lr))) (fx0 : Pa 80 S0 x0 gx0) (fx1 : Rd kT55 S0 w0 Ax1 cx1 x1) (lx1 : x1.length = nx1) (fpl : PS S0 w0 Epl pl) :
  Calls Tryz.prog 31 #[(pt gx0 0), .slice Ax1 nx1 cx1] w0 (Rets (Post.z7n nz wz S0 w0 Lr Epl pl r)) := by
 subst lx1
 refine Zf Tryz.f31 B31 29 ?_
 refine Gj 31 [(0, (pt gx0 0)), (1, .slice Ax1 x1.length cx1)] fun junk => ?_
 delta M.a51 at h
 refine Hn 9 (Yt 1100 B31 [1, 2] Jt6) ?_
 refine Gb h fun y1 e2 h => ?_
 refine Gc (kc 59 [10] #[24]) 11 4 59 _ (W.z1 x0 pl y1 e2 _ _ p0 fx0 fpl) ?_
 rintro _ w2 ⟨S2, rfl, z2, p2⟩
 refine Hn 2 Jt6 ?_
 refine Hb [(11, .bool y1), (12, .bool (!y1))] ?_
 refine Gi h (fun h3 h => ?_) fun h3 h => ?_
 ·
  rw [h3]
  refine Hn 5 (Yt 1110 B31 [1, 2, 3, 4, 5, 6] (Ys 1111 B31 [])) ?_
  refine Gb h fun y4 e5 h => ?_
  refine Gc (kc 65 [14] #[38]) 15 129 65 _ (W.zj x1 y4 e5 _ _ _ p2 (fx1.ext z2) rfl) ?_
  rintro _ w3 ⟨S3, rfl, z3, p3⟩
  refine Hn 12 (Ys 111101 B31 Jta) ?_
  refine Hb [(19, .bool (!(decide (y4.2 = 0))))] ?_
  refine Gi h (fun h6 h => ?_) fun h6 h => ?_
  ·
   rw [dt h6]
   refine Hn 7 (Zr Qnc [3, 4, 5, 6, 7, 8, 9, 10] Jtc) ?_
   obtain ⟨cs7, q8, l9, e10, f11⟩ := Pl.row p3 3 rfl (fpl.zd.ext (z2.t z3)) (fx0.ext (z2.t z3))
   obtain ⟨_, _, rfl, q14, ⟨_, _, rfl, q17, q20⟩⟩ := q8
   obtain ⟨v12, rfl, f13⟩ := kMp_one (w := w3) q14
   obtain ⟨v15, rfl, f16⟩ := kMp_one (w := w3) q17
   obtain ⟨v18, rfl, f19⟩ := kMp_one (w := w3) q20
   refine Hd (f11 1 _ rfl) ?_
   refine Hn 1 (Zr Qnc [5, 6, 7, 8, 9, 10] Jtc) ?_
   refine Gl h fun v27 h21 h => ?_
   rcases v27 with _ | y22
   ·
    try dsimp only at h
    obtain rfl := MpO.nil f16 h21
    refine Hn 14 Jtf ?_
    obtain rfl := sj h
    exact Hr Tryz.f31 ⟨_, rfl, (z2.t z3), p3⟩
   ·
    try dsimp only at h
    obtain ⟨g23, rfl, f24⟩ := MpO.got f16 h21
    refine Op_.lkMk 78 (.tmp 24) (.tmp 25) 26 59 9 35 1 (.u 0) 0 y4.1 ((mget (gn pl.zb y22) y4.1).getD 0) p3 rfl (fpl.zb.ext (z2.t z3)) f24 Goes.v (by kernel_rfl) (by kernel_rfl) (by kernel_rfl) (kok_str (by kernel_rfl)) (by kernel_rfl) rfl rfl fun v25 f26 => ?_
    obtain rfl := one_int f26
    refine Hn 13 Jtf ?_
    obtain rfl := sj h
    exact Hr Tryz.f31 ⟨_, rfl, (z2.t z3), p3⟩
  ·
   rw [df h6]
   refine Hn 6 (Ys 11110101 B31 Jta) ?_
   obtain rfl := sj h
   exact Hr Tryz.f31 ⟨_, rfl, (z2.t z3), p3⟩
 ·
  rw [bf h3]
  refine Hn 6 (Ys 110101 B31 Jt5) ?_
  obtain rfl := sj h
  exact Hr Tryz.f31 ⟨_, rfl, z2, p2⟩

def Post.z7o (Epl : ZE) (pl : Z) (r : Int) (v : Value) (w' : World) : Prop :=
 ∃ S', v = .i r ∧ Ext S0 w0 S' w' ∧ Hp nz wz S' w' (PL Epl (Lr))

theorem W.z7o (x1 : Int) (x2 : List T55) (pl : Z) (r : Int) (h : M.a6d x1 x2 pl = some r) {nz wz S0 w0 Lr} (Ax2 nx2 cx2 Epl) (p0 : Hp nz wz S0 w0 (PL Epl (Lr))) (fx2 : Rd kT55 S0 w0 Ax2 cx2 x2) (lx2 : x2.length = nx2) (fpl : PS S0 w0 Epl pl) :
  Calls Tryz.prog 20 #[.pointer none, .u x1, .slice Ax2 nx2 cx2] w0 (Rets (Post.z7o nz wz S0 w0 Lr Epl pl r)) := by
 subst lx2
 refine Zf Tryz.f20 B20 101 ?_
 refine Gj 104 [(0, .pointer none), (1, .u x1), (2, .slice Ax2 x2.length cx2)] fun junk => ?_
 delta M.a6d at h
 refine Hn 8 J9r ?_
 refine Gb h fun y1 e2 h => ?_
 refine Gc (kc 59 [16] #[24]) 17 4 59 _ (W.z5u pl y1 e2 _ p0 fpl) ?_
 rintro _ w2 ⟨S2, rfl, z2, p2⟩
 refine Hn 7 J9z ?_
 obtain rfl := sj h
 exact Hr Tryz.f20 ⟨_, rfl, z2, p2⟩

def Jti := Ys 111 B22 []
def Jtj := Ys 1101 B22 Jti
def Jtk := Yt 1100 B22 [1, 2] Jtj
def Jtl := Ys 110101 B22 Jti

def Post.z7p (Epl : ZE) (pl : Z) (r : Int) (v : Value) (w' : World) : Prop :=
 ∃ S', v = .i r ∧ Ext S0 w0 S' w' ∧ Hp nz wz S' w' (PL Epl (Lr))

theorem W.z7p (x1 : Int) (pl : Z) (r : Int) (h : M.a6e x1 pl = some r) {nz wz S0 w0 Lr} (Epl) (p0 : Hp nz wz S0 w0 (PL Epl (Lr))) (fpl : PS S0 w0 Epl pl) :
  Calls Tryz.prog 22 #[.pointer none, .u x1] w0 (Rets (Post.z7p nz wz S0 w0 Lr Epl pl r)) := by
 refine Zf Tryz.f22 B22 69 ?_
 refine Gj 71 [(0, .pointer none), (1, .u x1)] fun junk => ?_
 delta M.a6e at h
 refine Hn 8 Jtk ?_
 refine Gb h fun y1 e2 h => ?_
 refine Gc (kc 59 [12] #[24]) 13 4 59 _ (W.z5u pl y1 e2 _ p0 fpl) ?_
 rintro _ w2 ⟨S2, rfl, z2, p2⟩
 refine Hn 7 Jtl ?_
 obtain rfl := sj h
 exact Hr Tryz.f22 ⟨_, rfl, z2, p2⟩


def Post.z7q (r : Bool) (v : Value) (w' : World) : Prop :=
 ∃ S', v = .bool r ∧ Ext S0 w0 S' w' ∧ Hp nz wz S' w' (Lr)

theorem W.z7q (x0 : Int) (r : Bool) (h : M.a85 x0 = some r) {nz wz S0 w0 Lr} (p0 : Hp nz wz S0 w0 (Lr)) :
  Calls Tryz.prog 162 #[.i x0] w0 (Rets (Post.z7q nz wz S0 w0 Lr r)) := by
 refine Zf Tryz.f162 B162 4 ?_
 refine Gj 5 [(0, .i x0)] fun junk => ?_
 delta M.a85 at h
 refine Hn 10 (Ys 111 B162 []) ?_
 obtain rfl := sj h
 exact Hr Tryz.f162 ⟨_, rfl, (Ext.refl S0 w0), p0⟩

def Post.z7r (lk : Nat) (rk : Nat) (jkk : Nat → Value) (u3c : Nat) (u3d : Nat) (u3e : Nat) (u3f : Option Addr) (u3g : Nat) (u3h : Nat) (u3i : Nat) (u3j : Option Addr) (u3k : Nat) (u3l : Nat) (u3m : List Int) (u3n : List Int) (r : List Int) (v : Value) (w' : World) : Prop :=
 ∃ S' u3o u3p u3q u3r, v = .bool true ∧ Ext S0 w0 S' w' ∧ Hp nz wz S' w' ((some lk, .obj (lpst 206 (lfr 23 [(5, (pt u3c 0)), (7, (pt u3d 0)), (12, .func (.func 250) #[] #[(pt u3e 0), (pt u3i 0)])] jkk) #[13, 14] (rfAssign (Q46)) (rfBody (Q46)) rk .ready none)) :: (some u3c, .row 218 [.func (.func 162) #[] #[]] 1 0) :: (some u3d, .row 31 [.slice (Gp u3o) u3p u3q] 1 0) :: (u3o, .row 35 u3r (u3q * (kInt .u64).size) 0) :: (some u3e, .row 31 [.slice u3f u3g u3h] 1 0) :: (some u3i, .row 31 [.slice u3j u3k u3l] 1 0) :: Lr) ∧ Els (kInt .u64) S' w' u3r r ∧ r.length = u3p

theorem W.z7r (u3s : List Int) (u3m : List Int) (u3n : List Int) (a0 : Int) (a1 : Int) (r : List Int) (h : M.a86 u3s u3m u3n a0 a1 = some r) {nz wz S0 w0 Lr} (lk rk jkk u3c u3d u3t u3u u3v u3w u3e u3f u3g u3h u3i u3j u3k u3l) (p0 : Hp nz wz S0 w0 ((some lk, .obj (lpst 206 (lfr 23 [(5, (pt u3c 0)), (7, (pt u3d 0)), (12, .func (.func 250) #[] #[(pt u3e 0), (pt u3i 0)])] jkk) #[13, 14] (rfAssign (Q46)) (rfBody (Q46)) rk .ready none)) :: (some u3c, .row 218 [.func (.func 162) #[] #[]] 1 0) :: (some u3d, .row 31 [.slice (Gp u3t) u3u u3v] 1 0) :: (u3t, .row 35 u3w (u3v * (kInt .u64).size) 0) :: (some u3e, .row 31 [.slice u3f u3g u3h] 1 0) :: (some u3i, .row 31 [.slice u3j u3k u3l] 1 0) :: Lr)) (u3x : Els (kInt .u64) S0 w0 u3w u3s) (u3y : u3s.length = u3u) (u3z : Rd (kInt .u64) S0 w0 u3f u3h u3m) (u40 : u3m.length = u3g) (u41 : Rd (kInt .u64) S0 w0 u3j u3l u3n) (u42 : u3n.length = u3k) :
  Goes Tryz.prog (rbase 206 lk) [.code (rfAssign (Q46)), .beginRound, .code (rfBody (Q46))] ⟨setp (lfr 23 [(5, (pt u3c 0)), (7, (pt u3d 0)), (12, .func (.func 250) #[] #[(pt u3e 0), (pt u3i 0)])] jkk) #[13, 14] #[.u a0, .i a1], []⟩ w0 (DoneR (Post.z7r nz wz S0 w0 Lr lk rk jkk u3c u3d u3e u3f u3g u3h u3i u3j u3k u3l u3m u3n r)) := by
 subst u3y
 subst u40
 subst u42
 refine Gj 23 [(5, (pt u3c 0)), (7, (pt u3d 0)), (12, .func (.func 250) #[] #[(pt u3e 0), (pt u3i 0)]), (13, .u a0), (14, .i a1)] fun junk => ?_
 delta M.a86 at h
 refine Hn 7 [.beginRound, .code (Q47)] ?_
 refine Goes.beginR 0 rfl p0 rfl fun w2 z2 p2 => ?_
 refine Hn 3 J58 ?_
 refine Hd (p2.e 1 0) ?_
 refine Hn 1 J59 ?_
 refine Gb h fun y7 e8 h => ?_
 refine Gc (.call { callee := .value (.tmp 15), args := #[(.tmp 16)], argTypes := #[3] }) 17 4 162 _ (W.z7q a1 y7 e8  p2 ) ?_
 rintro _ w3 ⟨S3, rfl, z3, p3⟩
 refine Hn 1 J57 ?_
 refine Hb [(17, .bool y7)] ?_
 refine Gi h (fun h9 h => ?_) fun h9 h => ?_
 ·
  rw [h9]
  refine Hn 2 J5a ?_
  refine Hd (p3.e 2 0) ?_
  refine Hn 1 J5b ?_
  have f11 : Els (kInt .u64) S3 w3 ([.u a0] : List Value) [a0] := by exact (Els.cons (K := (kInt .u64)) (vs := [.u a0]) (x := a0) rfl Els.nil)
  refine Om (.buildSlice 31 1 #[(0, (.tmp 19))]) 20 31 (fun b => .slice (Gp (some b)) 1 1) 35 ([.u a0] : List Value) (1 * (kInt .u64).size) p3 Goes.v fun b10 w4 z4 p4 => ?_
  refine Gg h fun g16 h => ?_
  refine On (K := (kInt .u64)) 31 (.tmp 18) (.tmp 20) 21 31 35 4 (.u 0) 8 u3s.length u3v 1 u3s [a0] (u3s ++ [a0]) (Gp (some b10)) 1 rfl rfl rfl p4 rfl (u3x.ext ((z2.t z3).t z4)) Goes.v (f11.ext z4) (src_own p4 (q := 0) rfl) g16 fun w5 G17 c18 u43 z5 p5 f20 => ?_
  refine So 31 (.tmp 7) (.tmp 21) 0 3 u3d 0 (.slice (Gp G17) ((u3s ++ [a0]).length) c18) [.slice (Gp G17) ((u3s ++ [a0]).length) c18] p5 rfl Goes.s fun w6 z6 p6 => ?_
  refine Hn 2 [] ?_
  have p6 := p6.dp 0
  obtain rfl := sj h
  refine Goes.endR 0 p6 rfl fun w7 z7 p7 => ?_
  exact ⟨S3, G17, (u3s ++ [a0]).length, c18, u43, rfl, (((((z2.t z3).t z4).t z5).t z6).t z7), p7, (f20.ext (z6.t z7)), rfl⟩
 ·
  rw [bf h9]
  refine Hn 3 [] ?_
  obtain rfl := sj h
  refine Goes.endR 0 p3 rfl fun w8 z8 p8 => ?_
  exact ⟨S3, u3t, u3s.length, u3v, u3w, rfl, ((z2.t z3).t z8), p8, (u3x.ext ((z2.t z3).t z8)), rfl⟩

def Post.z7s (lx0 : Nat) (rx0 : Nat) (u27 : Nat → Value) (u44 : Nat) (u45 : Nat) (u46 : Nat) (u47 : Nat) (r : (List Int) × (List Int) × (List Int)) (v : Value) (w' : World) : Prop :=
 ∃ S' u3o u3p u3q u3r u48 u49 u4a u4b u4c u4d, v = .tuple #[] ∧ Ext S0 w0 S' w' ∧ Hp nz wz S' w' ((some lx0, .obj (lpst 206 (lfr 23 [(5, (pt u44 0)), (7, (pt u45 0)), (12, .func (.func 250) #[] #[(pt u46 0), (pt u47 0)])] u27) #[13, 14] (rfAssign (Q46)) (rfBody (Q46)) rx0 .ready none)) :: (some u44, .row 218 [.func (.func 162) #[] #[]] 1 0) :: (some u45, .row 31 [.slice (Gp u3o) u3p u3q] 1 0) :: (u3o, .row 35 u3r (u3q * (kInt .u64).size) 0) :: (some u46, .row 31 [.slice u48 u49 u4a] 1 0) :: (some u47, .row 31 [.slice u4b u4c u4d] 1 0) :: Lr) ∧ Els (kInt .u64) S' w' u3r r.1 ∧ r.1.length = u3p ∧ Rd (kInt .u64) S' w' u48 u4a r.2.1 ∧ r.2.1.length = u49 ∧ Rd (kInt .u64) S' w' u4b u4d r.2.2 ∧ r.2.2.length = u4c

def L.z7t (lx0 : Nat) (rx0 : Nat) (u27 : Nat → Value) (u44 : Nat) (u45 : Nat) (u46 : Nat) (u47 : Nat) : (List Int) × (List Int) × (List Int) → ((List Int) × (List Int) × (List Int)) → Prop := fun ⟨u4e, u4f, u4g⟩ r => ∀ S1 w1, Ext S0 w0 S1 w1 → ∀ u3o u3p u3q u3r u48 u49 u4a u4b u4c u4d (_ : Hp nz wz S1 w1 ((some lx0, .obj (lpst 206 (lfr 23 [(5, (pt u44 0)), (7, (pt u45 0)), (12, .func (.func 250) #[] #[(pt u46 0), (pt u47 0)])] u27) #[13, 14] (rfAssign (Q46)) (rfBody (Q46)) rx0 .ready none)) :: (some u44, .row 218 [.func (.func 162) #[] #[]] 1 0) :: (some u45, .row 31 [.slice (Gp u3o) u3p u3q] 1 0) :: (u3o, .row 35 u3r (u3q * (kInt .u64).size) 0) :: (some u46, .row 31 [.slice u48 u49 u4a] 1 0) :: (some u47, .row 31 [.slice u4b u4c u4d] 1 0) :: Lr)) (_ : Els (kInt .u64) S1 w1 u3r u4e) (_ : u4e.length = u3p) (_ : Rd (kInt .u64) S1 w1 u48 u4a u4f) (_ : u4f.length = u49) (_ : Rd (kInt .u64) S1 w1 u4b u4d u4g) (_ : u4g.length = u4c) (junk : Nat → Value),
 Goes Tryz.prog (base 250) J5d ⟨lfr 73 [(0, yieldV lx0), (1, (pt u46 0)), (2, (pt u47 0))] junk, []⟩ w1 (Done Tryz.prog 250 (Rets (Post.z7s nz wz S0 w0 Lr lx0 rx0 u27 u44 u45 u46 u47 r)))

def L.z7u (lx0 : Nat) (rx0 : Nat) (u27 : Nat → Value) (u44 : Nat) (u45 : Nat) (u46 : Nat) (u47 : Nat) : Bool × (List Int) × (List Int) × (List Int) → ((List Int) × (List Int) × (List Int)) → Prop := fun ⟨x13, u4e, u4f, u4g⟩ r => ∀ S1 w1, Ext S0 w0 S1 w1 → ∀ u3o u3p u3q u3r u48 u49 u4a u4b u4c u4d (_ : Hp nz wz S1 w1 ((some lx0, .obj (lpst 206 (lfr 23 [(5, (pt u44 0)), (7, (pt u45 0)), (12, .func (.func 250) #[] #[(pt u46 0), (pt u47 0)])] u27) #[13, 14] (rfAssign (Q46)) (rfBody (Q46)) rx0 .ready none)) :: (some u44, .row 218 [.func (.func 162) #[] #[]] 1 0) :: (some u45, .row 31 [.slice (Gp u3o) u3p u3q] 1 0) :: (u3o, .row 35 u3r (u3q * (kInt .u64).size) 0) :: (some u46, .row 31 [.slice u48 u49 u4a] 1 0) :: (some u47, .row 31 [.slice u4b u4c u4d] 1 0) :: Lr)) (_ : Els (kInt .u64) S1 w1 u3r u4e) (_ : u4e.length = u3p) (_ : Rd (kInt .u64) S1 w1 u48 u4a u4f) (_ : u4f.length = u49) (_ : Rd (kInt .u64) S1 w1 u4b u4d u4g) (_ : u4g.length = u4c) (junk : Nat → Value),
 Goes Tryz.prog (base 250) J5f ⟨lfr 73 [(0, yieldV lx0), (1, (pt u46 0)), (2, (pt u47 0)), (13, .bool x13)] junk, []⟩ w1 (Done Tryz.prog 250 (Rets (Post.z7s nz wz S0 w0 Lr lx0 rx0 u27 u44 u45 u46 u47 r)))

def L.z7v (lx0 : Nat) (rx0 : Nat) (u27 : Nat → Value) (u44 : Nat) (u45 : Nat) (u46 : Nat) (u47 : Nat) : Int × Bool × (List Int) × (List Int) × (List Int) → ((List Int) × (List Int) × (List Int)) → Prop := fun ⟨x4, x30, u4e, u4f, u4g⟩ r => ∀ S1 w1, Ext S0 w0 S1 w1 → ∀ u3o u3p u3q u3r u48 u49 u4a u4b u4c u4d (_ : Hp nz wz S1 w1 ((some lx0, .obj (lpst 206 (lfr 23 [(5, (pt u44 0)), (7, (pt u45 0)), (12, .func (.func 250) #[] #[(pt u46 0), (pt u47 0)])] u27) #[13, 14] (rfAssign (Q46)) (rfBody (Q46)) rx0 .ready none)) :: (some u44, .row 218 [.func (.func 162) #[] #[]] 1 0) :: (some u45, .row 31 [.slice (Gp u3o) u3p u3q] 1 0) :: (u3o, .row 35 u3r (u3q * (kInt .u64).size) 0) :: (some u46, .row 31 [.slice u48 u49 u4a] 1 0) :: (some u47, .row 31 [.slice u4b u4c u4d] 1 0) :: Lr)) (_ : Els (kInt .u64) S1 w1 u3r u4e) (_ : u4e.length = u3p) (_ : Rd (kInt .u64) S1 w1 u48 u4a u4f) (_ : u4f.length = u49) (_ : Rd (kInt .u64) S1 w1 u4b u4d u4g) (_ : u4g.length = u4c) (junk : Nat → Value),
 Goes Tryz.prog (base 250) J5i ⟨lfr 73 [(0, yieldV lx0), (1, (pt u46 0)), (2, (pt u47 0)), (4, .i x4), (30, .bool x30)] junk, []⟩ w1 (Done Tryz.prog 250 (Rets (Post.z7s nz wz S0 w0 Lr lx0 rx0 u27 u44 u45 u46 u47 r)))

def L.z7w (lx0 : Nat) (rx0 : Nat) (u27 : Nat → Value) (u44 : Nat) (u45 : Nat) (u46 : Nat) (u47 : Nat) : Int × (List Int) × (List Int) × (List Int) → ((List Int) × (List Int) × (List Int)) → Prop := fun ⟨x4, u4e, u4f, u4g⟩ r => ∀ S1 w1, Ext S0 w0 S1 w1 → ∀ u3o u3p u3q u3r u48 u49 u4a u4b u4c u4d (_ : Hp nz wz S1 w1 ((some lx0, .obj (lpst 206 (lfr 23 [(5, (pt u44 0)), (7, (pt u45 0)), (12, .func (.func 250) #[] #[(pt u46 0), (pt u47 0)])] u27) #[13, 14] (rfAssign (Q46)) (rfBody (Q46)) rx0 .ready none)) :: (some u44, .row 218 [.func (.func 162) #[] #[]] 1 0) :: (some u45, .row 31 [.slice (Gp u3o) u3p u3q] 1 0) :: (u3o, .row 35 u3r (u3q * (kInt .u64).size) 0) :: (some u46, .row 31 [.slice u48 u49 u4a] 1 0) :: (some u47, .row 31 [.slice u4b u4c u4d] 1 0) :: Lr)) (_ : Els (kInt .u64) S1 w1 u3r u4e) (_ : u4e.length = u3p) (_ : Rd (kInt .u64) S1 w1 u48 u4a u4f) (_ : u4f.length = u49) (_ : Rd (kInt .u64) S1 w1 u4b u4d u4g) (_ : u4g.length = u4c) (junk : Nat → Value),
 Goes Tryz.prog (base 250) J5h ⟨lfr 73 [(0, yieldV lx0), (1, (pt u46 0)), (2, (pt u47 0)), (4, .i x4)] junk, []⟩ w1 (Done Tryz.prog 250 (Rets (Post.z7s nz wz S0 w0 Lr lx0 rx0 u27 u44 u45 u46 u47 r)))

def L.z7x (lx0 : Nat) (rx0 : Nat) (u27 : Nat → Value) (u44 : Nat) (u45 : Nat) (u46 : Nat) (u47 : Nat) : Int × Bool × (List Int) × (List Int) × (List Int) → ((List Int) × (List Int) × (List Int)) → Prop := fun ⟨x4, x49, u4e, u4f, u4g⟩ r => ∀ S1 w1, Ext S0 w0 S1 w1 → ∀ u3o u3p u3q u3r u48 u49 u4a u4b u4c u4d (_ : Hp nz wz S1 w1 ((some lx0, .obj (lpst 206 (lfr 23 [(5, (pt u44 0)), (7, (pt u45 0)), (12, .func (.func 250) #[] #[(pt u46 0), (pt u47 0)])] u27) #[13, 14] (rfAssign (Q46)) (rfBody (Q46)) rx0 .ready none)) :: (some u44, .row 218 [.func (.func 162) #[] #[]] 1 0) :: (some u45, .row 31 [.slice (Gp u3o) u3p u3q] 1 0) :: (u3o, .row 35 u3r (u3q * (kInt .u64).size) 0) :: (some u46, .row 31 [.slice u48 u49 u4a] 1 0) :: (some u47, .row 31 [.slice u4b u4c u4d] 1 0) :: Lr)) (_ : Els (kInt .u64) S1 w1 u3r u4e) (_ : u4e.length = u3p) (_ : Rd (kInt .u64) S1 w1 u48 u4a u4f) (_ : u4f.length = u49) (_ : Rd (kInt .u64) S1 w1 u4b u4d u4g) (_ : u4g.length = u4c) (junk : Nat → Value),
 Goes Tryz.prog (base 250) J5k ⟨lfr 73 [(0, yieldV lx0), (1, (pt u46 0)), (2, (pt u47 0)), (4, .i x4), (49, .bool x49)] junk, []⟩ w1 (Done Tryz.prog 250 (Rets (Post.z7s nz wz S0 w0 Lr lx0 rx0 u27 u44 u45 u46 u47 r)))

def L.z7y (lx0 : Nat) (rx0 : Nat) (u27 : Nat → Value) (u44 : Nat) (u45 : Nat) (u46 : Nat) (u47 : Nat) : Int × (List Int) × (List Int) × (List Int) → ((List Int) × (List Int) × (List Int)) → Prop := fun ⟨x4, u4e, u4f, u4g⟩ r => ∀ S1 w1, Ext S0 w0 S1 w1 → ∀ u3o u3p u3q u3r u48 u49 u4a u4b u4c u4d (_ : Hp nz wz S1 w1 ((some lx0, .obj (lpst 206 (lfr 23 [(5, (pt u44 0)), (7, (pt u45 0)), (12, .func (.func 250) #[] #[(pt u46 0), (pt u47 0)])] u27) #[13, 14] (rfAssign (Q46)) (rfBody (Q46)) rx0 .ready none)) :: (some u44, .row 218 [.func (.func 162) #[] #[]] 1 0) :: (some u45, .row 31 [.slice (Gp u3o) u3p u3q] 1 0) :: (u3o, .row 35 u3r (u3q * (kInt .u64).size) 0) :: (some u46, .row 31 [.slice u48 u49 u4a] 1 0) :: (some u47, .row 31 [.slice u4b u4c u4d] 1 0) :: Lr)) (_ : Els (kInt .u64) S1 w1 u3r u4e) (_ : u4e.length = u3p) (_ : Rd (kInt .u64) S1 w1 u48 u4a u4f) (_ : u4f.length = u49) (_ : Rd (kInt .u64) S1 w1 u4b u4d u4g) (_ : u4g.length = u4c) (junk : Nat → Value),
 Goes Tryz.prog (base 250) J5j ⟨lfr 73 [(0, yieldV lx0), (1, (pt u46 0)), (2, (pt u47 0)), (4, .i x4)] junk, []⟩ w1 (Done Tryz.prog 250 (Rets (Post.z7s nz wz S0 w0 Lr lx0 rx0 u27 u44 u45 u46 u47 r)))

def L.z7z (lx0 : Nat) (rx0 : Nat) (u27 : Nat → Value) (u44 : Nat) (u45 : Nat) (u46 : Nat) (u47 : Nat) : Int × Int × (List Int) × (List Int) × (List Int) → ((List Int) × (List Int) × (List Int)) → Prop := fun ⟨x4, x5, u4e, u4f, u4g⟩ r => ∀ S1 w1, Ext S0 w0 S1 w1 → ∀ u3o u3p u3q u3r u48 u49 u4a u4b u4c u4d (_ : Hp nz wz S1 w1 ((some lx0, .obj (lpst 206 (lfr 23 [(5, (pt u44 0)), (7, (pt u45 0)), (12, .func (.func 250) #[] #[(pt u46 0), (pt u47 0)])] u27) #[13, 14] (rfAssign (Q46)) (rfBody (Q46)) rx0 .ready none)) :: (some u44, .row 218 [.func (.func 162) #[] #[]] 1 0) :: (some u45, .row 31 [.slice (Gp u3o) u3p u3q] 1 0) :: (u3o, .row 35 u3r (u3q * (kInt .u64).size) 0) :: (some u46, .row 31 [.slice u48 u49 u4a] 1 0) :: (some u47, .row 31 [.slice u4b u4c u4d] 1 0) :: Lr)) (_ : Els (kInt .u64) S1 w1 u3r u4e) (_ : u4e.length = u3p) (_ : Rd (kInt .u64) S1 w1 u48 u4a u4f) (_ : u4f.length = u49) (_ : Rd (kInt .u64) S1 w1 u4b u4d u4g) (_ : u4g.length = u4c) (junk : Nat → Value),
 Goes Tryz.prog (base 250) J5l ⟨lfr 73 [(0, yieldV lx0), (1, (pt u46 0)), (2, (pt u47 0)), (4, .i x4), (5, .u x5)] junk, []⟩ w1 (Done Tryz.prog 250 (Rets (Post.z7s nz wz S0 w0 Lr lx0 rx0 u27 u44 u45 u46 u47 r)))

def L.z80 (lx0 : Nat) (rx0 : Nat) (u27 : Nat → Value) (u44 : Nat) (u45 : Nat) (u46 : Nat) (u47 : Nat) : Int × Int × (List Int) × (List Int) × (List Int) → ((List Int) × (List Int) × (List Int)) → Prop := fun ⟨x4, x5, u4e, u4f, u4g⟩ r => ∀ S1 w1, Ext S0 w0 S1 w1 → ∀ u3o u3p u3q u3r u48 u49 u4a u4b u4c u4d (_ : Hp nz wz S1 w1 ((some lx0, .obj (lpst 206 (lfr 23 [(5, (pt u44 0)), (7, (pt u45 0)), (12, .func (.func 250) #[] #[(pt u46 0), (pt u47 0)])] u27) #[13, 14] (rfAssign (Q46)) (rfBody (Q46)) rx0 .ready none)) :: (some u44, .row 218 [.func (.func 162) #[] #[]] 1 0) :: (some u45, .row 31 [.slice (Gp u3o) u3p u3q] 1 0) :: (u3o, .row 35 u3r (u3q * (kInt .u64).size) 0) :: (some u46, .row 31 [.slice u48 u49 u4a] 1 0) :: (some u47, .row 31 [.slice u4b u4c u4d] 1 0) :: Lr)) (_ : Els (kInt .u64) S1 w1 u3r u4e) (_ : u4e.length = u3p) (_ : Rd (kInt .u64) S1 w1 u48 u4a u4f) (_ : u4f.length = u49) (_ : Rd (kInt .u64) S1 w1 u4b u4d u4g) (_ : u4g.length = u4c) (junk : Nat → Value),
 Goes Tryz.prog (base 250) J5m ⟨lfr 73 [(0, yieldV lx0), (1, (pt u46 0)), (2, (pt u47 0)), (4, .i x4), (5, .u x5)] junk, []⟩ w1 (Done Tryz.prog 250 (Rets (Post.z7s nz wz S0 w0 Lr lx0 rx0 u27 u44 u45 u46 u47 r)))

theorem W.z81 {nz wz S0 w0 Lr} (lx0 : Nat) (rx0 : Nat) (u27 : Nat → Value) (u44 : Nat) (u45 : Nat) (u46 : Nat) (u47 : Nat) : (∀ a r, M.a52 a = some r → (L.z7t nz wz S0 w0 Lr lx0 rx0 u27 u44 u45 u46 u47) a r) ∧ (∀ a r, M.a6f a = some r → (L.z7u nz wz S0 w0 Lr lx0 rx0 u27 u44 u45 u46 u47) a r) ∧ (∀ a r, M.a53 a = some r → (L.z7v nz wz S0 w0 Lr lx0 rx0 u27 u44 u45 u46 u47) a r) ∧ (∀ a r, M.a6g a = some r → (L.z7w nz wz S0 w0 Lr lx0 rx0 u27 u44 u45 u46 u47) a r) ∧ (∀ a r, M.a54 a = some r → (L.z7x nz wz S0 w0 Lr lx0 rx0 u27 u44 u45 u46 u47) a r) ∧ (∀ a r, M.a6h a = some r → (L.z7y nz wz S0 w0 Lr lx0 rx0 u27 u44 u45 u46 u47) a r) ∧ (∀ a r, M.a6i a = some r → (L.z7z nz wz S0 w0 Lr lx0 rx0 u27 u44 u45 u46 u47) a r) ∧ (∀ a r, M.a6j a = some r → (L.z80 nz wz S0 w0 Lr lx0 rx0 u27 u44 u45 u46 u47) a r) := by
 refine M.a52.mutual_partial_correctness (L.z7t nz wz S0 w0 Lr lx0 rx0 u27 u44 u45 u46 u47) (L.z7u nz wz S0 w0 Lr lx0 rx0 u27 u44 u45 u46 u47) (L.z7v nz wz S0 w0 Lr lx0 rx0 u27 u44 u45 u46 u47) (L.z7w nz wz S0 w0 Lr lx0 rx0 u27 u44 u45 u46 u47) (L.z7x nz wz S0 w0 Lr lx0 rx0 u27 u44 u45 u46 u47) (L.z7y nz wz S0 w0 Lr lx0 rx0 u27 u44 u45 u46 u47) (L.z7z nz wz S0 w0 Lr lx0 rx0 u27 u44 u45 u46 u47) (L.z80 nz wz S0 w0 Lr lx0 rx0 u27 u44 u45 u46 u47) ?_ ?_ ?_ ?_ ?_ ?_ ?_ ?_
 ·
  intro ux3 ux4 ⟨u4e, u4f, u4g⟩ r h S1 w1 hx u3o u3p u3q u3r u48 u49 u4a u4b u4c u4d p1 u4j u4k u4l u4m u4n u4o junk
  try dsimp only at h
  subst u4k
  subst u4m
  subst u4o
  refine Hn 3 J5n ?_
  refine Hd (p1.e 4 0) ?_
  refine Hn 3 J5o ?_
  refine Hb [(8, .bool (decide ((u4f.length : Int) > 0))), (9, .bool (decide ((u4f.length : Int) > 0)))] ?_
  refine Gi h (fun h8 h => ?_) fun h8 h => ?_
  ·
   rw [dt h8]
   refine Hn 5 J5f ?_
   exact Gk (ux4 _ _ h _ _ hx _ _ _ _ _ _ _ _ _ _ p1 u4j rfl u4l rfl u4n rfl)
  ·
   rw [df h8]
   refine Hd (p1.e 5 0) ?_
   refine Hn 4 J5f ?_
   exact Gk (ux4 _ _ h _ _ hx _ _ _ _ _ _ _ _ _ _ p1 u4j rfl u4l rfl u4n rfl)
 ·
  intro ux5 ux6 ⟨x13, u4e, u4f, u4g⟩ r h S1 w1 hx u3o u3p u3q u3r u48 u49 u4a u4b u4c u4d p1 u4j u4k u4l u4m u4n u4o junk
  try dsimp only at h
  subst u4k
  subst u4m
  subst u4o
  refine Hb [(13, .bool x13)] ?_
  refine Gi h (fun h10 h => ?_) fun h10 h => ?_
  ·
   rw [h10]
   refine Hn 9 J5p ?_
   have z2 : Ext S1 w1 S1 (w1).drew := Ext.draw
   have p2 := p1.draw
   refine Gd [] (Fc S1 (w1).drew [(⟨u47, 0, none⟩, .slice u4b u4g.length u4d), (⟨u46, 0, none⟩, .slice u48 u4f.length u4a)]) 2 17 ?_
   generalize (w1).drew = w2 at z2 p2 ⊢
   refine Hl 0 (Fc.here (p2.cs [(5, 0, 1), (4, 0, 1)])) (fun _ h => h.2.at_ 0 rfl) ?_
   refine Hq [1, 2, 3] 3 (Fc.here (p2.cs [(5, 0, 1), (4, 0, 1)])) ?_
   refine HbA [(16, .bool (decide ((u4g.length : Int) = 0))), (17, .bool (decide ((u4g.length : Int) = 0)))] ?_
   refine Gi h (fun h11 h => ?_) fun h11 h => ?_
   ·
    rw [dt h11]
    refine Hq [4, 5, 6, 7, 8, 9, 10, 11, 12, 13, 14, 15, 16] 13 (Fc.here (p2.cs [(5, 0, 1), (4, 0, 1)])) ?_
    refine Ad ?_
    exact Gk (ux6 _ _ h _ _ (hx.t z2) _ _ _ _ _ _ _ _ _ _ p2 (u4j.ext z2) rfl (u4l.ext z2) rfl (u4n.ext z2) rfl)
   ·
    rw [df h11]
    refine Hl 4 (Fc.here (p2.cs [(5, 0, 1), (4, 0, 1)])) (fun _ h => h.2.at_ 1 rfl) ?_
    refine Hq [5, 6, 7] 3 (Fc.here (p2.cs [(5, 0, 1), (4, 0, 1)])) ?_
    refine HbA [(20, .bool (decide ((u4f.length : Int) > 0))), (21, .bool (decide ((u4f.length : Int) > 0)))] ?_
    refine Gi h (fun h13 h => ?_) fun h13 h => ?_
    ·
     rw [dt h13]
     refine Hl 8 (Fc.here (p2.cs [(5, 0, 1), (4, 0, 1)])) (fun _ h => h.2.at_ 1 rfl) ?_
     refine Gg h fun g14 h => ?_
     refine Hy 9 35 .i64 rfl rfl (u4l.ext z2) (Fc.here (p2.cs [(5, 0, 1), (4, 0, 1)])) (by decide : (0 : Int) ≤ 0) g14 fun a15 _ f16 q17 => ?_
     obtain rfl := q17
     refine Hl 10 (Fc.here (p2.cs [(5, 0, 1), (4, 0, 1)])) (fun _ h => f16.fc h 0 _ rfl) ?_
     refine Hl 11 (Fc.here (p2.cs [(5, 0, 1), (4, 0, 1)])) (fun _ h => h.2.at_ 0 rfl) ?_
     refine Gg h fun g18 h => ?_
     refine Hy 12 35 .i64 rfl rfl (u4n.ext z2) (Fc.here (p2.cs [(5, 0, 1), (4, 0, 1)])) (by decide : (0 : Int) ≤ 0) g18 fun a19 _ f20 q21 => ?_
     obtain rfl := q21
     refine Hl 13 (Fc.here (p2.cs [(5, 0, 1), (4, 0, 1)])) (fun _ h => f20.fc h 0 _ rfl) ?_
     refine Hq [14, 15, 16] 3 (Fc.here (p2.cs [(5, 0, 1), (4, 0, 1)])) ?_
     refine Ad ?_
     exact Gk (ux6 _ _ h _ _ (hx.t z2) _ _ _ _ _ _ _ _ _ _ p2 (u4j.ext z2) rfl (u4l.ext z2) rfl (u4n.ext z2) rfl)
    ·
     rw [df h13]
     refine Hq [8, 9, 10, 11, 12, 13, 14, 15, 16] 9 (Fc.here (p2.cs [(5, 0, 1), (4, 0, 1)])) ?_
     refine Ad ?_
     exact Gk (ux6 _ _ h _ _ (hx.t z2) _ _ _ _ _ _ _ _ _ _ p2 (u4j.ext z2) rfl (u4l.ext z2) rfl (u4n.ext z2) rfl)
  ·
   rw [bf h10]
   refine Hn 2 [] ?_
   obtain rfl := sj h
   exact Goes.end_ (fn := Tryz.f250) (by kernel_rfl) (v := .tuple #[]) (by kernel_rfl) ⟨S1, u3o, u4e.length, u3q, u3r, u48, u4f.length, u4a, u4b, u4g.length, u4d, rfl, hx, p1, u4j, rfl, u4l, rfl, u4n, rfl⟩
 ·
  intro ux7 ux8 ⟨x4, x30, u4e, u4f, u4g⟩ r h S1 w1 hx u3o u3p u3q u3r u48 u49 u4a u4b u4c u4d p1 u4j u4k u4l u4m u4n u4o junk
  try dsimp only at h
  subst u4k
  subst u4m
  subst u4o
  refine Hb [(30, .bool x30)] ?_
  refine Gi h (fun h22 h => ?_) fun h22 h => ?_
  ·
   rw [h22]
   refine Hn 6 J5h ?_
   exact Gk (ux8 _ _ h _ _ hx _ _ _ _ _ _ _ _ _ _ p1 u4j rfl u4l rfl u4n rfl)
  ·
   rw [bf h22]
   refine Hn 2 J5h ?_
   exact Gk (ux8 _ _ h _ _ hx _ _ _ _ _ _ _ _ _ _ p1 u4j rfl u4l rfl u4n rfl)
 ·
  intro ux9 uxa ⟨x4, u4e, u4f, u4g⟩ r h S1 w1 hx u3o u3p u3q u3r u48 u49 u4a u4b u4c u4d p1 u4j u4k u4l u4m u4n u4o junk
  try dsimp only at h
  subst u4k
  subst u4m
  subst u4o
  refine Hn 2 J5q ?_
  have z3 : Ext S1 w1 S1 (w1).drew := Ext.draw
  have p3 := p1.draw
  refine Gd [] (Fc S1 (w1).drew [(⟨u46, 0, none⟩, .slice u48 u4f.length u4a), (⟨u47, 0, none⟩, .slice u4b u4g.length u4d)]) 4 17 ?_
  generalize (w1).drew = w3 at z3 p3 ⊢
  refine Hl 0 (Fc.here (p3.cs [(4, 0, 1), (5, 0, 1)])) (fun _ h => h.2.at_ 0 rfl) ?_
  refine Hq [1, 2, 3] 3 (Fc.here (p3.cs [(4, 0, 1), (5, 0, 1)])) ?_
  refine HbA [(35, .bool (decide ((u4f.length : Int) = 0))), (36, .bool (decide ((u4f.length : Int) = 0)))] ?_
  refine Gi h (fun h24 h => ?_) fun h24 h => ?_
  ·
   rw [dt h24]
   refine Hq [4, 5, 6, 7, 8, 9, 10, 11, 12, 13, 14, 15, 16] 13 (Fc.here (p3.cs [(4, 0, 1), (5, 0, 1)])) ?_
   refine Ad ?_
   exact Gk (uxa _ _ h _ _ (hx.t z3) _ _ _ _ _ _ _ _ _ _ p3 (u4j.ext z3) rfl (u4l.ext z3) rfl (u4n.ext z3) rfl)
  ·
   rw [df h24]
   refine Hl 4 (Fc.here (p3.cs [(4, 0, 1), (5, 0, 1)])) (fun _ h => h.2.at_ 1 rfl) ?_
   refine Hq [5, 6, 7] 3 (Fc.here (p3.cs [(4, 0, 1), (5, 0, 1)])) ?_
   refine HbA [(39, .bool (decide ((u4g.length : Int) > 0))), (40, .bool (decide ((u4g.length : Int) > 0)))] ?_
   refine Gi h (fun h26 h => ?_) fun h26 h => ?_
   ·
    rw [dt h26]
    refine Hl 8 (Fc.here (p3.cs [(4, 0, 1), (5, 0, 1)])) (fun _ h => h.2.at_ 1 rfl) ?_
    refine Gg h fun g27 h => ?_
    refine Hy 9 35 .i64 rfl rfl (u4n.ext z3) (Fc.here (p3.cs [(4, 0, 1), (5, 0, 1)])) (by decide : (0 : Int) ≤ 0) g27 fun a28 _ f29 q30 => ?_
    obtain rfl := q30
    refine Hl 10 (Fc.here (p3.cs [(4, 0, 1), (5, 0, 1)])) (fun _ h => f29.fc h 0 _ rfl) ?_
    refine Hl 11 (Fc.here (p3.cs [(4, 0, 1), (5, 0, 1)])) (fun _ h => h.2.at_ 0 rfl) ?_
    refine Gg h fun g31 h => ?_
    refine Hy 12 35 .i64 rfl rfl (u4l.ext z3) (Fc.here (p3.cs [(4, 0, 1), (5, 0, 1)])) (by decide : (0 : Int) ≤ 0) g31 fun a32 _ f33 q34 => ?_
    obtain rfl := q34
    refine Hl 13 (Fc.here (p3.cs [(4, 0, 1), (5, 0, 1)])) (fun _ h => f33.fc h 0 _ rfl) ?_
    refine Hq [14, 15, 16] 3 (Fc.here (p3.cs [(4, 0, 1), (5, 0, 1)])) ?_
    refine Ad ?_
    exact Gk (uxa _ _ h _ _ (hx.t z3) _ _ _ _ _ _ _ _ _ _ p3 (u4j.ext z3) rfl (u4l.ext z3) rfl (u4n.ext z3) rfl)
   ·
    rw [df h26]
    refine Hq [8, 9, 10, 11, 12, 13, 14, 15, 16] 9 (Fc.here (p3.cs [(4, 0, 1), (5, 0, 1)])) ?_
    refine Ad ?_
    exact Gk (uxa _ _ h _ _ (hx.t z3) _ _ _ _ _ _ _ _ _ _ p3 (u4j.ext z3) rfl (u4l.ext z3) rfl (u4n.ext z3) rfl)
 ·
  intro uxb uxc ⟨x4, x49, u4e, u4f, u4g⟩ r h S1 w1 hx u3o u3p u3q u3r u48 u49 u4a u4b u4c u4d p1 u4j u4k u4l u4m u4n u4o junk
  try dsimp only at h
  subst u4k
  subst u4m
  subst u4o
  refine Hb [(49, .bool x49)] ?_
  refine Gi h (fun h35 h => ?_) fun h35 h => ?_
  ·
   rw [h35]
   refine Hn 6 J5j ?_
   exact Gk (uxc _ _ h _ _ hx _ _ _ _ _ _ _ _ _ _ p1 u4j rfl u4l rfl u4n rfl)
  ·
   rw [bf h35]
   refine Hn 2 J5j ?_
   exact Gk (uxc _ _ h _ _ hx _ _ _ _ _ _ _ _ _ _ p1 u4j rfl u4l rfl u4n rfl)
 ·
  intro uxd uxe ⟨x4, u4e, u4f, u4g⟩ r h S1 w1 hx u3o u3p u3q u3r u48 u49 u4a u4b u4c u4d p1 u4j u4k u4l u4m u4n u4o junk
  try dsimp only at h
  subst u4k
  subst u4m
  subst u4o
  refine Hn 11 J5r ?_
  refine Hb [(54, .bool (!(decide (iand .i64 x4 2 = 0))))] ?_
  refine Gi h (fun h37 h => ?_) fun h37 h => ?_
  ·
   rw [dt h37]
   refine Hn 2 J5l ?_
   exact Gk (uxe _ _ h _ _ hx _ _ _ _ _ _ _ _ _ _ p1 u4j rfl u4l rfl u4n rfl)
  ·
   rw [df h37]
   refine Hn 1 J5s ?_
   have z4 : Ext S1 w1 S1 (w1).drew := Ext.draw
   have p4 := p1.draw
   refine Gd [6] (Fc S1 (w1).drew [(⟨u47, 0, none⟩, .slice u4b u4g.length u4d)]) 8 7 ?_
   generalize (w1).drew = w4 at z4 p4 ⊢
   refine Hl 0 (Fc.here (p4.cs [(5, 0, 1)])) (fun _ h => h.2.at_ 0 rfl) ?_
   refine Gg h fun g39 h => ?_
   refine Hy 1 35 .i64 rfl rfl (u4n.ext z4) (Fc.here (p4.cs [(5, 0, 1)])) (by decide : (0 : Int) ≤ 0) g39 fun a40 _ f41 q42 => ?_
   obtain rfl := q42
   refine Hl 2 (Fc.here (p4.cs [(5, 0, 1)])) (fun _ h => f41.fc h 0 _ rfl) ?_
   refine Hl 3 (Fc.here (p4.cs [(5, 0, 1)])) (fun _ h => h.2.at_ 0 rfl) ?_
   refine Gg h fun g43 h => ?_
   refine AnyG.slR_n (i := 4) 31 (.tmp 58) (some (.const (.int .i64 1))) none 59 31 35 1 (u4g.length : Int) (sl u4g 1 (u4g.length : Int)) rfl rfl (u4n.ext z4) (by kernel_rfl) (by kernel_rfl) (Fc.here (p4.cs [(5, 0, 1)])) (by kernel_rfl) (by kernel_rfl) (by kernel_rfl) (Bnd.at_ .i64 (by kernel_rfl)) Bnd.no (by decide : (0 : Int) ≤ 1) g43 (Int.le_refl _) fun A44 c45 f46 => ?_
   refine Hq [5] 1 (Fc.here (p4.cs [(5, 0, 1)])) ?_
   refine So 31 (.tmp 2) (.tmp 59) 0 5 u47 0 (.slice A44 ((sl u4g 1 (u4g.length : Int)).length) c45) [.slice A44 ((sl u4g 1 (u4g.length : Int)).length) c45] p4 rfl (As 6) fun w5 z5 p5 => ?_
   refine AnyG.last [] (Fc S1 w5 []) (by decide) ?_
   refine Ad ?_
   exact Gk (uxe _ _ h _ _ ((hx.t z4).t z5) _ _ _ _ _ _ _ _ _ _ p5 (u4j.ext (z4.t z5)) rfl (u4l.ext (z4.t z5)) rfl (f46.ext z5) rfl)
 ·
  intro uxf uxg ⟨x4, x5, u4e, u4f, u4g⟩ r h S1 w1 hx u3o u3p u3q u3r u48 u49 u4a u4b u4c u4d p1 u4j u4k u4l u4m u4n u4o junk
  try dsimp only at h
  subst u4k
  subst u4m
  subst u4o
  refine Hn 7 J5t ?_
  refine Hb [(62, .bool (!(decide (iand .i64 x4 1 = 0))))] ?_
  refine Gi h (fun h47 h => ?_) fun h47 h => ?_
  ·
   rw [dt h47]
   refine Hn 2 J5m ?_
   exact Gk (uxg _ _ h _ _ hx _ _ _ _ _ _ _ _ _ _ p1 u4j rfl u4l rfl u4n rfl)
  ·
   rw [df h47]
   refine Hn 1 J5u ?_
   have z6 : Ext S1 w1 S1 (w1).drew := Ext.draw
   have p6 := p1.draw
   refine Gd [6] (Fc S1 (w1).drew [(⟨u46, 0, none⟩, .slice u48 u4f.length u4a)]) 10 7 ?_
   generalize (w1).drew = w6 at z6 p6 ⊢
   refine Hl 0 (Fc.here (p6.cs [(4, 0, 1)])) (fun _ h => h.2.at_ 0 rfl) ?_
   refine Gg h fun g49 h => ?_
   refine Hy 1 35 .i64 rfl rfl (u4l.ext z6) (Fc.here (p6.cs [(4, 0, 1)])) (by decide : (0 : Int) ≤ 0) g49 fun a50 _ f51 q52 => ?_
   obtain rfl := q52
   refine Hl 2 (Fc.here (p6.cs [(4, 0, 1)])) (fun _ h => f51.fc h 0 _ rfl) ?_
   refine Hl 3 (Fc.here (p6.cs [(4, 0, 1)])) (fun _ h => h.2.at_ 0 rfl) ?_
   refine Gg h fun g53 h => ?_
   refine AnyG.slR_n (i := 4) 31 (.tmp 66) (some (.const (.int .i64 1))) none 67 31 35 1 (u4f.length : Int) (sl u4f 1 (u4f.length : Int)) rfl rfl (u4l.ext z6) (by kernel_rfl) (by kernel_rfl) (Fc.here (p6.cs [(4, 0, 1)])) (by kernel_rfl) (by kernel_rfl) (by kernel_rfl) (Bnd.at_ .i64 (by kernel_rfl)) Bnd.no (by decide : (0 : Int) ≤ 1) g53 (Int.le_refl _) fun A54 c55 f56 => ?_
   refine Hq [5] 1 (Fc.here (p6.cs [(4, 0, 1)])) ?_
   refine So 31 (.tmp 1) (.tmp 67) 0 4 u46 0 (.slice A54 ((sl u4f 1 (u4f.length : Int)).length) c55) [.slice A54 ((sl u4f 1 (u4f.length : Int)).length) c55] p6 rfl (As 6) fun w7 z7 p7 => ?_
   refine AnyG.last [] (Fc S1 w7 []) (by decide) ?_
   refine Ad ?_
   exact Gk (uxg _ _ h _ _ ((hx.t z6).t z7) _ _ _ _ _ _ _ _ _ _ p7 (u4j.ext (z6.t z7)) rfl (f56.ext z7) rfl (u4n.ext (z6.t z7)) rfl)
 ·
  intro uxh uxi ⟨x4, x5, u4e, u4f, u4g⟩ r h S1 w1 hx u3o u3p u3q u3r u48 u49 u4a u4b u4c u4d p1 u4j u4k u4l u4m u4n u4o junk
  try dsimp only at h
  subst u4k
  subst u4m
  subst u4o
  refine Hn 5 J5w ?_
  refine Gb h fun y57 e58 h => ?_
  refine Goes.yieldAt (.call { callee := .value (.tmp 68), args := #[(.tmp 69), (.tmp 70)], argTypes := #[35, 3] }) 71 4 0 lx0 #[.u x5, .i x4] p1 rfl (by kernel_rfl) rfl (fun _ => by kernel_rfl) rfl (W.z7r u4e u4f u4g x5 x4 y57 e58 _ _ _ _ _ _ _ _ _ _ _ _ _ _ _ _ _ p1 u4j rfl u4l rfl u4n rfl) ?_
  rintro _ w8 ⟨S8, u56, u57, u58, u59, rfl, z8, p8, u5a, rfl⟩
  refine Hn 6 J5d ?_
  exact Gk (uxi _ _ h _ _ (hx.t z8) _ _ _ _ _ _ _ _ _ _ p8 u5a rfl (u4l.ext z8) rfl (u4n.ext z8) rfl)

theorem W.z7t {nz wz S0 w0 Lr} (lx0 : Nat) (rx0 : Nat) (u27 : Nat → Value) (u44 : Nat) (u45 : Nat) (u46 : Nat) (u47 : Nat) : ∀ a r, M.a52 a = some r → (L.z7t nz wz S0 w0 Lr lx0 rx0 u27 u44 u45 u46 u47) a r := (W.z81 lx0 rx0 u27 u44 u45 u46 u47).1

theorem W.z7u {nz wz S0 w0 Lr} (lx0 : Nat) (rx0 : Nat) (u27 : Nat → Value) (u44 : Nat) (u45 : Nat) (u46 : Nat) (u47 : Nat) : ∀ a r, M.a6f a = some r → (L.z7u nz wz S0 w0 Lr lx0 rx0 u27 u44 u45 u46 u47) a r := (W.z81 lx0 rx0 u27 u44 u45 u46 u47).2.1

theorem W.z7v {nz wz S0 w0 Lr} (lx0 : Nat) (rx0 : Nat) (u27 : Nat → Value) (u44 : Nat) (u45 : Nat) (u46 : Nat) (u47 : Nat) : ∀ a r, M.a53 a = some r → (L.z7v nz wz S0 w0 Lr lx0 rx0 u27 u44 u45 u46 u47) a r := (W.z81 lx0 rx0 u27 u44 u45 u46 u47).2.2.1

theorem W.z7w {nz wz S0 w0 Lr} (lx0 : Nat) (rx0 : Nat) (u27 : Nat → Value) (u44 : Nat) (u45 : Nat) (u46 : Nat) (u47 : Nat) : ∀ a r, M.a6g a = some r → (L.z7w nz wz S0 w0 Lr lx0 rx0 u27 u44 u45 u46 u47) a r := (W.z81 lx0 rx0 u27 u44 u45 u46 u47).2.2.2.1

theorem W.z7x {nz wz S0 w0 Lr} (lx0 : Nat) (rx0 : Nat) (u27 : Nat → Value) (u44 : Nat) (u45 : Nat) (u46 : Nat) (u47 : Nat) : ∀ a r, M.a54 a = some r → (L.z7x nz wz S0 w0 Lr lx0 rx0 u27 u44 u45 u46 u47) a r := (W.z81 lx0 rx0 u27 u44 u45 u46 u47).2.2.2.2.1

theorem W.z7y {nz wz S0 w0 Lr} (lx0 : Nat) (rx0 : Nat) (u27 : Nat → Value) (u44 : Nat) (u45 : Nat) (u46 : Nat) (u47 : Nat) : ∀ a r, M.a6h a = some r → (L.z7y nz wz S0 w0 Lr lx0 rx0 u27 u44 u45 u46 u47) a r := (W.z81 lx0 rx0 u27 u44 u45 u46 u47).2.2.2.2.2.1

theorem W.z7z {nz wz S0 w0 Lr} (lx0 : Nat) (rx0 : Nat) (u27 : Nat → Value) (u44 : Nat) (u45 : Nat) (u46 : Nat) (u47 : Nat) : ∀ a r, M.a6i a = some r → (L.z7z nz wz S0 w0 Lr lx0 rx0 u27 u44 u45 u46 u47) a r := (W.z81 lx0 rx0 u27 u44 u45 u46 u47).2.2.2.2.2.2.1

theorem W.z80 {nz wz S0 w0 Lr} (lx0 : Nat) (rx0 : Nat) (u27 : Nat → Value) (u44 : Nat) (u45 : Nat) (u46 : Nat) (u47 : Nat) : ∀ a r, M.a6j a = some r → (L.z80 nz wz S0 w0 Lr lx0 rx0 u27 u44 u45 u46 u47) a r := (W.z81 lx0 rx0 u27 u44 u45 u46 u47).2.2.2.2.2.2.2

theorem W.z7s (u5b : List Int) (u5c : List Int) (u5d : List Int) (r : (List Int) × (List Int) × (List Int)) (h : M.a87 u5b u5c u5d = some r) {nz wz S0 w0 Lr} (lx0 rx0 u27 u44 u45 u5e u5f u5g u5h u46 u5i u5j u5k u47 u5l u5m u5n) (p0 : Hp nz wz S0 w0 ((some lx0, .obj (lpst 206 (lfr 23 [(5, (pt u44 0)), (7, (pt u45 0)), (12, .func (.func 250) #[] #[(pt u46 0), (pt u47 0)])] u27) #[13, 14] (rfAssign (Q46)) (rfBody (Q46)) rx0 .ready none)) :: (some u44, .row 218 [.func (.func 162) #[] #[]] 1 0) :: (some u45, .row 31 [.slice (Gp u5e) u5f u5g] 1 0) :: (u5e, .row 35 u5h (u5g * (kInt .u64).size) 0) :: (some u46, .row 31 [.slice u5i u5j u5k] 1 0) :: (some u47, .row 31 [.slice u5l u5m u5n] 1 0) :: Lr)) (u5o : Els (kInt .u64) S0 w0 u5h u5b) (u5p : u5b.length = u5f) (u5q : Rd (kInt .u64) S0 w0 u5i u5k u5c) (u5r : u5c.length = u5j) (u5s : Rd (kInt .u64) S0 w0 u5l u5n u5d) (u5t : u5d.length = u5m) :
  Calls Tryz.prog 250 #[yieldV lx0, (pt u46 0), (pt u47 0)] w0 (Rets (Post.z7s nz wz S0 w0 Lr lx0 rx0 u27 u44 u45 u46 u47 r)) := by
 subst u5p
 subst u5r
 subst u5t
 refine Zf Tryz.f250 B250 70 ?_
 refine Gj 73 [(0, yieldV lx0), (1, (pt u46 0)), (2, (pt u47 0))] fun junk => ?_
 delta M.a87 at h
 refine Hn 2 J5d ?_
 exact Gk (W.z7t lx0 rx0 u27 u44 u45 u46 u47 _ _ h _ _ (Ext.refl S0 w0) _ _ _ _ _ _ _ _ _ _ p0 u5o rfl u5q rfl u5s rfl)

def Post.z82 (r : List Int) (v : Value) (w' : World) : Prop :=
 ∃ S' Gq nq cq csq, v = .slice (Gp Gq) nq cq ∧ Ext S0 w0 S' w' ∧ Hp nz wz S' w' ((Gq, .row 35 csq (cq * (kInt .u64).size) 0) :: Lr) ∧ Els (kInt .u64) S' w' csq r ∧ r.length = nq

theorem W.z82 (x0 : List Int) (x1 : List Int) (r : List Int) (h : M.a88 x0 x1 = some r) {nz wz S0 w0 Lr} (Ax0 nx0 cx0 Ax1 nx1 cx1) (p0 : Hp nz wz S0 w0 (Lr)) (fx0 : Rd (kInt .u64) S0 w0 Ax0 cx0 x0) (lx0 : x0.length = nx0) (fx1 : Rd (kInt .u64) S0 w0 Ax1 cx1 x1) (lx1 : x1.length = nx1) :
  Calls Tryz.prog 206 #[.slice Ax0 nx0 cx0, .slice Ax1 nx1 cx1, .func (.func 162) #[] #[]] w0 (Rets (Post.z82 nz wz S0 w0 Lr r)) := by
 subst lx0
 subst lx1
 refine Zf Tryz.f206 B206 20 ?_
 refine Gj 23 [(0, .slice Ax0 x0.length cx0), (1, .slice Ax1 x1.length cx1), (2, .func (.func 162) #[] #[])] fun junk => ?_
 delta M.a88 at h
 refine Hn 2 J5y ?_
 refine Ob 218 (.tmp 2) 5 0 (.func (.func 162) #[] #[]) [.func (.func 162) #[] #[]] p0 Goes.v fun b1 w2 z2 p2 => ?_
 refine Hn 4 J60 ?_
 refine Oa 31 7 0 (.slice none 0 0) [.slice none 0 0] p2 Goes.v fun b3 w3 z3 p3 => ?_
 refine Hn 6 J63 ?_
 refine Gb h fun y5 e6 h => ?_
 refine Gc (kc 238 [10, 11] #[31, 31]) 12 279 238 _ (W.z10 x0 x1 y5 e6 _ _ _ _ _ _ p3 (fx0.ext (z2.t z3)) rfl (fx1.ext (z2.t z3)) rfl) ?_
 rintro _ w4 ⟨S4, u5u, u5v, u5w, u5x, u5y, u5z, u60, u61, rfl, z4, p4, u62, rfl, u63, rfl⟩
 refine Hn 2 J65 ?_
 refine Gj 23 [(5, (pt b1 0)), (7, (pt b3 0)), (12, .func (.func 250) #[] #[(pt u5u 0), (pt u5y 0)])] (fun u64 => ?_)
 refine Goes.rangeF (f := 206) (.tmp 12) #[13, 14] 250 #[] #[(pt u5u 0), (pt u5y 0)] (by kernel_rfl) (by kernel_rfl) (fun _ => by kernel_rfl) p4 fun r10 l11 w5 z5 p5 => ?_
 have p5 : Hp nz wz S4 w5 ((none, .row 35 [] (0 * (kInt .u64).size) 0) :: (some l11, .obj (lpst 206 (lfr 23 [(5, (pt b1 0)), (7, (pt b3 0)), (12, .func (.func 250) #[] #[(pt u5u 0), (pt u5y 0)])] u64) #[13, 14] (rfAssign (Q46)) (rfBody (Q46)) r10 .ready none)) :: (some r10, .obj (.deferred (some []))) :: (some u5u, .row 31 [.slice u5v y5.1.length u5x] 1 0) :: (some u5y, .row 31 [.slice u5z y5.2.length u61] 1 0) :: (some b3, .row 31 [.slice none 0 0] 1 0) :: (some b1, .row 218 [.func (.func 162) #[] #[]] 1 0) :: Lr) := p5.nilRow' 35
 have p5 := (((((p5.fr 4).fr 4).fr 2).fr 5).fr 6).fr 5
 refine Gb h fun y15 e16 h => ?_
 refine ⟨_, W.z7s ([] : List Int) y5.1 y5.2 y15 e16 _ _ _ _ _ none 0 0 [] _ _ _ _ _ _ _ _ p5 (Els.nil (K := (kInt .u64))) rfl (u62.ext z5) rfl (u63.ext z5) rfl, ?_⟩
 rintro _ w6 ⟨S6, u65, u66, u67, u68, u69, u6a, u6b, u6c, u6d, u6e, rfl, z6, p6, u6f, rfl, u6g, rfl, u6h, rfl⟩
 refine Goes.endF 0 p6 rfl rfl fun w7 z7 p7 => ?_
 replace p7 : Hp nz wz S6 w7 ((some b1, .row 218 [.func (.func 162) #[] #[]] 1 0) :: (some b3, .row 31 [.slice (Gp u65) y15.1.length u67] 1 0) :: (u65, .row 35 u68 (u67 * (kInt .u64).size) 0) :: (some u5u, .row 31 [.slice u69 y15.2.1.length u6b] 1 0) :: (some u5y, .row 31 [.slice u6c y15.2.2.length u6e] 1 0) :: (some r10, .obj (.deferred (some []))) :: Lr) := (p7.front 0 _ rfl).drop
 show Goes _ _ J64 _ _ _
 refine Hn 3 J67 ?_
 refine Hd (p7.e 1 0) ?_
 refine Hn 2 J66 ?_
 obtain rfl := sj h
 have p7 := (((p7.dp 0).dp 0).dp 1).dp 1
 have p7 := p7.fr 1
 refine Goes.retL ?_
 refine lvs_mark 0 rfl rfl p7 rfl fun w8 z8 p8 => ?_
 replace p8 : Hp nz wz S6 w8 ((u65, .row 35 u68 (u67 * (kInt .u64).size) 0) :: Lr) := p8.drop
 exact lvs_done (fn := Tryz.f206) rfl rfl rfl rfl (by kernel_rfl) (v := .slice (Gp u65) y15.1.length u67) (by kernel_rfl) ⟨S6, u65, y15.1.length, u67, u68, rfl, ((((((z2.t z3).t z4).t z5).t z6).t z7).t z8), p8, (u6f.ext (z7.t z8)), rfl⟩

def Post.z83 (r : (List Int) × Int) (v : Value) (w' : World) : Prop :=
 ∃ S' uq ur ut uu, v = .tuple #[.slice (Gp uq) ur ut, .i r.2] ∧ Ext S0 w0 S' w' ∧ Hp nz wz S' w' ((uq, .row 35 uu (ut * (kInt .u64).size) 0) :: Lr) ∧ Els (kInt .u64) S' w' uu r.1 ∧ r.1.length = ur

def L.z84 : (List Int) × (List (List Int)) × Int × Int → ((List Int) × Int) → Prop := fun ⟨x9, x35, x36, x37⟩ r => ∀ S1 w1, Ext S0 w0 S1 w1 → ∀ Gx9 nx9 cx9 u6i u6j u6k u6l (_ : Hp nz wz S1 w1 ((Gx9, .row 35 u6i (cx9 * (kInt .u64).size) 0) :: Lr)) (_ : Els (kInt .u64) S1 w1 u6i x9) (_ : x9.length = nx9) (_ : Rd (kSl (kInt .u64)) S1 w1 u6j u6l x35) (_ : x35.length = u6k) (junk : Nat → Value),
 Goes Tryz.prog (base 161) J6b ⟨lfr 47 [(1, .func (.func 162) #[] #[]), (9, .slice (Gp Gx9) nx9 cx9), (35, .slice u6j u6k u6l), (36, .i x36), (37, .i x37)] junk, []⟩ w1 (Done Tryz.prog 161 (Rets (Post.z83 nz wz S0 w0 Lr r)))

theorem W.z84 {nz wz S0 w0 Lr} : ∀ a r, M.a6k a = some r → (L.z84 nz wz S0 w0 Lr) a r := by
 refine M.a6k.partial_correctness (motive := (L.z84 nz wz S0 w0 Lr)) ?_
 intro uxj uxk ⟨x9, x35, x36, x37⟩ r h S1 w1 hx Gx9 nx9 cx9 u6i u6j u6k u6l p1 fx9 lx9 u6o u6p junk
 try dsimp only at h
 subst lx9
 subst u6p
 refine Hn 5 J6d ?_
 refine Hb [(38, .bool (decide (x37 < x36)))] ?_
 refine Gi h (fun h33 h => ?_) fun h33 h => ?_
 ·
  rw [dt h33]
  refine Hn 6 J6h ?_
  refine Gg h fun g34 h => ?_
  refine Gg h fun g35 h => ?_
  refine Oi 217 (.tmp 35) (.tmp 37) 39 0 31 .i64 x37 (gi x35 x37) rfl rfl u6o Goes.v g34 g35 fun a36 _ f37 q38 => ?_
  obtain ⟨A39, c40, rfl, f41⟩ := q38
  refine Hd (f37.cell 0 _ rfl) ?_
  refine Hn 6 J6i ?_
  obtain ⟨S4, z4, p4, f42⟩ := p1.freezeRd 0 rfl fx9 (by decide)
  refine Gb h fun y43 e44 h => ?_
  refine Gc (kc 206 [41, 42, 43] #[31, 31, 218]) 44 31 206 _ (W.z82 x9 (gi x35 x37) y43 e44 _ _ _ _ _ _ p4 f42 rfl (f41.ext z4) rfl) ?_
  rintro _ w5 ⟨S5, u6q, u6r, u6s, u6t, rfl, z5, p5, u1p, rfl⟩
  have p5 := p5.dp 1
  refine Hn 8 J6b ?_
  exact Gk (uxk _ _ h _ _ ((hx.t z4).t z5) _ _ _ _ _ _ _ p5 u1p rfl (u6o.ext (z4.t z5)) rfl)
 ·
  rw [df h33]
  refine Hn 8 J6j ?_
  obtain rfl := sj h
  exact Hr Tryz.f161 ⟨_, _, _, _, _, rfl, hx, p1, fx9, rfl⟩

def L.z85 : (List (List Int)) × (List (List Int)) × Int × Int → ((List Int) × Int) → Prop := fun ⟨x0, x15, x16, x17⟩ r => ∀ S1 w1, Ext S0 w0 S1 w1 → ∀ Ax0 nx0 cx0 u6u u6v u6w (_ : Hp nz wz S1 w1 (Lr)) (_ : Rd (kSl (kInt .u64)) S1 w1 Ax0 cx0 x0) (_ : x0.length = nx0) (_ : Rd (kSl (kInt .u64)) S1 w1 u6u u6w x15) (_ : x15.length = u6v) (junk : Nat → Value),
 Goes Tryz.prog (base 161) J6n ⟨lfr 47 [(0, .slice Ax0 nx0 cx0), (1, .func (.func 162) #[] #[]), (15, .slice u6u u6v u6w), (16, .i x16), (17, .i x17)] junk, []⟩ w1 (Done Tryz.prog 161 (Rets (Post.z83 nz wz S0 w0 Lr r)))

theorem W.z85 {nz wz S0 w0 Lr} : ∀ a r, M.a6l a = some r → (L.z85 nz wz S0 w0 Lr) a r := by
 refine M.a6l.partial_correctness (motive := (L.z85 nz wz S0 w0 Lr)) ?_
 intro uxl uxm ⟨x0, x15, x16, x17⟩ r h S1 w1 hx Ax0 nx0 cx0 u6u u6v u6w p1 fx0 lx0 u6z u70 junk
 try dsimp only at h
 subst lx0
 subst u70
 refine Hn 5 J6p ?_
 refine Hb [(18, .bool (decide (x17 < x16)))] ?_
 refine Gi h (fun h3 h => ?_) fun h3 h => ?_
 ·
  rw [dt h3]
  refine Hn 6 J6t ?_
  refine Gg h fun g4 h => ?_
  refine Gg h fun g5 h => ?_
  refine Oi 217 (.tmp 15) (.tmp 17) 19 0 31 .i64 x17 (gi x15 x17) rfl rfl u6z Goes.v g4 g5 fun a6 _ f7 q8 => ?_
  obtain ⟨A9, c10, rfl, f11⟩ := q8
  refine Hd (f7.cell 0 _ rfl) ?_
  refine Hn 5 J6v ?_
  refine Gb h fun y12 e13 h => ?_
  refine Gc (kc 187 [21] #[31]) 22 39 187 _ (W.zy (gi x15 x17) y12 e13 _ _ _ p1 f11 rfl) ?_
  rintro _ w2 ⟨S2, rfl, z2, p2⟩
  refine Hn 7 J6w ?_
  refine Hb [(24, .bool (!(decide (y12 = 0))))] ?_
  refine Gi h (fun h14 h => ?_) fun h14 h => ?_
  ·
   rw [dt h14]
   refine Hn 8 J6n ?_
   exact Gk (uxm _ _ h _ _ (hx.t z2) _ _ _ _ _ _ p2 (fx0.ext z2) rfl (u6z.ext z2) rfl)
  ·
   rw [df h14]
   refine Hn 7 J6x ?_
   have p2 : Hp nz wz S2 w2 ((none, .row 35 [] (0 * (kInt .u64).size) 0) :: Lr) := p2.nilRow' 35
   obtain rfl := sj h
   exact Hr Tryz.f161 ⟨_, _, _, _, _, rfl, (hx.t z2), p2, (Els.nil (K := (kInt .u64))), rfl⟩
 ·
  rw [df h3]
  refine Hn 9 J6z ?_
  refine Hb [(29, .bool (decide ((x0.length : Int) = 0)))] ?_
  refine Gi h (fun h16 h => ?_) fun h16 h => ?_
  ·
   rw [dt h16]
   refine Hn 6 J70 ?_
   have p1 : Hp nz wz S1 w1 ((none, .row 35 [] (0 * (kInt .u64).size) 0) :: Lr) := p1.nilRow' 35
   obtain rfl := sj h
   exact Hr Tryz.f161 ⟨_, _, _, _, _, rfl, hx, p1, (Els.nil (K := (kInt .u64))), rfl⟩
  ·
   rw [df h16]
   refine Hn 5 J72 ?_
   refine Gg h fun g18 h => ?_
   refine Oi 217 (.tmp 30) (.const (.int .i64 0)) 31 0 31 .i64 0 (gi x0 0) rfl rfl fx0 Goes.v (by decide : (0 : Int) ≤ 0) g18 fun a19 _ f20 q21 => ?_
   obtain ⟨A22, c23, rfl, f24⟩ := q21
   refine Hd (f20.cell 0 _ rfl) ?_
   refine Gb h fun y25 e26 h => ?_
   refine Gc (kc 97 [32] #[31]) 33 31 97 _ (W.zz (gi x0 0) y25 e26 _ _ _ p1 f24 rfl) ?_
   rintro _ w3 ⟨S3, u1d, u1e, u1f, u1g, rfl, z3, p3, u1h, rfl⟩
   refine Hn 6 J74 ?_
   refine Gg h fun g28 h => ?_
   refine Op_.slR_n 217 (.tmp 34) (some (.const (.int .i64 1))) none 35 217 31 1 (x0.length : Int) (sl x0 1 (x0.length : Int)) rfl rfl (fx0.ext z3) Goes.v (by kernel_rfl) (by kernel_rfl) (by kernel_rfl) (Bnd.at_ .i64 (by kernel_rfl)) Bnd.no (by decide : (0 : Int) ≤ 1) g28 (Int.le_refl _) fun A29 c30 f31 => ?_
   refine Hn 5 J6b ?_
   exact Gk (W.z84 _ _ h _ _ (hx.t z3) _ _ _ _ _ _ _ p3 u1h rfl f31 rfl)

theorem W.z83 (x0 : List (List Int)) (r : (List Int) × Int) (h : M.a89 x0 = some r) {nz wz S0 w0 Lr} (Ax0 nx0 cx0) (p0 : Hp nz wz S0 w0 (Lr)) (fx0 : Rd (kSl (kInt .u64)) S0 w0 Ax0 cx0 x0) (lx0 : x0.length = nx0) :
  Calls Tryz.prog 161 #[.slice Ax0 nx0 cx0, .func (.func 162) #[] #[]] w0 (Rets (Post.z83 nz wz S0 w0 Lr r)) := by
 subst lx0
 refine Zf Tryz.f161 B161 45 ?_
 refine Gj 47 [(0, .slice Ax0 x0.length cx0), (1, .func (.func 162) #[] #[])] fun junk => ?_
 delta M.a89 at h
 refine Hn 12 J76 ?_
 refine Hb [(14, .bool (decide ((x0.length : Int) > 4096)))] ?_
 refine Gi h (fun h1 h => ?_) fun h1 h => ?_
 ·
  rw [dt h1]
  refine Hn 6 J77 ?_
  have p0 : Hp nz wz S0 w0 ((none, .row 35 [] (0 * (kInt .u64).size) 0) :: Lr) := p0.nilRow' 35
  obtain rfl := sj h
  exact Hr Tryz.f161 ⟨_, _, _, _, _, rfl, (Ext.refl S0 w0), p0, (Els.nil (K := (kInt .u64))), rfl⟩
 ·
  rw [df h1]
  refine Hn 11 J6n ?_
  exact Gk (W.z85 _ _ h _ _ (Ext.refl S0 w0) _ _ _ _ _ _ p0 fx0 rfl fx0 rfl)

def Jtn := Ys 111 B101 []

def Post.z86 (r : (List Int) × Int) (v : Value) (w' : World) : Prop :=
 ∃ S' uq ur ut uu, v = .tuple #[.slice (Gp uq) ur ut, .i r.2] ∧ Ext S0 w0 S' w' ∧ Hp nz wz S' w' ((uq, .row 35 uu (ut * (kInt .u64).size) 0) :: Lr) ∧ Els (kInt .u64) S' w' uu r.1 ∧ r.1.length = ur

theorem W.z86 (x0 : List Int) (x1 : List Int) (r : (List Int) × Int) (h : M.a8a x0 x1 = some r) {nz wz S0 w0 Lr} (Ax0 nx0 cx0 Ax1 nx1 cx1) (p0 : Hp nz wz S0 w0 (Lr)) (fx0 : Rd (kInt .u64) S0 w0 Ax0 cx0 x0) (lx0 : x0.length = nx0) (fx1 : Rd (kInt .u64) S0 w0 Ax1 cx1 x1) (lx1 : x1.length = nx1) :
  Calls Tryz.prog 101 #[.slice Ax0 nx0 cx0, .slice Ax1 nx1 cx1] w0 (Rets (Post.z86 nz wz S0 w0 Lr r)) := by
 subst lx0
 subst lx1
 refine Zf Tryz.f101 B101 10 ?_
 refine Gj 12 [(0, .slice Ax0 x0.length cx0), (1, .slice Ax1 x1.length cx1)] fun junk => ?_
 delta M.a8a at h
 refine Hn 9 (Yt 110 B101 [2, 3, 4, 5, 6, 7] Jtn) ?_
 have f2 : Els (kSl (kInt .u64)) S0 w0 ([.slice Ax0 x0.length cx0, .slice Ax1 x1.length cx1] : List Value) [x0, x1] := by exact (Els.cons (K := (kSl (kInt .u64))) (vs := [.slice Ax0 x0.length cx0]) (x := x0) ⟨_, _, rfl, fx0⟩ (Els.cons (K := (kSl (kInt .u64))) (vs := [.slice Ax1 x1.length cx1]) (x := x1) ⟨_, _, rfl, fx1⟩ Els.nil))
 refine Om (.buildSlice 217 2 #[(0, (.tmp 6)), (1, (.tmp 7))]) 8 217 (fun b => .slice (Gp (some b)) 2 2) 31 ([.slice Ax0 x0.length cx0, .slice Ax1 x1.length cx1] : List Value) (2 * (kSl (kInt .u64)).size) p0 Goes.v fun b1 w2 z2 p2 => ?_
 obtain ⟨S3, z3, p3, f4⟩ := p2.freezeRd 0 rfl (f2.ext z2) (by decide)
 refine Gb h fun y5 e6 h => ?_
 refine Gc (.call { callee := .value (.func 161), args := #[(.tmp 8), (.func 162)], argTypes := #[217, 218] }) 9 166 161 _ (W.z83 [x0, x1] y5 e6 _ _ _ p3 f4 rfl) ?_
 rintro _ w4 ⟨S4, uxn, uxo, uxp, uxq, rfl, z4, p4, uxr, rfl⟩
 have p4 := p4.dp 1
 refine Hn 5 Jtn ?_
 obtain rfl := sj h
 exact Hr Tryz.f101 ⟨_, _, _, _, _, rfl, ((z2.t z3).t z4), p4, uxr, rfl⟩

def Jtp := Ys 111 B183 []

def Post.z87 (r : (List Int) × Int) (v : Value) (w' : World) : Prop :=
 ∃ S' uq ur ut uu, v = .tuple #[.slice (Gp uq) ur ut, .i r.2] ∧ Ext S0 w0 S' w' ∧ Hp nz wz S' w' ((uq, .row 35 uu (ut * (kInt .u64).size) 0) :: Lr) ∧ Els (kInt .u64) S' w' uu r.1 ∧ r.1.length = ur

theorem W.z87 (x0 : List Int) (x1 : Int) (r : (List Int) × Int) (h : M.a6m x0 x1 = some r) {nz wz S0 w0 Lr} (Ax0 nx0 cx0) (p0 : Hp nz wz S0 w0 (Lr)) (fx0 : Rd (kInt .u64) S0 w0 Ax0 cx0 x0) (lx0 : x0.length = nx0) :
  Calls Tryz.prog 183 #[.slice Ax0 nx0 cx0, .u x1] w0 (Rets (Post.z87 nz wz S0 w0 Lr r)) := by
 subst lx0
 refine Zf Tryz.f183 B183 10 ?_
 refine Gj 12 [(0, .slice Ax0 x0.length cx0), (1, .u x1)] fun junk => ?_
 delta M.a6m at h
 refine Hn 9 (Yt 110 B183 [2, 3, 4, 5, 6, 7] Jtp) ?_
 have f2 : Els (kInt .u64) S0 w0 ([.u x1] : List Value) [x1] := by exact (Els.cons (K := (kInt .u64)) (vs := [.u x1]) (x := x1) rfl Els.nil)
 refine Om (.buildSlice 31 1 #[(0, (.tmp 7))]) 8 31 (fun b => .slice (Gp (some b)) 1 1) 35 ([.u x1] : List Value) (1 * (kInt .u64).size) p0 Goes.v fun b1 w2 z2 p2 => ?_
 obtain ⟨S3, z3, p3, f4⟩ := p2.freezeRd 0 rfl (f2.ext z2) (by decide)
 refine Gb h fun y5 e6 h => ?_
 refine Gc (kc 101 [6, 8] #[31, 31]) 9 166 101 _ (W.z86 x0 [x1] y5 e6 _ _ _ _ _ _ p3 (fx0.ext (z2.t z3)) rfl f4 rfl) ?_
 rintro _ w4 ⟨S4, uxn, uxo, uxp, uxq, rfl, z4, p4, uxr, rfl⟩
 have p4 := p4.dp 1
 refine Hn 5 Jtp ?_
 obtain rfl := sj h
 exact Hr Tryz.f183 ⟨_, _, _, _, _, rfl, ((z2.t z3).t z4), p4, uxr, rfl⟩

def Jtr := Ys 111 B124 []
def Jts := Ys 1101 B124 Jtr
def Jtu := Ys 1111 B124 []
def Qnt := Yq 1110 B124
def Jty := Zr Qnt [8, 9, 10, 11, 12, 13] Jtu
def Ju0 := Yt 11110 B124 [5] (Ys 11111 B124 [])
def Ju1 := Ys 111111 B124 []

def Post.z88 (r : Int × Z) (v : Value) (w' : World) : Prop :=
 ∃ S' Ee0, v = .i r.1 ∧ Ext S0 w0 S' w' ∧ Hp nz wz S' w' (PL Ee0 (Lr)) ∧ PS S' w' Ee0 r.2

theorem W.z88 (x0 : Option Nat) (x1 : ByteArray) (x2 : Int) (pl : Z) (r : Int × Z) (h : M.a8b x0 x1 x2 pl = some r) {nz wz S0 w0 Lr} (vx0 Epl) (p0 : Hp nz wz S0 w0 (PL Epl (Lr))) (fx0 : PpO 236 S0 vx0 x0) (fpl : PS S0 w0 Epl pl) :
  Calls Tryz.prog 124 #[vx0, .string x1, .u x2] w0 (Rets (Post.z88 nz wz S0 w0 Lr r)) := by
 refine Zf Tryz.f124 B124 28 ?_
 refine Gj 31 [(0, vx0), (1, .string x1), (2, .u x2)] fun junk => ?_
 delta M.a8b at h
 refine Hn 8 (Yt 1100 B124 [1, 2] Jts) ?_
 refine Gb h fun y1 e2 h => ?_
 refine Gc (kc 180 [9] #[125]) 10 4 180 _ (W.zv x0 pl y1 e2 _ _ p0 fx0 fpl) ?_
 rintro _ w2 ⟨S2, rfl, z2, p2⟩
 refine Hn 2 Jts ?_
 refine Hb [(10, .bool y1), (11, .bool (!y1))] ?_
 refine Gi h (fun h3 h => ?_) fun h3 h => ?_
 ·
  rw [h3]
  refine Hn 5 (Zr Qnt [1, 2, 3, 4, 5, 6, 7, 8, 9, 10, 11, 12, 13] Jtu) ?_
  refine Gl h fun v40 h4 h => ?_
  rcases v40 with _ | y5
  ·
   try dsimp only at h
   obtain rfl := PpO.nil (fx0.ext z2) h4
   cases h
  ·
   try dsimp only at h
   obtain ⟨g6, rfl, f7⟩ := PpO.got (fx0.ext z2) h4
   refine Hn 3 (Zr Qnt [4, 5, 6, 7, 8, 9, 10, 11, 12, 13] Jtu) ?_
   obtain ⟨cs8, q9, l10, e11, f12⟩ := Pl.row p2 9 rfl (fpl.zj.ext z2) f7
   have q15 := q9
   obtain ⟨v13, rfl, f14⟩ := kMp_one (w := w2) q15
   refine Hd (f12 0 _ rfl) ?_
   refine Hn 1 (Zr Qnt [6, 7, 8, 9, 10, 11, 12, 13] Jtu) ?_
   refine Gl h fun v39 h16 h => ?_
   rcases v39 with _ | y17
   ·
    try dsimp only at h
    obtain rfl := MpO.nil f14 h16
    refine Hn 2 Jty ?_
    refine Gb h fun y20 e21 h => ?_
    refine Gc (kc 183 [19, 20] #[31, 35]) 21 166 183 _ (W.z87 ([] : List Int) x2 y20 e21 none 0 0 p2 Rd.none_ rfl) ?_
    rintro _ w3 ⟨S3, u77, u78, u79, u7a, rfl, z3, p3, u7b, rfl⟩
    refine Hn 13 Ju0 ?_
    obtain ⟨S4, z4, p4, f23⟩ := p3.freezeRd 0 rfl u7b (by decide)
    have p4 := p4.rt 1 10
    refine Gb h fun y24 e25 h => ?_
    refine Gc (kc 182 [26, 27, 28] #[235, 9, 31]) 29 0 182 _ (W.z1j y5 x1 y20.1 pl y24 e25 _ _ _ _ _ p4 (f7.ext (z3.t z4)) f23 rfl (fpl.ext ((z2.t z3).t z4))) ?_
    rintro _ w5 ⟨S5, u1o, rfl, z5, p5, u1q⟩
    have p5 := p5.dp 10
    refine Hn 6 Ju1 ?_
    obtain rfl := sj h
    exact Hr Tryz.f124 ⟨_, _, rfl, (((z2.t z3).t z4).t z5), p5, u1q⟩
   ·
    try dsimp only at h
    obtain ⟨g18, rfl, f19⟩ := MpO.got f14 h16
    refine Gl h fun v26 e27 h => ?_
    refine Op_.lkM 233 (.tmp 17) (.tmp 18) 19 31 9 31 8 (.slice none 0 0) ([] : List Int) x1 v26 p2 rfl (fpl.zi.ext z2) f19 Goes.v (by kernel_rfl) (by kernel_rfl) (by kernel_rfl) (kok_str (by kernel_rfl)) (by kernel_rfl) ⟨none, 0, rfl, Rd.none_⟩ e27 fun v28 f29 => ?_
    obtain ⟨A30, c31, rfl, f32⟩ := one_sl f29
    refine Hn 1 Jty ?_
    refine Gb h fun y33 e34 h => ?_
    refine Gc (kc 183 [19, 20] #[31, 35]) 21 166 183 _ (W.z87 v26 x2 y33 e34 _ _ _ p2 f32 rfl) ?_
    rintro _ w6 ⟨S6, u71, u72, u73, u74, rfl, z6, p6, u75, rfl⟩
    refine Hn 13 Ju0 ?_
    obtain ⟨S7, z7, p7, f36⟩ := p6.freezeRd 0 rfl u75 (by decide)
    have p7 := p7.rt 1 10
    refine Gb h fun y37 e38 h => ?_
    refine Gc (kc 182 [26, 27, 28] #[235, 9, 31]) 29 0 182 _ (W.z1j y5 x1 y33.1 pl y37 e38 _ _ _ _ _ p7 (f7.ext (z6.t z7)) f36 rfl (fpl.ext ((z2.t z6).t z7))) ?_
    rintro _ w8 ⟨S8, u7c, rfl, z8, p8, u7d⟩
    have p8 := p8.dp 10
    refine Hn 6 Ju1 ?_
    obtain rfl := sj h
    exact Hr Tryz.f124 ⟨_, _, rfl, (((z2.t z6).t z7).t z8), p8, u7d⟩
 ·
  rw [bf h3]
  refine Hn 5 (Ys 110101 B124 Jtr) ?_
  obtain rfl := sj h
  exact Hr Tryz.f124 ⟨_, _, rfl, z2, p2, (fpl.ext z2)⟩

def Ju3 := Ys 11111111 B69 []
def Qnz := Yq 111111111 B69
def Ju4 := Zc Qnz []
def Qo0 := Yq 111111110 B69
def Ju7 := Zr Qnz [3, 4, 5] []
def Ju8 := Zr Qnz [5] []

def Post.z89 (r : Z) (v : Value) (w' : World) : Prop :=
 ∃ S' Ee0, v = .tuple #[] ∧ Ext S0 w0 S' w' ∧ Hp nz wz S' w' (PL Ee0 (Lr)) ∧ PS S' w' Ee0 r

def L.z8a : Nat × ByteArray × Int × Z → Z → Prop := fun ⟨x0, x1, x7, e0⟩ r => ∀ S1 w1, Ext S0 w0 S1 w1 → ∀ gx0 Ee0 (_ : Hp nz wz S1 w1 (PL Ee0 (Lr))) (_ : Pa 126 S1 x0 gx0) (_ : PS S1 w1 Ee0 e0) (junk : Nat → Value),
 Goes Tryz.prog (base 69) Ju3 ⟨lfr 64 [(0, (pt gx0 0)), (1, .string x1), (7, .u x7)] junk, []⟩ w1 (Done Tryz.prog 69 (Rets (Post.z89 nz wz S0 w0 Lr r)))

theorem W.z8a {nz wz S0 w0 Lr} : ∀ a r, M.a6n a = some r → L.z8a nz wz S0 w0 Lr a r := by
 intro ⟨x0, x1, x7, e0⟩ r h S1 w1 hx gx0 Ee0 p1 fx0 fe0 junk
 rw [M.a6n] at h
 try dsimp only at h
 refine Hn 5 (Zr Qo0 [3, 4, 5] Ju4) ?_
 obtain ⟨uxs, uxt, uxu, uxv, u7m⟩ := Pl.row p1 7 rfl fe0.zh fx0
 obtain ⟨_, _, rfl, u7p, ⟨_, _, rfl, uxw, ⟨_, _, rfl, u7t, ⟨_, _, rfl, u7u, ⟨_, _, rfl, rfl, rfl⟩⟩⟩⟩⟩ := uxt
 obtain ⟨uxx, rfl, uxy⟩ := kMp_one (w := w1) u7p
 obtain ⟨uxz, rfl, uy0⟩ := kMp_one (w := w1) uxw
 obtain ⟨u7x, rfl, u7y⟩ := kMp_one (w := w1) u7t
 obtain ⟨u7z, rfl, u80⟩ := kPp_one (w := w1) u7u
 refine Hd (u7m 1 _ rfl) ?_
 refine Hn 1 (Zr Qo0 [5] Ju4) ?_
 refine Gl h fun uy1 uy2 h => ?_
 rcases uy1 with _ | uy3
 ·
  try dsimp only at h
  obtain rfl := MpO.nil uy0 uy2
  refine Op_.deN 78 9 (.tmp 57) (.tmp 58) 0 9 35 x1 (enc := Value.string) (Goes.v0s (by kernel_rfl)) (by kernel_rfl) (by kernel_rfl) (by kernel_rfl) (kok_str (by kernel_rfl)) ?_
  refine Hn 5 Ju7 ?_
  obtain ⟨ukr, u7w, ukt, uy4, ukx⟩ := Pl.row p1 7 rfl fe0.zh fx0
  obtain ⟨_, _, rfl, uy5, ⟨_, _, rfl, uy6, ⟨_, _, rfl, uy7, ⟨_, _, rfl, uy8, ⟨_, _, rfl, rfl, rfl⟩⟩⟩⟩⟩ := u7w
  obtain ⟨uy9, rfl, u89⟩ := kMp_one (w := w1) uy5
  obtain ⟨uya, rfl, ul0⟩ := kMp_one (w := w1) uy6
  obtain ⟨uyb, rfl, uyc⟩ := kMp_one (w := w1) uy7
  obtain ⟨uyd, rfl, uye⟩ := kPp_one (w := w1) uy8
  refine Hd (ukx 2 _ rfl) ?_
  refine Hn 1 Ju8 ?_
  refine Gl h fun uyf uyg h => ?_
  rcases uyf with _ | uyh
  ·
   try dsimp only at h
   obtain rfl := MpO.nil uyc uyg
   refine Op_.deN 124 35 (.tmp 62) (.tmp 63) 0 35 9 x7 (enc := (Value.int .u64)) (Goes.v0s (by kernel_rfl)) (by kernel_rfl) (by kernel_rfl) (by kernel_rfl) (kok_int (by kernel_rfl)) ?_
   refine Hn 1 [] ?_
   obtain rfl := sj h
   exact Goes.end_ (fn := Tryz.f69) (by kernel_rfl) (v := .tuple #[]) (by kernel_rfl) ⟨S1, Ee0, rfl, hx, p1, fe0⟩
  ·
   try dsimp only at h
   obtain ⟨ul6, rfl, uyi⟩ := MpO.got uyc uyg
   refine Op_.deM 124 35 (.tmp 62) (.tmp 63) 0 35 9 6 x7 (sn e0.zg uyh (mdel (gn e0.zg uyh) x7)) p1 rfl fe0.zg uyi (Goes.v0s (by kernel_rfl)) (by kernel_rfl) (by kernel_rfl) (by kernel_rfl) (kok_int (by kernel_rfl)) rfl fun w7 u8o z7 p7 u8p ul8 => ?_
   refine Hn 1 [] ?_
   obtain rfl := sj h
   exact Goes.end_ (fn := Tryz.f69) (by kernel_rfl) (v := .tuple #[]) (by kernel_rfl) ⟨S1, {Ee0 with zg := u8o}, rfl, (hx.t z7), p7, (PS.uzg (fe0.ext z7) u8p)⟩
 ·
  try dsimp only at h
  obtain ⟨uyj, rfl, uko⟩ := MpO.got uy0 uy2
  refine Op_.deM 78 9 (.tmp 57) (.tmp 58) 0 9 35 1 x1 (sn e0.zb uy3 (mdel (gn e0.zb uy3) x1)) p1 rfl fe0.zb uko (Goes.v0s (by kernel_rfl)) (by kernel_rfl) (by kernel_rfl) (by kernel_rfl) (kok_str (by kernel_rfl)) rfl fun w8 uyk z8 p8 ulh uyl => ?_
  refine Hn 5 Ju7 ?_
  obtain ⟨uym, uyn, uyo, uyp, u93⟩ := Pl.row p8 7 rfl (fe0.zh.ext z8) (fx0.ext z8)
  obtain ⟨_, _, rfl, ulo, ⟨_, _, rfl, uyq, ⟨_, _, rfl, uyr, ⟨_, _, rfl, uys, ⟨_, _, rfl, rfl, rfl⟩⟩⟩⟩⟩ := uyn
  obtain ⟨uyt, rfl, ulq⟩ := kMp_one (w := w8) ulo
  obtain ⟨uyu, rfl, ulp⟩ := kMp_one (w := w8) uyq
  obtain ⟨uyv, rfl, uyw⟩ := kMp_one (w := w8) uyr
  obtain ⟨uyx, rfl, uyy⟩ := kPp_one (w := w8) uys
  refine Hd (u93 2 _ rfl) ?_
  refine Hn 1 Ju8 ?_
  refine Gl h fun uyz uz0 h => ?_
  rcases uyz with _ | uz1
  ·
   try dsimp only at h
   obtain rfl := MpO.nil uyw uz0
   refine Op_.deN 124 35 (.tmp 62) (.tmp 63) 0 35 9 x7 (enc := (Value.int .u64)) (Goes.v0s (by kernel_rfl)) (by kernel_rfl) (by kernel_rfl) (by kernel_rfl) (kok_int (by kernel_rfl)) ?_
   refine Hn 1 [] ?_
   obtain rfl := sj h
   exact Goes.end_ (fn := Tryz.f69) (by kernel_rfl) (v := .tuple #[]) (by kernel_rfl) ⟨S1, {Ee0 with zb := uyk}, rfl, (hx.t z8), p8, (PS.uzb (fe0.ext z8) ulh)⟩
  ·
   try dsimp only at h
   obtain ⟨uz2, rfl, uz3⟩ := MpO.got uyw uz0
   refine Op_.deM 124 35 (.tmp 62) (.tmp 63) 0 35 9 6 x7 (sn e0.zg uz1 (mdel (gn e0.zg uz1) x7)) p8 rfl (fe0.zg.ext z8) uz3 (Goes.v0s (by kernel_rfl)) (by kernel_rfl) (by kernel_rfl) (by kernel_rfl) (kok_int (by kernel_rfl)) rfl fun w9 uz4 z9 p9 u9k uz5 => ?_
   refine Hn 1 [] ?_
   obtain rfl := sj h
   exact Goes.end_ (fn := Tryz.f69) (by kernel_rfl) (v := .tuple #[]) (by kernel_rfl) ⟨S1, {Ee0 with zb := uyk, zg := uz4}, rfl, ((hx.t z8).t z9), p9, (PS.uzg (PS.uzb (fe0.ext (z8.t z9)) (ulh.ext z9)) u9k)⟩

def Ju9 := Ys 1111111 B69 []
def Qo2 := Yq 1111110100 B69
def Jub := Zl Qo2 (Zb 0 Ju9)
def Juc := Zc Qo2 Jub
def Jug := Zb 1 (Ys 1111110100111 B69 Jub)
def Qo6 := Yq 111111010011001 B69
def Qo8 := Yq 11111110 B69

def L.z8b : Nat × ByteArray × Int × (List ByteArray) × Int × Int × Z → Z → Prop := fun ⟨x0, x1, x7, x35, x36, x37, e0⟩ r => ∀ S1 w1, Ext S0 w0 S1 w1 → ∀ gx0 uz6 u6k u6l uz7 Ee0 (_ : Hp nz wz S1 w1 ((uz6, .row 9 uz7 (u6l * kStr.size) 0) :: PL Ee0 (Lr))) (_ : Pa 126 S1 x0 gx0) (_ : Els kStr S1 w1 uz7 x35) (_ : x35.length = u6k) (_ : PS S1 w1 Ee0 e0) (junk : Nat → Value),
 Goes Tryz.prog (base 69) Juc ⟨lfr 64 [(0, (pt gx0 0)), (1, .string x1), (7, .u x7), (35, .slice (Gp uz6) u6k u6l), (36, .i x36), (37, .i x37)] junk, []⟩ w1 (Done Tryz.prog 69 (Rets (Post.z89 nz wz S0 w0 Lr r)))

theorem W.z8b {nz wz S0 w0 Lr} : ∀ a r, M.a6o a = some r → (L.z8b nz wz S0 w0 Lr) a r := by
 refine M.a6o.partial_correctness (motive := (L.z8b nz wz S0 w0 Lr)) ?_
 intro uz8 uz9 ⟨x0, x1, x7, x35, x36, x37, e0⟩ r h S1 w1 hx gx0 uz6 u6k u6l uz7 Ee0 p1 fx0 u6o u6p fe0 junk
 try dsimp only at h
 subst u6p
 refine Hn 5 (Ys 111111010010 B69 (Ys 111111010011 B69 Jub)) ?_
 refine Hb [(38, .bool (decide (x37 < x36)))] ?_
 refine Gi h (fun ued h => ?_) fun ued h => ?_
 ·
  rw [dt ued]
  refine Hn 6 (Yt 111111010011000 B69 [0, 1, 2] (Zc Qo6 Jug)) ?_
  refine Gg h fun uza h => ?_
  refine Gg h fun uef h => ?_
  refine Op_.ixO_n 28 (.tmp 35) (.tmp 37) 39 0 9 .i64 x37 0 x35.length u6l (gi x35 x37) rfl rfl p1 rfl u6o Goes.v (by kernel_rfl) (by kernel_rfl) (by kernel_rfl) (by kernel_rfl) (by decide) uza uef ?_
  rintro uzb _ rfl uac uai
  obtain rfl := uac
  refine Hd (uai 0 _ rfl) ?_
  refine Hn 6 (Zr Qo6 [3, 4, 5, 6] Jug) ?_
  obtain ⟨uzc, uad, uzd, uhi, uem⟩ := Pl.row p1 8 rfl fe0.zh fx0
  obtain ⟨_, _, rfl, uhm, ⟨_, _, rfl, uze, ⟨_, _, rfl, uzf, ⟨_, _, rfl, uzg, ⟨_, _, rfl, rfl, rfl⟩⟩⟩⟩⟩ := uad
  obtain ⟨uzh, rfl, ueo⟩ := kMp_one (w := w1) uhm
  obtain ⟨ue1, rfl, uhn⟩ := kMp_one (w := w1) uze
  obtain ⟨uau, rfl, uq8⟩ := kMp_one (w := w1) uzf
  obtain ⟨uzi, rfl, uay⟩ := kPp_one (w := w1) uzg
  refine Hd (uem 3 _ rfl) ?_
  refine Hn 2 (Zr Qo6 [6] Jug) ?_
  have p1 := p1.rt 1 10
  refine Gb h fun uzj ub1 h => ?_
  refine Gc (kc 124 [44, 45, 46] #[125, 9, 35]) 47 39 124 _ (W.z88 ((gn e0.zh x0).grams) (gi x35 x37) x7 e0 uzj ub1 _ _ p1 uay fe0) ?_
  rintro _ w5 ⟨S5, u1o, rfl, z5, p5, u1q⟩
  refine Hn 7 Juc ?_
  have p5 := p5.fr 10
  exact Gk (uz9 _ _ h _ _ (hx.t z5) _ (some uzb) _ _ _ _ p5 (fx0.ext z5) (u6o.ext z5) rfl u1q)
 ·
  rw [df ued]
  refine Hn 7 (Zr Qo8 [3, 4, 5] Ju3) ?_
  obtain ⟨uzk, uzl, uzm, ujg, ucf⟩ := Pl.row p1 8 rfl fe0.zh fx0
  obtain ⟨_, _, rfl, uzn, ⟨_, _, rfl, uzo, ⟨_, _, rfl, ujv, ⟨_, _, rfl, uzp, ⟨_, _, rfl, rfl, rfl⟩⟩⟩⟩⟩ := uzl
  obtain ⟨uzq, rfl, uzr⟩ := kMp_one (w := w1) uzn
  obtain ⟨ubb, rfl, uqf⟩ := kMp_one (w := w1) uzo
  obtain ⟨ui4, rfl, ujw⟩ := kMp_one (w := w1) ujv
  obtain ⟨uzs, rfl, ubi⟩ := kPp_one (w := w1) uzp
  refine Hd (ucf 0 _ rfl) ?_
  refine Hn 1 (Zr Qo8 [5] Ju3) ?_
  refine Gl h fun uzt uzu h => ?_
  rcases uzt with _ | uzv
  ·
   try dsimp only at h
   obtain rfl := MpO.nil uzr uzu
   refine Op_.deN 121 9 (.tmp 52) (.tmp 53) 0 9 123 x1 (enc := Value.string) (Goes.v0s (by kernel_rfl)) (by kernel_rfl) (by kernel_rfl) (by kernel_rfl) (kok_str (by kernel_rfl)) ?_
   refine Hn 1 Ju3 ?_
   have p1 := p1.dp 0
   exact Gk (W.z8a _ _ h _ _ hx _ _ p1 fx0 fe0)
  ·
   try dsimp only at h
   obtain ⟨uzw, rfl, ucq⟩ := MpO.got uzr uzu
   refine Op_.deM 121 9 (.tmp 52) (.tmp 53) 0 9 123 5 x1 (sn e0.ze uzv (mdel (gn e0.ze uzv) x1)) p1 rfl fe0.ze ucq (Goes.v0s (by kernel_rfl)) (by kernel_rfl) (by kernel_rfl) (by kernel_rfl) (kok_str (by kernel_rfl)) rfl fun w6 uzx z6 p6 uk2 uzy => ?_
   refine Hn 1 Ju3 ?_
   have p6 := p6.dp 0
   exact Gk (W.z8a _ _ h _ _ (hx.t z6) _ ({Ee0 with ze := uzx}) p6 (fx0.ext z6) (PS.uze (fe0.ext z6) uk2))

def Jun := Ys 111111 B69 []

def L.z8c : Nat × ByteArray × Int × Z → Z → Prop := fun ⟨x0, x1, x7, e0⟩ r => ∀ S1 w1, Ext S0 w0 S1 w1 → ∀ gx0 Ee0 (_ : Hp nz wz S1 w1 (PL Ee0 (Lr))) (_ : Pa 126 S1 x0 gx0) (_ : PS S1 w1 Ee0 e0) (junk : Nat → Value),
 Goes Tryz.prog (base 69) Jun ⟨lfr 64 [(0, (pt gx0 0)), (1, .string x1), (7, .u x7)] junk, []⟩ w1 (Done Tryz.prog 69 (Rets (Post.z89 nz wz S0 w0 Lr r)))

theorem W.z8c {nz wz S0 w0 Lr} : ∀ a r, M.a6p a = some r → L.z8c nz wz S0 w0 Lr a r := by
 intro ⟨x0, x1, x7, e0⟩ r h S1 w1 hx gx0 Ee0 p1 fx0 fe0 junk
 rw [M.a6p] at h
 try dsimp only at h
 refine Hn 4 (Yt 11111100 B69 [1, 2, 3] (Ys 11111101 B69 Ju9)) ?_
 refine Gb h fun uzz uea h => ?_
 refine Gc (kc 122 [34] #[9]) 35 28 122 _ (W.zu x1 uzz uea  p1 ) ?_
 rintro _ w4 ⟨S4, uol, uom, uon, uoo, rfl, z4, p4, uey, rfl⟩
 refine Hn 5 Juc ?_
 exact Gk (W.z8b _ _ h _ _ (hx.t z4) _ _ _ _ _ _ p4 (fx0.ext z4) uey rfl (fe0.ext z4))

def Juq := Ys 11111 B69 []
def Jur := Ys 111101 B69 Juq
def Qof := Yq 111110 B69

def L.z8d : Nat × ByteArray × Bool × Z → Z → Prop := fun ⟨x0, x1, x27, e0⟩ r => ∀ S1 w1, Ext S0 w0 S1 w1 → ∀ gx0 Ee0 (_ : Hp nz wz S1 w1 (PL Ee0 (Lr))) (_ : Pa 126 S1 x0 gx0) (_ : PS S1 w1 Ee0 e0) (junk : Nat → Value),
 Goes Tryz.prog (base 69) Jur ⟨lfr 64 [(0, (pt gx0 0)), (1, .string x1), (27, .bool x27)] junk, []⟩ w1 (Done Tryz.prog 69 (Rets (Post.z89 nz wz S0 w0 Lr r)))

theorem W.z8d {nz wz S0 w0 Lr} : ∀ a r, M.a6q a = some r → L.z8d nz wz S0 w0 Lr a r := by
 intro ⟨x0, x1, x27, e0⟩ r h S1 w1 hx gx0 Ee0 p1 fx0 fe0 junk
 rw [M.a6q] at h
 try dsimp only at h
 refine Hb [(27, .bool x27)] ?_
 refine Gi h (fun h84 h => ?_) fun h84 h => ?_
 ·
  rw [h84]
  refine Hn 1 (Ys 1111010 B69 Juq) ?_
  obtain rfl := sj h
  exact Hr Tryz.f69 ⟨_, _, rfl, hx, p1, fe0⟩
 ·
  rw [bf h84]
  refine Hn 7 (Zr Qof [3, 4, 5, 6] Jun) ?_
  obtain ⟨u101, q86, l87, e88, f89⟩ := Pl.row p1 7 rfl fe0.zh fx0
  obtain ⟨_, _, rfl, q92, ⟨_, _, rfl, q95, ⟨_, _, rfl, q98, ⟨_, _, rfl, u102, ⟨_, _, rfl, rfl, rfl⟩⟩⟩⟩⟩ := q86
  obtain ⟨v90, rfl, f91⟩ := kMp_one (w := w1) q92
  obtain ⟨v93, rfl, f94⟩ := kMp_one (w := w1) q95
  obtain ⟨v96, rfl, f97⟩ := kMp_one (w := w1) q98
  obtain ⟨v99, rfl, uie⟩ := kPp_one (w := w1) u102
  refine Hd (f89 1 _ rfl) ?_
  refine Hn 1 (Zr Qof [5, 6] Jun) ?_
  refine Gl h fun u103 u104 h => ?_
  rcases u103 with _ | u105
  ·
   try dsimp only at h
   obtain rfl := MpO.nil f94 u104
   refine Hn 3 Jun ?_
   exact Gk (W.z8c _ _ h _ _ hx _ _ p1 fx0 fe0)
  ·
   try dsimp only at h
   obtain ⟨u106, rfl, um0⟩ := MpO.got f94 u104
   refine Op_.lkM 78 (.tmp 31) (.tmp 32) 33 35 9 35 1 (.u 0) 0 x1 ((mget (gn e0.zb u105) x1).getD 0) p1 rfl fe0.zb um0 Goes.v (by kernel_rfl) (by kernel_rfl) (by kernel_rfl) (kok_str (by kernel_rfl)) (by kernel_rfl) rfl rfl fun u107 ua5 => ?_
   obtain rfl := one_int ua5
   refine Hn 2 Jun ?_
   exact Gk (W.z8c _ _ h _ _ hx _ _ p1 fx0 fe0)

def Juv := Ys 111 B69 []
def Juw := Ys 1111 B69 []
def Qoi := Yq 1110 B69

def L.z8e : Nat × ByteArray × (Option Nat) × Z → Z → Prop := fun ⟨x0, x1, x6, e0⟩ r => ∀ S1 w1, Ext S0 w0 S1 w1 → ∀ gx0 vx6 Ee0 (_ : Hp nz wz S1 w1 (PL Ee0 (Lr))) (_ : Pa 126 S1 x0 gx0) (_ : MpO 122 S1 vx6 x6) (_ : PS S1 w1 Ee0 e0) (junk : Nat → Value),
 Goes Tryz.prog (base 69) Juv ⟨lfr 64 [(0, (pt gx0 0)), (1, .string x1), (6, vx6)] junk, []⟩ w1 (Done Tryz.prog 69 (Rets (Post.z89 nz wz S0 w0 Lr r)))

theorem W.z8e {nz wz S0 w0 Lr} : ∀ a r, M.a6r a = some r → L.z8e nz wz S0 w0 Lr a r := by
 intro ⟨x0, x1, x6, e0⟩ r h S1 w1 hx gx0 vx6 Ee0 p1 fx0 fx6 fe0 junk
 rw [M.a6r] at h
 try dsimp only at h
 refine Hn 5 (Zr Qoi [3, 4, 5, 6, 7] Juw) ?_
 obtain ⟨u108, q42, l43, e44, f45⟩ := Pl.row p1 7 rfl fe0.zh fx0
 obtain ⟨_, _, rfl, q48, ⟨_, _, rfl, q51, ⟨_, _, rfl, q54, ⟨_, _, rfl, q57, ⟨_, _, rfl, rfl, rfl⟩⟩⟩⟩⟩ := q42
 obtain ⟨v46, rfl, f47⟩ := kMp_one (w := w1) q48
 obtain ⟨v49, rfl, f50⟩ := kMp_one (w := w1) q51
 obtain ⟨v52, rfl, f53⟩ := kMp_one (w := w1) q54
 obtain ⟨v55, rfl, f56⟩ := kPp_one (w := w1) q57
 refine Hd (f45 5 _ rfl) ?_
 refine Hn 3 (Zr Qoi [7] Juw) ?_
 obtain ⟨u109, q59, l60, e61, f62⟩ := Pl.row p1 7 rfl fe0.zh fx0
 obtain ⟨_, _, rfl, q65, ⟨_, _, rfl, q68, ⟨_, _, rfl, q71, ⟨_, _, rfl, q74, ⟨_, _, rfl, rfl, rfl⟩⟩⟩⟩⟩ := q59
 obtain ⟨v63, rfl, f64⟩ := kMp_one (w := w1) q65
 obtain ⟨v66, rfl, f67⟩ := kMp_one (w := w1) q68
 obtain ⟨v69, rfl, f70⟩ := kMp_one (w := w1) q71
 obtain ⟨v72, rfl, f73⟩ := kPp_one (w := w1) q74
 refine Gl h fun v75 e76 h => ?_
 refine Op_.stP 3 (.tmp 24) (.tmp 22) 0 126 7 x0 gx0 5 (.i (wr .i64 (((gn e0.zh x0).size) - 1))) [.i (wr .i64 (((gn e0.zh x0).size) - 1))] (⟨(gn e0.zh x0).values, (gn e0.zh x0).numbers, (gn e0.zh x0).texts, (gn e0.zh x0).grams, (gn e0.zh x0).next, wr .i64 (((gn e0.zh x0).size) - 1)⟩ : T126) v75 p1 rfl fe0.zh e61 Goes.s (by kernel_rfl) (by kernel_rfl) (by kernel_rfl) (by kernel_rfl) (by simp only [List.length_cons, List.length_nil, List.length_append]; omega) (by simp [Value.oneCell']) ⟨[v63], [v66, v69, v72, .u ((gn e0.zh x0).next), .i (wr .i64 (((gn e0.zh x0).size) - 1))], rfl, (show (kMp 121).rep S1 w1 [v63] (gn e0.zh x0).values from f64), ⟨[v66], [v69, v72, .u ((gn e0.zh x0).next), .i (wr .i64 (((gn e0.zh x0).size) - 1))], rfl, (show (kMp 78).rep S1 w1 [v66] (gn e0.zh x0).numbers from f67), ⟨[v69], [v72, .u ((gn e0.zh x0).next), .i (wr .i64 (((gn e0.zh x0).size) - 1))], rfl, (show (kMp 124).rep S1 w1 [v69] (gn e0.zh x0).texts from f70), ⟨[v72], [.u ((gn e0.zh x0).next), .i (wr .i64 (((gn e0.zh x0).size) - 1))], rfl, (show (kPp 236).rep S1 w1 [v72] (gn e0.zh x0).grams from f73), ⟨[.u ((gn e0.zh x0).next)], [.i (wr .i64 (((gn e0.zh x0).size) - 1))], rfl, rfl, rfl⟩⟩⟩⟩⟩ e76 fun w3 E77 z3 p3 f78 => ?_
 refine Hn 5 (Yt 111100 B69 [1, 2] Jur) ?_
 refine Gl h fun v83 h79 h => ?_
 rcases v83 with _ | y80
 ·
  try dsimp only at h
  obtain rfl := MpO.nil (fx6.ext z3) h79
  refine Hn 3 Jur ?_
  exact Gk (W.z8d _ _ h _ _ (hx.t z3) _ ({Ee0 with zh := E77}) p3 (fx0.ext z3) (PS.uzh (fe0.ext z3) f78))
 ·
  try dsimp only at h
  obtain ⟨g81, rfl, f82⟩ := MpO.got (fx6.ext z3) h79
  refine Op_.lenM 123 (.tmp 25) 26 3 35 4 5 p3 rfl (fe0.zf.ext z3) f82 Goes.v (by kernel_rfl) (by kernel_rfl) ?_
  refine Hn 2 Jur ?_
  exact Gk (W.z8d _ _ h _ _ (hx.t z3) _ ({Ee0 with zh := E77}) p3 (fx0.ext z3) (PS.uzh (fe0.ext z3) f78))

def Jv0 := Ys 11 B69 []

def L.z8f : Nat × ByteArray × Int × (Option Nat) × Z → Z → Prop := fun ⟨x0, x1, x2, x6, e0⟩ r => ∀ S1 w1, Ext S0 w0 S1 w1 → ∀ gx0 vx6 Ee0 (_ : Hp nz wz S1 w1 (PL Ee0 (Lr))) (_ : Pa 126 S1 x0 gx0) (_ : MpO 122 S1 vx6 x6) (_ : PS S1 w1 Ee0 e0) (junk : Nat → Value),
 Goes Tryz.prog (base 69) Jv0 ⟨lfr 64 [(0, (pt gx0 0)), (1, .string x1), (2, .u x2), (6, vx6)] junk, []⟩ w1 (Done Tryz.prog 69 (Rets (Post.z89 nz wz S0 w0 Lr r)))

theorem W.z8f {nz wz S0 w0 Lr} : ∀ a r, M.a6s a = some r → L.z8f nz wz S0 w0 Lr a r := by
 intro ⟨x0, x1, x2, x6, e0⟩ r h S1 w1 hx gx0 vx6 Ee0 p1 fx0 fx6 fe0 junk
 rw [M.a6s] at h
 try dsimp only at h
 refine Hn 4 (Yt 110 B69 [2] Juv) ?_
 refine Gl h fun v40 h33 h => ?_
 rcases v40 with _ | y34
 ·
  try dsimp only at h
  obtain rfl := MpO.nil fx6 h33
  refine Op_.deN 123 35 (.tmp 16) (.tmp 17) 0 35 4 x2 (enc := (Value.int .u64)) (Goes.v0s (by kernel_rfl)) (by kernel_rfl) (by kernel_rfl) (by kernel_rfl) (kok_int (by kernel_rfl)) ?_
  refine Hn 1 Juv ?_
  exact Gk (W.z8e _ _ h _ _ hx _ (.map none) _ p1 fx0 (MpO.none 122 S1) fe0)
 ·
  try dsimp only at h
  obtain ⟨g35, rfl, f36⟩ := MpO.got fx6 h33
  refine Op_.deM 123 35 (.tmp 16) (.tmp 17) 0 35 4 5 x2 (sn e0.zf y34 (mdel (gn e0.zf y34) x2)) p1 rfl fe0.zf f36 (Goes.v0s (by kernel_rfl)) (by kernel_rfl) (by kernel_rfl) (by kernel_rfl) (kok_int (by kernel_rfl)) rfl fun w2 E37 z2 p2 f38 e39 => ?_
  refine Hn 1 Juv ?_
  exact Gk (W.z8e _ _ h _ _ (hx.t z2) _ _ ({Ee0 with zf := E37}) p2 (fx0.ext z2) (MpO.mk (f36.ext z2)) (PS.uzf (fe0.ext z2) f38))

def Qom := Yq 10 B69

theorem W.z89 (x0 : Option Nat) (x1 : ByteArray) (x2 : Int) (pl : Z) (r : Z) (h : M.a8c x0 x1 x2 pl = some r) {nz wz S0 w0 Lr} (vx0 Epl) (p0 : Hp nz wz S0 w0 (PL Epl (Lr))) (fx0 : PpO 126 S0 vx0 x0) (fpl : PS S0 w0 Epl pl) :
  Calls Tryz.prog 69 #[vx0, .string x1, .u x2] w0 (Rets (Post.z89 nz wz S0 w0 Lr r)) := by
 refine Zf Tryz.f69 B69 61 ?_
 refine Gj 64 [(0, vx0), (1, .string x1), (2, .u x2)] fun junk => ?_
 delta M.a8c at h
 refine Hn 3 (Zr Qom [1, 2, 3, 4, 5, 6] Jv0) ?_
 refine Gl h fun v32 h1 h => ?_
 rcases v32 with _ | y2
 ·
  try dsimp only at h
  obtain rfl := PpO.nil fx0 h1
  cases h
 ·
  try dsimp only at h
  obtain ⟨g3, rfl, f4⟩ := PpO.got fx0 h1
  refine Hn 2 (Zr Qom [3, 4, 5, 6] Jv0) ?_
  obtain ⟨cs5, q6, l7, e8, f9⟩ := Pl.row p0 7 rfl fpl.zh f4
  obtain ⟨_, _, rfl, q12, ⟨_, _, rfl, q15, ⟨_, _, rfl, q18, ⟨_, _, rfl, q21, ⟨_, _, rfl, rfl, rfl⟩⟩⟩⟩⟩ := q6
  obtain ⟨v10, rfl, f11⟩ := kMp_one (w := w0) q12
  obtain ⟨v13, rfl, f14⟩ := kMp_one (w := w0) q15
  obtain ⟨v16, rfl, f17⟩ := kMp_one (w := w0) q18
  obtain ⟨v19, rfl, f20⟩ := kPp_one (w := w0) q21
  refine Hd (f9 0 _ rfl) ?_
  refine Hn 1 (Zr Qom [5, 6] Jv0) ?_
  refine Gl h fun v31 h22 h => ?_
  rcases v31 with _ | y23
  ·
   try dsimp only at h
   obtain rfl := MpO.nil f11 h22
   refine Hn 3 Jv0 ?_
   exact Gk (W.z8f _ _ h _ _ (Ext.refl S0 w0) _ (.map none) _ p0 f4 (MpO.none 122 S0) fpl)
  ·
   try dsimp only at h
   obtain ⟨g24, rfl, f25⟩ := MpO.got f11 h22
   refine Gl h fun v26 e27 h => ?_
   refine Op_.lkM 121 (.tmp 13) (.tmp 14) 15 123 9 123 4 (.map none) (none : Option Nat) x1 v26 p0 rfl fpl.ze f25 Goes.v (by kernel_rfl) (by kernel_rfl) (by kernel_rfl) (kok_str (by kernel_rfl)) (by kernel_rfl) (show (kMp 122).rep S0 w0 [.map none] none from (MpO.none 122 S0)) e27 fun v28 f29 => ?_
   have f30 := one_mp f29
   refine Hn 2 Jv0 ?_
   exact Gk (W.z8f _ _ h _ _ (Ext.refl S0 w0) _ _ _ p0 f4 f30 fpl)

def Qoo := Yq 111111110100 B22
def Jv7 := Zl Qoo (Zb 0 (Ys 111111111 B22 []))
def Jv8 := Zc Qoo Jv7
def Jva := Zb 1 (Ys 111111110100111 B22 Jv7)
def Jvb := Ys 111111110100110011 B22 Jva
def Jvc := Ys 11111111010011001111 B22 Jva
def Jvj := Ys 1111111101001100111 B22 Jva
def Qoz := Yq 1111111101001100110 B22
def Qp0 := Yq 11111111010011001110 B22

def Post.z8g (r : Int × Z) (v : Value) (w' : World) : Prop :=
 ∃ S' Ee0, v = .i r.1 ∧ Ext S0 w0 S' w' ∧ Hp nz wz S' w' (PL Ee0 (Lr)) ∧ PS S' w' Ee0 r.2

def L.z8h : Nat × Int × (List T55) × Int × Int × Z → (Int × Z) → Prop := fun ⟨x0, x1, x41, x42, x43, e0⟩ r => ∀ S1 w1, Ext S0 w0 S1 w1 → ∀ gx0 u10a u10b u10c Ee0 (_ : Hp nz wz S1 w1 (PL Ee0 (Lr))) (_ : Pa 80 S1 x0 gx0) (_ : Rd kT55 S1 w1 u10a u10c x41) (_ : x41.length = u10b) (_ : PS S1 w1 Ee0 e0) (junk : Nat → Value),
 Goes Tryz.prog (base 22) Jv8 ⟨lfr 71 [(0, (pt gx0 0)), (1, .u x1), (41, .slice u10a u10b u10c), (42, .i x42), (43, .i x43)] junk, []⟩ w1 (Done Tryz.prog 22 (Rets (Post.z8g nz wz S0 w0 Lr r)))

def L.z8i : Nat × Int × T55 × (Option Nat) × (List T55) × Int × Int × Z → (Int × Z) → Prop := fun ⟨x0, x1, u10d, x11, x41, x42, x43, e0⟩ r => ∀ S1 w1, Ext S0 w0 S1 w1 → ∀ gx0 u10e u10f u10a u10b u10c Ee0 (_ : Hp nz wz S1 w1 ((some u10e, .row 56 (vT55 u10d) 2 0) :: PL Ee0 (Lr))) (_ : Pa 80 S1 x0 gx0) (_ : PpO 126 S1 u10f x11) (_ : Rd kT55 S1 w1 u10a u10c x41) (_ : x41.length = u10b) (_ : PS S1 w1 Ee0 e0) (junk : Nat → Value),
 Goes Tryz.prog (base 22) Jvb ⟨lfr 71 [(0, (pt gx0 0)), (1, .u x1), (10, (pt u10e 0)), (11, u10f), (41, .slice u10a u10b u10c), (42, .i x42), (43, .i x43)] junk, []⟩ w1 (Done Tryz.prog 22 (Rets (Post.z8g nz wz S0 w0 Lr r)))

def L.z8j : Nat × Int × T55 × (List T55) × Int × Int × Bool × Z → (Int × Z) → Prop := fun ⟨x0, x1, u10d, x41, x42, x43, x63, e0⟩ r => ∀ S1 w1, Ext S0 w0 S1 w1 → ∀ gx0 u10e u10a u10b u10c Ee0 (_ : Hp nz wz S1 w1 ((some u10e, .row 56 (vT55 u10d) 2 0) :: PL Ee0 (Lr))) (_ : Pa 80 S1 x0 gx0) (_ : Rd kT55 S1 w1 u10a u10c x41) (_ : x41.length = u10b) (_ : PS S1 w1 Ee0 e0) (junk : Nat → Value),
 Goes Tryz.prog (base 22) Jvc ⟨lfr 71 [(0, (pt gx0 0)), (1, .u x1), (10, (pt u10e 0)), (41, .slice u10a u10b u10c), (42, .i x42), (43, .i x43), (63, .bool x63)] junk, []⟩ w1 (Done Tryz.prog 22 (Rets (Post.z8g nz wz S0 w0 Lr r)))

def L.z8k : Nat × Int × (List T55) × Int × Int × Z → (Int × Z) → Prop := fun ⟨x0, x1, x41, x42, x43, e0⟩ r => ∀ S1 w1, Ext S0 w0 S1 w1 → ∀ gx0 u10a u10b u10c Ee0 (_ : Hp nz wz S1 w1 (PL Ee0 (Lr))) (_ : Pa 80 S1 x0 gx0) (_ : Rd kT55 S1 w1 u10a u10c x41) (_ : x41.length = u10b) (_ : PS S1 w1 Ee0 e0) (junk : Nat → Value),
 Goes Tryz.prog (base 22) Jva ⟨lfr 71 [(0, (pt gx0 0)), (1, .u x1), (41, .slice u10a u10b u10c), (42, .i x42), (43, .i x43)] junk, []⟩ w1 (Done Tryz.prog 22 (Rets (Post.z8g nz wz S0 w0 Lr r)))

theorem W.z8l {nz wz S0 w0 Lr} : (∀ a r, M.a55 a = some r → (L.z8h nz wz S0 w0 Lr) a r) ∧ (∀ a r, M.a6t a = some r → (L.z8i nz wz S0 w0 Lr) a r) ∧ (∀ a r, M.a8d a = some r → (L.z8j nz wz S0 w0 Lr) a r) ∧ (∀ a r, M.a56 a = some r → (L.z8k nz wz S0 w0 Lr) a r) := by
 refine M.a55.mutual_partial_correctness (L.z8h nz wz S0 w0 Lr) (L.z8i nz wz S0 w0 Lr) (L.z8j nz wz S0 w0 Lr) (L.z8k nz wz S0 w0 Lr) ?_ ?_ ?_ ?_
 ·
  intro u10g u10h ⟨x0, x1, x41, x42, x43, e0⟩ r h S1 w1 hx gx0 u10a u10b u10c Ee0 p1 fx0 upp u10i fe0 junk
  try dsimp only at h
  subst u10i
  refine Hn 5 (Ys 11111111010010 B22 (Ys 11111111010011 B22 Jv7)) ?_
  refine Hb [(44, .bool (decide (x43 < x42)))] ?_
  refine Gi h (fun h77 h => ?_) fun h77 h => ?_
  ·
   rw [dt h77]
   refine Hn 6 (Yt 11111111010011000 B22 [0, 1, 2, 3] (Ys 11111111010011001 B22 Jva)) ?_
   refine Gg h fun g78 h => ?_
   refine Gg h fun g79 h => ?_
   refine Oi 38 (.tmp 41) (.tmp 43) 45 0 56 .i64 x43 (gi x41 x43) rfl rfl upp Goes.v g78 g79 fun a80 _ f81 q82 => ?_
   obtain ⟨_, _, rfl, rfl, rfl⟩ := q82
   refine Goes.ldN 56 (.tmp 45) 46 56 a80 ([.string ((gi x41 x43).Name)] ++ [.string ((gi x41 x43).Value)]) (f81.cell) ?_
   refine Oa 56 10 0 (.agg #[.string (⟨#[]⟩ : ByteArray), .string (⟨#[]⟩ : ByteArray)]) [.string (⟨#[]⟩ : ByteArray), .string (⟨#[]⟩ : ByteArray)] p1 Goes.v fun b83 w6 z6 p6 => ?_
   refine So 56 (.tmp 10) (.tmp 46) 0 0 b83 0 ((ag (vT55 (gi x41 x43)))) (vT55 (gi x41 x43)) p6 rfl Goes.s fun w7 z7 p7 => ?_
   refine Hn 2 (Ys 111111110100110010 B22 Jvb) ?_
   obtain ⟨u101, q86, l87, e88, f89⟩ := Pl.row p7 4 rfl (fe0.zd.ext (z6.t z7)) (fx0.ext (z6.t z7))
   obtain ⟨_, _, rfl, q92, ⟨_, _, rfl, q95, q98⟩⟩ := q86
   obtain ⟨v90, rfl, f91⟩ := kMp_one (w := w7) q92
   obtain ⟨v93, rfl, f94⟩ := kMp_one (w := w7) q95
   obtain ⟨v96, rfl, f97⟩ := kMp_one (w := w7) q98
   have z8 : Ext S1 w7 S1 (w7).drew := Ext.draw
   have p8 := p7.draw
   refine Gd [] (Fc S1 (w7).drew [(⟨gx0, 2, none⟩, v96), (⟨b83, 0, none⟩, .string ((gi x41 x43).Name))]) 12 8 ?_
   generalize (w7).drew = w8 at z8 p8 ⊢
   refine Hq [0, 1, 2] 3 (Fc.here ⟨(p8.poolCell 4 rfl e88 2 _ rfl), (p8.c 0 0), trivial⟩) ?_
   refine Hl 3 (Fc.here ⟨(p8.poolCell 4 rfl e88 2 _ rfl), (p8.c 0 0), trivial⟩) (fun _ h => h.2.at_ 0 rfl) ?_
   refine Hq [4] 1 (Fc.here ⟨(p8.poolCell 4 rfl e88 2 _ rfl), (p8.c 0 0), trivial⟩) ?_
   refine Hl 5 (Fc.here ⟨(p8.poolCell 4 rfl e88 2 _ rfl), (p8.c 0 0), trivial⟩) (fun _ h => h.2.at_ 1 rfl) ?_
   refine Gl h fun ue9 h99 h => ?_
   rcases ue9 with _ | u10j
   ·
    try dsimp only at h
    obtain rfl := MpO.nil (f97.ext z8) h99
    refine Hq [6, 7] 2 (Fc.here ⟨(p8.poolCell 4 rfl e88 2 _ rfl), (p8.c 0 0), trivial⟩) ?_
    refine Ad ?_
    exact Gk (u10h _ _ h _ _ (((hx.t z6).t z7).t z8) _ _ (.pointer none) _ _ _ _ p8 (fx0.ext ((z6.t z7).t z8)) (PpO.none 126 S1) (upp.ext ((z6.t z7).t z8)) rfl (fe0.ext ((z6.t z7).t z8)))
   ·
    try dsimp only at h
    obtain ⟨u10k, rfl, ua1⟩ := MpO.got (f97.ext z8) h99
    refine Gl h fun ua2 ua3 h => ?_
    refine Op_.lkM 79 (.tmp 50) (.tmp 52) 53 119 9 119 3 (.pointer none) (none : Option Nat) ((gi x41 x43).Name) ua2 p8 rfl (fe0.zc.ext ((z6.t z7).t z8)) ua1 (Av 6) (by kernel_rfl) (by kernel_rfl) (by kernel_rfl) (kok_str (by kernel_rfl)) (by kernel_rfl) (show (kPp 126).rep S1 w8 [.pointer none] none from (PpO.none 126 S1)) ua3 fun u107 ua5 => ?_
    have ue8 := one_pp ua5
    refine AnyG.next (Ext.refl _ _) ⟨(p8.poolCell 4 rfl e88 2 _ rfl), (p8.c 0 0), trivial⟩ ?_
    refine Hq [7] 1 (Fc.here ⟨(p8.poolCell 4 rfl e88 2 _ rfl), (p8.c 0 0), trivial⟩) ?_
    refine Ad ?_
    exact Gk (u10h _ _ h _ _ (((hx.t z6).t z7).t z8) _ _ _ _ _ _ _ p8 (fx0.ext ((z6.t z7).t z8)) ue8 (upp.ext ((z6.t z7).t z8)) rfl (fe0.ext ((z6.t z7).t z8)))
  ·
   rw [df h77]
   refine Hn 6 (Ys 1111111111 B22 []) ?_
   obtain rfl := sj h
   exact Hr Tryz.f22 ⟨_, _, rfl, hx, p1, fe0⟩
 ·
  intro u10l u10m ⟨x0, x1, u10d, x11, x41, x42, x43, e0⟩ r h S1 w1 hx gx0 u10e u10f u10a u10b u10c Ee0 p1 fx0 u10n upp u10i fe0 junk
  try dsimp only at h
  subst u10i
  refine Hn 4 (Zr Qoz [2, 3, 4] Jvj) ?_
  refine Hd (p1.e 0 1) ?_
  refine Hn 1 (Zr Qoz [4] Jvj) ?_
  have p1 := p1.rt 1 10
  refine Gb h fun u10o ua9 h => ?_
  refine Gc (kc 69 [54, 56, 57] #[119, 9, 35]) 58 0 69 _ (W.z89 x11 u10d.Value x1 e0 u10o ua9 _ _ p1 u10n fe0) ?_
  rintro _ w9 ⟨S9, ure, rfl, z9, p9, urg⟩
  refine Hn 4 (Zr Qp0 [1, 2, 3, 4] Jvc) ?_
  refine Gl h fun uzi u10p h => ?_
  rcases uzi with _ | u10q
  ·
   try dsimp only at h
   obtain rfl := PpO.nil (u10n.ext z9) u10p
   cases h
  ·
   try dsimp only at h
   obtain ⟨uza, rfl, u10r⟩ := PpO.got (u10n.ext z9) u10p
   refine Hn 2 (Zr Qp0 [3, 4] Jvc) ?_
   obtain ⟨u10s, u10t, u10u, u10v, uak⟩ := Pl.row p9 7 rfl urg.zh u10r
   obtain ⟨_, _, rfl, umf, ⟨_, _, rfl, u10w, ⟨_, _, rfl, u10x, ⟨_, _, rfl, uhr, ⟨_, _, rfl, rfl, rfl⟩⟩⟩⟩⟩ := u10t
   obtain ⟨u10y, rfl, uel⟩ := kMp_one (w := w9) umf
   obtain ⟨u10z, rfl, umg⟩ := kMp_one (w := w9) u10w
   obtain ⟨uec, rfl, uar⟩ := kMp_one (w := w9) u10x
   obtain ⟨u110, rfl, uhs⟩ := kPp_one (w := w9) uhr
   refine Hd (uak 5 _ rfl) ?_
   refine Hn 2 Jvc ?_
   have p9 := p9.fr 10
   exact Gk (u10m _ _ h _ _ (hx.t z9) _ _ _ _ _ _ p9 (fx0.ext z9) (upp.ext z9) rfl urg)
 ·
  intro u111 u112 ⟨x0, x1, u10d, x41, x42, x43, x63, e0⟩ r h S1 w1 hx gx0 u10e u10a u10b u10c Ee0 p1 fx0 upp u10i fe0 junk
  try dsimp only at h
  subst u10i
  refine Hb [(63, .bool x63)] ?_
  refine Gi h (fun u113 h => ?_) fun u113 h => ?_
  ·
   rw [u113]
   refine Hn 1 (Ys 111111110100110011110 B22 Jva) ?_
   obtain ⟨u114, uhu, u115, u116, ub3⟩ := Pl.row p1 4 rfl fe0.zd fx0
   obtain ⟨_, _, rfl, u117, ⟨_, _, rfl, uzn, uzo⟩⟩ := uhu
   obtain ⟨u118, rfl, u119⟩ := kMp_one (w := w1) u117
   obtain ⟨uzq, rfl, uzr⟩ := kMp_one (w := w1) uzn
   obtain ⟨ubb, rfl, uqf⟩ := kMp_one (w := w1) uzo
   have z10 : Ext S1 w1 S1 (w1).drew := Ext.draw
   have p10 := p1.draw
   refine Gd [6] (Fc S1 (w1).drew [(⟨gx0, 2, none⟩, ubb), (⟨u10e, 0, none⟩, .string u10d.Name)]) 15 7 ?_
   generalize (w1).drew = w10 at z10 p10 ⊢
   refine Hq [0, 1, 2] 3 (Fc.here ⟨(p10.poolCell 4 rfl u116 2 _ rfl), (p10.c 0 0), trivial⟩) ?_
   refine Hl 3 (Fc.here ⟨(p10.poolCell 4 rfl u116 2 _ rfl), (p10.c 0 0), trivial⟩) (fun _ h => h.2.at_ 0 rfl) ?_
   refine Hq [4] 1 (Fc.here ⟨(p10.poolCell 4 rfl u116 2 _ rfl), (p10.c 0 0), trivial⟩) ?_
   refine Hl 5 (Fc.here ⟨(p10.poolCell 4 rfl u116 2 _ rfl), (p10.c 0 0), trivial⟩) (fun _ h => h.2.at_ 1 rfl) ?_
   refine Gl h fun ub4 u11a h => ?_
   rcases ub4 with _ | u11b
   ·
    try dsimp only at h
    obtain rfl := MpO.nil (uqf.ext z10) u11a
    refine Op_.deN 79 9 (.tmp 67) (.tmp 69) 0 9 119 u10d.Name (enc := Value.string) (AnyG.v0 (i := 6) (by kernel_rfl) (by kernel_rfl)) (by kernel_rfl) (by kernel_rfl) (by kernel_rfl) (kok_str (by kernel_rfl)) ?_
    refine AnyG.last [] (Fc S1 w10 []) (by decide) ?_
    refine Ad ?_
    have p10 := p10.dp 0
    exact Gk (u112 _ _ h _ _ (hx.t z10) _ _ _ _ _ p10 (fx0.ext z10) (upp.ext z10) rfl (fe0.ext z10))
   ·
    try dsimp only at h
    obtain ⟨u11c, rfl, ubh⟩ := MpO.got (uqf.ext z10) u11a
    refine Gl h fun u11d u11e h => ?_
    refine Op_.deM 79 9 (.tmp 67) (.tmp 69) 0 9 119 3 u10d.Name u11d p10 rfl (fe0.zc.ext z10) ubh (AnyG.v0 (i := 6) (by kernel_rfl) (by kernel_rfl)) (by kernel_rfl) (by kernel_rfl) (by kernel_rfl) (kok_str (by kernel_rfl)) u11e fun w11 u11f z11 p11 u11g u11h => ?_
    refine AnyG.last [] (Fc S1 w11 []) (by decide) ?_
    refine Ad ?_
    have p11 := p11.dp 0
    exact Gk (u112 _ _ h _ _ ((hx.t z10).t z11) _ _ _ _ ({Ee0 with zc := u11f}) p11 (fx0.ext (z10.t z11)) (upp.ext (z10.t z11)) rfl (PS.uzc (fe0.ext (z10.t z11)) u11g))
  ·
   rw [bf u113]
   refine Hn 2 Jva ?_
   have p1 := p1.dp 0
   exact Gk (u112 _ _ h _ _ hx _ _ _ _ _ p1 fx0 upp rfl fe0)
 ·
  intro u11j u11k ⟨x0, x1, x41, x42, x43, e0⟩ r h S1 w1 hx gx0 u10a u10b u10c Ee0 p1 fx0 upp u10i fe0 junk
  try dsimp only at h
  subst u10i
  refine Hn 6 Jv8 ?_
  exact Gk (u11k _ _ h _ _ hx _ _ _ _ _ p1 fx0 upp rfl fe0)

theorem W.z8h {nz wz S0 w0 Lr} : ∀ a r, M.a55 a = some r → (L.z8h nz wz S0 w0 Lr) a r := (W.z8l).1

theorem W.z8i {nz wz S0 w0 Lr} : ∀ a r, M.a6t a = some r → (L.z8i nz wz S0 w0 Lr) a r := (W.z8l).2.1

theorem W.z8j {nz wz S0 w0 Lr} : ∀ a r, M.a8d a = some r → (L.z8j nz wz S0 w0 Lr) a r := (W.z8l).2.2.1

theorem W.z8k {nz wz S0 w0 Lr} : ∀ a r, M.a56 a = some r → (L.z8k nz wz S0 w0 Lr) a r := (W.z8l).2.2.2

def Jvp := Ys 11111111 B22 []

def L.z8m : Nat × Int × (List T55) × Z → (Int × Z) → Prop := fun ⟨x0, x1, x5, e0⟩ r => ∀ S1 w1, Ext S0 w0 S1 w1 → ∀ gx0 Ax5 nx5 cx5 Ee0 (_ : Hp nz wz S1 w1 (PL Ee0 (Lr))) (_ : Pa 80 S1 x0 gx0) (_ : Rd kT55 S1 w1 Ax5 cx5 x5) (_ : x5.length = nx5) (_ : PS S1 w1 Ee0 e0) (junk : Nat → Value),
 Goes Tryz.prog (base 22) Jvp ⟨lfr 71 [(0, (pt gx0 0)), (1, .u x1), (5, .slice Ax5 nx5 cx5)] junk, []⟩ w1 (Done Tryz.prog 22 (Rets (Post.z8g nz wz S0 w0 Lr r)))

theorem W.z8m {nz wz S0 w0 Lr} : ∀ a r, M.a6u a = some r → L.z8m nz wz S0 w0 Lr a r := by
 intro ⟨x0, x1, x5, e0⟩ r h S1 w1 hx gx0 Ax5 nx5 cx5 Ee0 p1 fx0 fx5 lx5 fe0 junk
 rw [M.a6u] at h
 try dsimp only at h
 subst lx5
 refine Hn 9 Jv8 ?_
 exact Gk (W.z8h _ _ h _ _ hx _ _ _ _ _ p1 fx0 fx5 rfl fe0)

def Jvq := Ys 1111111 B22 []
def Qp4 := Yq 11111110 B22

def L.z8n : Nat × Int × (List T55) × ByteArray × Z → (Int × Z) → Prop := fun ⟨x0, x1, x5, x7, e0⟩ r => ∀ S1 w1, Ext S0 w0 S1 w1 → ∀ gx0 Ax5 nx5 cx5 Ee0 (_ : Hp nz wz S1 w1 (PL Ee0 (Lr))) (_ : Pa 80 S1 x0 gx0) (_ : Rd kT55 S1 w1 Ax5 cx5 x5) (_ : x5.length = nx5) (_ : PS S1 w1 Ee0 e0) (junk : Nat → Value),
 Goes Tryz.prog (base 22) Jvq ⟨lfr 71 [(0, (pt gx0 0)), (1, .u x1), (5, .slice Ax5 nx5 cx5), (7, .string x7)] junk, []⟩ w1 (Done Tryz.prog 22 (Rets (Post.z8g nz wz S0 w0 Lr r)))

theorem W.z8n {nz wz S0 w0 Lr} : ∀ a r, M.a6v a = some r → L.z8n nz wz S0 w0 Lr a r := by
 intro ⟨x0, x1, x5, x7, e0⟩ r h S1 w1 hx gx0 Ax5 nx5 cx5 Ee0 p1 fx0 fx5 lx5 fe0 junk
 rw [M.a6v] at h
 try dsimp only at h
 subst lx5
 refine Hn 5 (Zr Qp4 [3, 4, 5] Jvp) ?_
 obtain ⟨u11l, q56, l57, e58, f59⟩ := Pl.row p1 3 rfl fe0.zd fx0
 obtain ⟨_, _, rfl, q62, ⟨_, _, rfl, q65, q68⟩⟩ := q56
 obtain ⟨v60, rfl, f61⟩ := kMp_one (w := w1) q62
 obtain ⟨v63, rfl, f64⟩ := kMp_one (w := w1) q65
 obtain ⟨v66, rfl, f67⟩ := kMp_one (w := w1) q68
 refine Hd (f59 1 _ rfl) ?_
 refine Hn 1 (Zr Qp4 [5] Jvp) ?_
 refine Gl h fun v76 h69 h => ?_
 rcases v76 with _ | y70
 ·
  try dsimp only at h
  obtain rfl := MpO.nil f64 h69
  refine Op_.deN 78 9 (.tmp 39) (.tmp 40) 0 9 35 x7 (enc := Value.string) (Goes.v0s (by kernel_rfl)) (by kernel_rfl) (by kernel_rfl) (by kernel_rfl) (kok_str (by kernel_rfl)) ?_
  refine Hn 1 Jvp ?_
  exact Gk (W.z8m _ _ h _ _ hx _ _ _ _ _ p1 fx0 fx5 rfl fe0)
 ·
  try dsimp only at h
  obtain ⟨g71, rfl, f72⟩ := MpO.got f64 h69
  refine Op_.deM 78 9 (.tmp 39) (.tmp 40) 0 9 35 1 x7 (sn e0.zb y70 (mdel (gn e0.zb y70) x7)) p1 rfl fe0.zb f72 (Goes.v0s (by kernel_rfl)) (by kernel_rfl) (by kernel_rfl) (by kernel_rfl) (kok_str (by kernel_rfl)) rfl fun w5 E73 z5 p5 f74 e75 => ?_
  refine Hn 1 Jvp ?_
  exact Gk (W.z8m _ _ h _ _ (hx.t z5) _ _ _ _ ({Ee0 with zb := E73}) p5 (fx0.ext z5) (fx5.ext z5) rfl (PS.uzb (fe0.ext z5) f74))

def Jvt := Ys 1111 B22 []
def Jvu := Ys 11111 B22 []
def Qpa := Yq 1111110 B22

def L.z8o : Nat × Int × (List T55) × Bool × Z → (Int × Z) → Prop := fun ⟨x0, x1, x5, x6, e0⟩ r => ∀ S1 w1, Ext S0 w0 S1 w1 → ∀ gx0 Ax5 nx5 cx5 Ee0 (_ : Hp nz wz S1 w1 (PL Ee0 (Lr))) (_ : Pa 80 S1 x0 gx0) (_ : Rd kT55 S1 w1 Ax5 cx5 x5) (_ : x5.length = nx5) (_ : PS S1 w1 Ee0 e0) (junk : Nat → Value),
 Goes Tryz.prog (base 22) Jvt ⟨lfr 71 [(0, (pt gx0 0)), (1, .u x1), (5, .slice Ax5 nx5 cx5), (6, .bool x6)] junk, []⟩ w1 (Done Tryz.prog 22 (Rets (Post.z8g nz wz S0 w0 Lr r)))

theorem W.z8o {nz wz S0 w0 Lr} : ∀ a r, M.a6w a = some r → L.z8o nz wz S0 w0 Lr a r := by
 intro ⟨x0, x1, x5, x6, e0⟩ r h S1 w1 hx gx0 Ax5 nx5 cx5 Ee0 p1 fx0 fx5 lx5 fe0 junk
 rw [M.a6w] at h
 try dsimp only at h
 subst lx5
 refine Hn 6 (Ys 111101 B22 Jvu) ?_
 refine Hb [(6, .bool x6), (24, .bool x6), (25, .bool (!x6))] ?_
 refine Gi h (fun h30 h => ?_) fun h30 h => ?_
 ·
  rw [h30]
  refine Hn 5 (Yt 111110 B22 [1, 2, 3, 4, 5, 6] (Ys 111111 B22 [])) ?_
  refine Gb h fun y31 e32 h => ?_
  refine Gc (kc 65 [27] #[38]) 28 129 65 _ (W.zj x5 y31 e32 _ _ _ p1 fx5 rfl) ?_
  rintro _ w3 ⟨S3, rfl, z3, p3⟩
  refine Hn 11 (Zr Qpa [3, 4, 5] Jvq) ?_
  obtain ⟨ues, q34, l35, e36, f37⟩ := Pl.row p3 3 rfl (fe0.zd.ext z3) (fx0.ext z3)
  obtain ⟨_, _, rfl, q40, ⟨_, _, rfl, q43, q46⟩⟩ := q34
  obtain ⟨v38, rfl, f39⟩ := kMp_one (w := w3) q40
  obtain ⟨v41, rfl, f42⟩ := kMp_one (w := w3) q43
  obtain ⟨v44, rfl, f45⟩ := kMp_one (w := w3) q46
  refine Hd (f37 0 _ rfl) ?_
  refine Hn 1 (Zr Qpa [5] Jvq) ?_
  refine Gl h fun v54 h47 h => ?_
  rcases v54 with _ | y48
  ·
   try dsimp only at h
   obtain rfl := MpO.nil f39 h47
   refine Op_.deN 77 35 (.tmp 34) (.tmp 35) 0 35 38 x1 (enc := (Value.int .u64)) (Goes.v0s (by kernel_rfl)) (by kernel_rfl) (by kernel_rfl) (by kernel_rfl) (kok_int (by kernel_rfl)) ?_
   refine Hn 1 Jvq ?_
   exact Gk (W.z8n _ _ h _ _ (hx.t z3) _ _ _ _ _ p3 (fx0.ext z3) (fx5.ext z3) rfl (fe0.ext z3))
  ·
   try dsimp only at h
   obtain ⟨g49, rfl, f50⟩ := MpO.got f39 h47
   refine Op_.deM 77 35 (.tmp 34) (.tmp 35) 0 35 38 0 x1 (sn e0.za y48 (mdel (gn e0.za y48) x1)) p3 rfl (fe0.za.ext z3) f50 (Goes.v0s (by kernel_rfl)) (by kernel_rfl) (by kernel_rfl) (by kernel_rfl) (kok_int (by kernel_rfl)) rfl fun w4 E51 z4 p4 f52 e53 => ?_
   refine Hn 1 Jvq ?_
   exact Gk (W.z8n _ _ h _ _ ((hx.t z3).t z4) _ _ _ _ ({Ee0 with za := E51}) p4 (fx0.ext (z3.t z4)) (fx5.ext (z3.t z4)) rfl (PS.uza (fe0.ext (z3.t z4)) f52))
 ·
  rw [bf h30]
  refine Hn 5 (Ys 11110101 B22 Jvu) ?_
  obtain rfl := sj h
  exact Hr Tryz.f22 ⟨_, _, rfl, hx, p1, fe0⟩

def Qpc := Yq 1110 B22

theorem W.z8g (x0 : Nat) (x1 : Int) (pl : Z) (r : Int × Z) (h : M.a57 x0 x1 pl = some r) {nz wz S0 w0 Lr} (gx0 Epl) (p0 : Hp nz wz S0 w0 (PL Epl (Lr))) (fx0 : Pa 80 S0 x0 gx0) (fpl : PS S0 w0 Epl pl) :
  Calls Tryz.prog 22 #[(pt gx0 0), .u x1] w0 (Rets (Post.z8g nz wz S0 w0 Lr r)) := by
 refine Zf Tryz.f22 B22 69 ?_
 refine Gj 71 [(0, (pt gx0 0)), (1, .u x1)] fun junk => ?_
 delta M.a57 at h
 refine Hn 8 Jtk ?_
 refine Gb h fun y1 e2 h => ?_
 refine Gc (kc 59 [12] #[24]) 13 4 59 _ (W.z1 x0 pl y1 e2 _ _ p0 fx0 fpl) ?_
 rintro _ w2 ⟨S2, rfl, z2, p2⟩
 refine Hn 2 Jtj ?_
 refine Hb [(13, .bool y1), (14, .bool (!y1))] ?_
 refine Gi h (fun h3 h => ?_) fun h3 h => ?_
 ·
  rw [h3]
  refine Hn 7 (Zr Qpc [3, 4, 5, 6, 7, 8, 9, 10] Jvt) ?_
  obtain ⟨cs4, q5, l6, e7, f8⟩ := Pl.row p2 3 rfl (fpl.zd.ext z2) (fx0.ext z2)
  obtain ⟨_, _, rfl, q11, ⟨_, _, rfl, q14, q17⟩⟩ := q5
  obtain ⟨v9, rfl, f10⟩ := kMp_one (w := w2) q11
  obtain ⟨v12, rfl, f13⟩ := kMp_one (w := w2) q14
  obtain ⟨v15, rfl, f16⟩ := kMp_one (w := w2) q17
  refine Hd (f8 0 _ rfl) ?_
  refine Hn 1 (Zr Qpc [5, 6, 7, 8, 9, 10] Jvt) ?_
  refine Gl h fun v29 h18 h => ?_
  rcases v29 with _ | y19
  ·
   try dsimp only at h
   obtain rfl := MpO.nil f10 h18
   refine Hn 7 Jvt ?_
   exact Gk (W.z8o _ _ h _ _ z2 _ none 0 0 _ p2 (fx0.ext z2) Rd.none_ rfl (fpl.ext z2))
  ·
   try dsimp only at h
   obtain ⟨g20, rfl, f21⟩ := MpO.got f10 h18
   refine Gl h fun v22 e23 h => ?_
   refine Op_.lkMk 77 (.tmp 19) (.tmp 20) 21 57 35 38 0 (.slice none 0 0) ([] : List T55) x1 v22 p2 rfl (fpl.za.ext z2) f21 Goes.v (by kernel_rfl) (by kernel_rfl) (by kernel_rfl) (kok_int (by kernel_rfl)) (by kernel_rfl) ⟨none, 0, rfl, Rd.none_⟩ e23 fun v24 f25 => ?_
   obtain ⟨A26, c27, rfl, f28⟩ := one_sl f25
   refine Hn 6 Jvt ?_
   exact Gk (W.z8o _ _ h _ _ z2 _ _ _ _ _ p2 (fx0.ext z2) f28 rfl (fpl.ext z2))
 ·
  rw [bf h3]
  refine Hn 5 Jtl ?_
  obtain rfl := sj h
  exact Hr Tryz.f22 ⟨_, _, rfl, z2, p2, (fpl.ext z2)⟩

def Jw3 := Ys 111 B28 []
def Jw4 := Ys 1101 B28 Jw3
def Jw5 := Yt 1100 B28 [1, 2] Jw4
def Jw6 := Ys 110101 B28 Jw3

def Post.z8p (Epl : ZE) (pl : Z) (r : Unit) (v : Value) (w' : World) : Prop :=
 ∃ S', v = .pointer none ∧ Ext S0 w0 S' w' ∧ Hp nz wz S' w' (PL Epl (Lr))

theorem W.z8p (pl : Z) (r : Unit) (h : M.a6x pl = some r) {nz wz S0 w0 Lr} (Epl) (p0 : Hp nz wz S0 w0 (PL Epl (Lr))) (fpl : PS S0 w0 Epl pl) :
  Calls Tryz.prog 28 #[.pointer none] w0 (Rets (Post.z8p nz wz S0 w0 Lr Epl pl r)) := by
 refine Zf Tryz.f28 B28 24 ?_
 refine Gj 25 [(0, .pointer none)] fun junk => ?_
 delta M.a6x at h
 refine Hn 8 Jw5 ?_
 refine Gb h fun y1 e2 h => ?_
 refine Gc (kc 59 [6] #[24]) 7 4 59 _ (W.z5u pl y1 e2 _ p0 fpl) ?_
 rintro _ w2 ⟨S2, rfl, z2, p2⟩
 refine Hn 7 Jw6 ?_
 obtain rfl := sj h
 exact Hr Tryz.f28 ⟨_, rfl, z2, p2⟩

def Jw7 := Ys 11111 B28 []
def Qpi := Yq 11110100 B28
def Jw9 := Zl Qpi (Zb 0 Jw7)
def Jwa := Zc Qpi Jw9

def Post.z8q (r : (Option Nat) × Z) (v : Value) (w' : World) : Prop :=
 ∃ S' vq Ee0, v = vq ∧ Ext S0 w0 S' w' ∧ Hp nz wz S' w' (PL Ee0 (Lr)) ∧ PpO 80 S' vq r.1 ∧ PS S' w' Ee0 r.2

def L.z8r : Nat × Z → ((Option Nat) × Z) → Prop := fun ⟨x3, e0⟩ r => ∀ S1 w1, Ext S0 w0 S1 w1 → ∀ gx3 ubt Ee0 (_ : Hp nz wz S1 w1 ((some ubt, .obj (.mapIter none 0 #[] 0)) :: PL Ee0 (Lr))) (_ : Pa 80 S1 x3 gx3) (_ : PS S1 w1 Ee0 e0) (junk : Nat → Value),
 Goes Tryz.prog (base 28) Jwa ⟨lfr 25 [(3, (pt gx3 0)), (14, (pt ubt 0))] junk, []⟩ w1 (Done Tryz.prog 28 (Rets (Post.z8q nz wz S0 w0 Lr r)))

theorem W.z8r {nz wz S0 w0 Lr} : ∀ a r, M.a8e a = some r → L.z8r nz wz S0 w0 Lr a r := by
 intro ⟨x3, e0⟩ r h S1 w1 hx gx3 ubt Ee0 p1 fx3 fe0 junk
 rw [M.a8e] at h
 try dsimp only at h
 refine Hn 2 (Yt 111101000 B28 [0, 1] (Ys 111101001 B28 Jw9)) ?_
 refine Op_.nxN (.tmp 14) 15 0 0 ubt p1 rfl Goes.v (by kernel_rfl) ?_
 refine Hn 10 (Ys 111111 B28 []) ?_
 obtain rfl := sj h
 have p1 := p1.dp 0
 exact Hr Tryz.f28 ⟨_, _, _, rfl, hx, p1, (PpO.mk fx3), fe0⟩

def Jwe := Ys 111101 B28 Jw7

def L.z8s : Nat × Z → ((Option Nat) × Z) → Prop := fun ⟨x3, e0⟩ r => ∀ S1 w1, Ext S0 w0 S1 w1 → ∀ gx3 ubt Ee0 (_ : Hp nz wz S1 w1 ((some ubt, .obj (.mapIter none 0 #[] 0)) :: PL Ee0 (Lr))) (_ : Pa 80 S1 x3 gx3) (_ : PS S1 w1 Ee0 e0) (junk : Nat → Value),
 Goes Tryz.prog (base 28) Jwe ⟨lfr 25 [(3, (pt gx3 0)), (14, (pt ubt 0))] junk, []⟩ w1 (Done Tryz.prog 28 (Rets (Post.z8q nz wz S0 w0 Lr r)))

theorem W.z8s {nz wz S0 w0 Lr} : ∀ a r, M.a8f a = some r → L.z8s nz wz S0 w0 Lr a r := by
 intro ⟨x3, e0⟩ r h S1 w1 hx gx3 ubt Ee0 p1 fx3 fe0 junk
 rw [M.a8f] at h
 try dsimp only at h
 refine Hn 2 Jwa ?_
 exact Gk (W.z8r _ _ h _ _ hx _ _ _ p1 fx3 fe0)


theorem W.z8q (x0 : Nat) (pl : Z) (r : (Option Nat) × Z) (h : M.a58 x0 pl = some r) {nz wz S0 w0 Lr} (gx0 Epl) (p0 : Hp nz wz S0 w0 (PL Epl (Lr))) (fx0 : Pa 80 S0 x0 gx0) (fpl : PS S0 w0 Epl pl) :
  Calls Tryz.prog 28 #[(pt gx0 0)] w0 (Rets (Post.z8q nz wz S0 w0 Lr r)) := by
 refine Zf Tryz.f28 B28 24 ?_
 refine Gj 25 [(0, (pt gx0 0))] fun junk => ?_
 delta M.a58 at h
 refine Hn 8 Jw5 ?_
 refine Gb h fun y1 e2 h => ?_
 refine Gc (kc 59 [6] #[24]) 7 4 59 _ (W.z1 x0 pl y1 e2 _ _ p0 fx0 fpl) ?_
 rintro _ w2 ⟨S2, rfl, z2, p2⟩
 refine Hn 2 Jw4 ?_
 refine Hb [(7, .bool y1), (8, .bool (!y1))] ?_
 refine Gi h (fun h3 h => ?_) fun h3 h => ?_
 ·
  rw [h3]
  refine Hn 4 (Yt 1110 B28 [0, 1] (Ys 1111 B28 [])) ?_
  refine Gb h fun y4 e5 h => ?_
  refine Gc (kc 23 [] #[]) 9 24 23 _ (W.z0 pl y4 e5 _ p2 (fpl.ext z2)) ?_
  rintro _ w3 ⟨S3, uet, ueu, rfl, z3, p3, u1h, uev⟩
  refine Hn 8 (Yt 111100 B28 [3, 4] Jwe) ?_
  obtain ⟨cs6, q7, l8, e9, f10⟩ := Pl.row p3 3 rfl uev.zd (fx0.ext (z2.t z3))
  obtain ⟨_, _, rfl, q13, ⟨_, _, rfl, q16, q19⟩⟩ := q7
  obtain ⟨v11, rfl, f12⟩ := kMp_one (w := w3) q13
  obtain ⟨v14, rfl, f15⟩ := kMp_one (w := w3) q16
  obtain ⟨v17, rfl, f18⟩ := kMp_one (w := w3) q19
  refine Hd (f10 0 _ rfl) ?_
  refine Gl h fun v27 h20 h => ?_
  rcases v27 with _ | y21
  ·
   try dsimp only at h
   obtain rfl := MpO.nil f12 h20
   refine Op_.rgN 77 (.tmp 13) 14 0 35 38 p3 Goes.v (by kernel_rfl) (by kernel_rfl) fun r24 w4 z4 p4 => ?_
   refine Hn 1 Jwe ?_
   exact Gk (W.z8s _ _ h _ _ ((z2.t z3).t z4) _ _ _ p4 (u1h.ext z4) (uev.ext z4))
  ·
   try dsimp only at h
   obtain ⟨g22, rfl, f23⟩ := MpO.got f12 h20
   cases h
 ·
  rw [bf h3]
  refine Hn 5 Jw6 ?_
  obtain rfl := sj h
  exact Hr Tryz.f28 ⟨_, _, _, rfl, z2, p2, (PpO.none 80 S2), (fpl.ext z2)⟩

def Post.z8t (Epl : ZE) (pl : Z) (r : Unit) (v : Value) (w' : World) : Prop :=
 ∃ S', v = .slice none 0 0 ∧ Ext S0 w0 S' w' ∧ Hp nz wz S' w' (PL Epl (Lr))

theorem W.z8t (pl : Z) (r : Unit) (h : M.a6y pl = some r) {nz wz S0 w0 Lr} (Epl) (p0 : Hp nz wz S0 w0 (PL Epl (Lr))) (fpl : PS S0 w0 Epl pl) :
  Calls Tryz.prog 39 #[.pointer none] w0 (Rets (Post.z8t nz wz S0 w0 Lr Epl pl r)) := by
 refine Zf Tryz.f39 B39 11 ?_
 refine Gj 12 [(0, .pointer none)] fun junk => ?_
 delta M.a6y at h
 refine Hn 8 Jjs ?_
 refine Gb h fun y1 e2 h => ?_
 refine Gc (kc 59 [3] #[24]) 4 4 59 _ (W.z5u pl y1 e2 _ p0 fpl) ?_
 rintro _ w2 ⟨S2, rfl, z2, p2⟩
 refine Hn 7 Jjv ?_
 obtain rfl := sj h
 exact Hr Tryz.f39 ⟨_, rfl, z2, p2⟩

def Jwi := Ys 111 B15 []

def Post.z8u (Epl : ZE) (pl : Z) (r : Unit) (v : Value) (w' : World) : Prop :=
 ∃ S', v = .slice none 0 0 ∧ Ext S0 w0 S' w' ∧ Hp nz wz S' w' (PL Epl (Lr))

theorem W.z8u (pl : Z) (r : Unit) (h : M.a6z pl = some r) {nz wz S0 w0 Lr} (Epl) (p0 : Hp nz wz S0 w0 (PL Epl (Lr))) (fpl : PS S0 w0 Epl pl) :
  Calls Tryz.prog 15 #[.pointer none] w0 (Rets (Post.z8u nz wz S0 w0 Lr Epl pl r)) := by
 refine Zf Tryz.f15 B15 11 ?_
 refine Gj 12 [(0, .pointer none)] fun junk => ?_
 delta M.a6z at h
 refine Hn 8 (Yt 1100 B15 [1, 2] (Ys 1101 B15 Jwi)) ?_
 refine Gb h fun y1 e2 h => ?_
 refine Gc (kc 59 [3] #[24]) 4 4 59 _ (W.z5u pl y1 e2 _ p0 fpl) ?_
 rintro _ w2 ⟨S2, rfl, z2, p2⟩
 refine Hn 7 (Ys 110101 B15 Jwi) ?_
 obtain rfl := sj h
 exact Hr Tryz.f15 ⟨_, rfl, z2, p2⟩

def Post.z8v (r : Nat × Z) (v : Value) (w' : World) : Prop :=
 ∃ S' gq Ee0, v = (pt gq 0) ∧ Ext S0 w0 S' w' ∧ Hp nz wz S' w' (PL Ee0 (Lr)) ∧ Pa 126 S' r.1 gq ∧ PS S' w' Ee0 r.2

theorem W.z8v (x1 : ByteArray) (pl : Z) (r : Nat × Z) (h : M.a70 x1 pl = some r) {nz wz S0 w0 Lr} (Epl) (p0 : Hp nz wz S0 w0 (PL Epl (Lr))) (fpl : PS S0 w0 Epl pl) :
  Calls Tryz.prog 63 #[.pointer none, .string x1] w0 (Rets (Post.z8v nz wz S0 w0 Lr r)) := by
 refine Zf Tryz.f63 B63 21 ?_
 refine Gj 23 [(0, .pointer none), (1, .string x1)] fun junk => ?_
 delta M.a70 at h
 refine Hn 8 Ja2 ?_
 refine Gb h fun y1 e2 h => ?_
 refine Gc (kc 59 [5] #[24]) 6 4 59 _ (W.z5u pl y1 e2 _ p0 fpl) ?_
 rintro _ w2 ⟨S2, rfl, z2, p2⟩
 refine Hn 14 Ja7 ?_
 refine Gb h fun y3 e4 h => ?_
 refine Gc (kc 67 [] #[]) 22 119 67 _ (W.zm pl y3 e4 _ p2 (fpl.ext z2)) ?_
 rintro _ w3 ⟨S3, uet, ueu, rfl, z3, p3, u1h, uev⟩
 refine Hn 2 Ja6 ?_
 obtain rfl := sj h
 exact Hr Tryz.f63 ⟨_, _, _, rfl, (z2.t z3), p3, u1h, uev⟩

def Post.z8w (r : Int × Z) (v : Value) (w' : World) : Prop :=
 ∃ S' Ee0, v = .i r.1 ∧ Ext S0 w0 S' w' ∧ Hp nz wz S' w' (PL Ee0 (Lr)) ∧ PS S' w' Ee0 r.2

theorem W.z8w (x1 : ByteArray) (pl : Z) (r : Int × Z) (h : M.a59 x1 pl = some r) {nz wz S0 w0 Lr} (Epl) (p0 : Hp nz wz S0 w0 (PL Epl (Lr))) (fpl : PS S0 w0 Epl pl) :
  Calls Tryz.prog 19 #[.pointer none, .string x1] w0 (Rets (Post.z8w nz wz S0 w0 Lr r)) := by
 refine Zf Tryz.f19 B19 9 ?_
 refine Gj 11 [(0, .pointer none), (1, .string x1)] fun junk => ?_
 delta M.a59 at h
 refine Hn 8 Jn1 ?_
 refine Gb h fun y1 e2 h => ?_
 refine Gc (kc 63 [5, 6] #[24, 9]) 7 119 63 _ (W.z8v x1 pl y1 e2 _ p0 fpl) ?_
 rintro _ w2 ⟨S2, ur9, ur1, rfl, z2, p2, up, ug8⟩
 refine Hn 2 Jn2 ?_
 obtain ⟨cs3, q4, l5, e6, f7⟩ := Pl.row p2 7 rfl ug8.zh up
 obtain ⟨_, _, rfl, q10, ⟨_, _, rfl, q13, ⟨_, _, rfl, q16, ⟨_, _, rfl, q19, ⟨_, _, rfl, rfl, rfl⟩⟩⟩⟩⟩ := q4
 obtain ⟨v8, rfl, f9⟩ := kMp_one (w := w2) q10
 obtain ⟨v11, rfl, f12⟩ := kMp_one (w := w2) q13
 obtain ⟨v14, rfl, f15⟩ := kMp_one (w := w2) q16
 obtain ⟨v17, rfl, f18⟩ := kPp_one (w := w2) q19
 refine Hd (f7 5 _ rfl) ?_
 refine Hn 2 Jn0 ?_
 obtain rfl := sj h
 exact Hr Tryz.f19 ⟨_, _, rfl, z2, p2, ug8⟩

def Jwm := Ys 111 B18 []
def Jwn := Ys 1101 B18 Jwm
def Jwo := Yt 1100 B18 [1, 2] Jwn
def Jwp := Ys 110101 B18 Jwm

def Post.z8x (Epl : ZE) (pl : Z) (r : Int) (v : Value) (w' : World) : Prop :=
 ∃ S', v = .i r ∧ Ext S0 w0 S' w' ∧ Hp nz wz S' w' (PL Epl (Lr))

theorem W.z8x (pl : Z) (r : Int) (h : M.a71 pl = some r) {nz wz S0 w0 Lr} (Epl) (p0 : Hp nz wz S0 w0 (PL Epl (Lr))) (fpl : PS S0 w0 Epl pl) :
  Calls Tryz.prog 18 #[.pointer none] w0 (Rets (Post.z8x nz wz S0 w0 Lr Epl pl r)) := by
 refine Zf Tryz.f18 B18 10 ?_
 refine Gj 11 [(0, .pointer none)] fun junk => ?_
 delta M.a71 at h
 refine Hn 8 Jwo ?_
 refine Gb h fun y1 e2 h => ?_
 refine Gc (kc 59 [3] #[24]) 4 4 59 _ (W.z5u pl y1 e2 _ p0 fpl) ?_
 rintro _ w2 ⟨S2, rfl, z2, p2⟩
 refine Hn 7 Jwp ?_
 obtain rfl := sj h
 exact Hr Tryz.f18 ⟨_, rfl, z2, p2⟩

def Jwq := Ys 1111 B18 []

def Post.z8y (Epl : ZE) (pl : Z) (r : Int) (v : Value) (w' : World) : Prop :=
 ∃ S', v = .i r ∧ Ext S0 w0 S' w' ∧ Hp nz wz S' w' (PL Epl (Lr))

theorem W.z8y (x0 : Nat) (pl : Z) (r : Int) (h : M.a5a x0 pl = some r) {nz wz S0 w0 Lr} (gx0 Epl) (p0 : Hp nz wz S0 w0 (PL Epl (Lr))) (fx0 : Pa 80 S0 x0 gx0) (fpl : PS S0 w0 Epl pl) :
  Calls Tryz.prog 18 #[(pt gx0 0)] w0 (Rets (Post.z8y nz wz S0 w0 Lr Epl pl r)) := by
 refine Zf Tryz.f18 B18 10 ?_
 refine Gj 11 [(0, (pt gx0 0))] fun junk => ?_
 delta M.a5a at h
 refine Hn 8 Jwo ?_
 refine Gb h fun y1 e2 h => ?_
 refine Gc (kc 59 [3] #[24]) 4 4 59 _ (W.z1 x0 pl y1 e2 _ _ p0 fx0 fpl) ?_
 rintro _ w2 ⟨S2, rfl, z2, p2⟩
 refine Hn 2 Jwn ?_
 refine Hb [(4, .bool y1), (5, .bool (!y1))] ?_
 refine Gi h (fun h3 h => ?_) fun h3 h => ?_
 ·
  rw [h3]
  refine Hn 7 (Yt 1110 B18 [3, 4, 5] Jwq) ?_
  obtain ⟨cs4, q5, l6, e7, f8⟩ := Pl.row p2 3 rfl (fpl.zd.ext z2) (fx0.ext z2)
  obtain ⟨_, _, rfl, q11, ⟨_, _, rfl, q14, q17⟩⟩ := q5
  obtain ⟨v9, rfl, f10⟩ := kMp_one (w := w2) q11
  obtain ⟨v12, rfl, f13⟩ := kMp_one (w := w2) q14
  obtain ⟨v15, rfl, f16⟩ := kMp_one (w := w2) q17
  refine Hd (f8 0 _ rfl) ?_
  refine Gl h fun v22 h18 h => ?_
  rcases v22 with _ | y19
  ·
   try dsimp only at h
   obtain rfl := MpO.nil f10 h18
   refine Hn 3 Jwq ?_
   obtain rfl := sj h
   exact Hr Tryz.f18 ⟨_, rfl, z2, p2⟩
  ·
   try dsimp only at h
   obtain ⟨g20, rfl, f21⟩ := MpO.got f10 h18
   refine Op_.lenM 77 (.tmp 9) 10 3 35 38 0 p2 rfl (fpl.za.ext z2) f21 Goes.v (by kernel_rfl) (by kernel_rfl) ?_
   refine Hn 2 Jwq ?_
   obtain rfl := sj h
   exact Hr Tryz.f18 ⟨_, rfl, z2, p2⟩
 ·
  rw [bf h3]
  refine Hn 5 Jwp ?_
  obtain rfl := sj h
  exact Hr Tryz.f18 ⟨_, rfl, z2, p2⟩

def Jws := Ys 111 B7 []
def Jwt := Ys 1101 B7 Jws
def Jx5 := Ys 1111111111 B7 []
def Qqe := Yq 1111111110 B7
def Jxf := Zr Qqe [32, 33, 34, 35, 36, 37, 38, 39, 40, 41, 42, 43, 44, 45, 46, 47, 48, 49, 50, 51, 52, 53, 54, 55, 56, 57, 58, 59, 60, 61, 62, 63, 64, 65, 66, 67, 68, 69, 70, 71, 72, 73, 74, 75, 76, 77, 78] Jx5
def Jxg := Zr Qqe [40, 41, 42, 43, 44, 45, 46, 47, 48, 49, 50, 51, 52, 53, 54, 55, 56, 57, 58, 59, 60, 61, 62, 63, 64, 65, 66, 67, 68, 69, 70, 71, 72, 73, 74, 75, 76, 77, 78] Jx5
def Jxh := Zr Qqe [54, 55, 56, 57, 58, 59, 60, 61, 62, 63, 64, 65, 66, 67, 68, 69, 70, 71, 72, 73, 74, 75, 76, 77, 78] Jx5
def Jxi := Zr Qqe [68, 69, 70, 71, 72, 73, 74, 75, 76, 77, 78] Jx5
def Jxj := Zr Qqe [41, 42, 43, 44, 45, 46, 47, 48, 49, 50, 51, 52, 53, 54, 55, 56, 57, 58, 59, 60, 61, 62, 63, 64, 65, 66, 67, 68, 69, 70, 71, 72, 73, 74, 75, 76, 77, 78] Jx5
def Jxo := Zr Qqe [60, 61, 62, 63, 64, 65, 66, 67, 68, 69, 70, 71, 72, 73, 74, 75, 76, 77, 78] Jx5
def Jxp := Zr Qqe [65, 66, 67, 68, 69, 70, 71, 72, 73, 74, 75, 76, 77, 78] Jx5
def Jxr := Zr Qqe [74, 75, 76, 77, 78] Jx5
def Jxs := Zr Qqe [46, 47, 48, 49, 50, 51, 52, 53, 54, 55, 56, 57, 58, 59, 60, 61, 62, 63, 64, 65, 66, 67, 68, 69, 70, 71, 72, 73, 74, 75, 76, 77, 78] Jx5

def Post.z8z (r : Bool × Z) (v : Value) (w' : World) : Prop :=
 ∃ S' Ee0, v = .bool r.1 ∧ Ext S0 w0 S' w' ∧ Hp nz wz S' w' (PL Ee0 (Lr)) ∧ PS S' w' Ee0 r.2

theorem W.z8z (x0 : Int) (x1 : List T55) (x2 : ByteArray) (pl : Z) (r : Bool × Z) (h : M.a5b x0 x1 x2 pl = some r) {nz wz S0 w0 Lr} (Ax1 nx1 cx1 Epl) (p0 : Hp nz wz S0 w0 (PL Epl (Lr))) (fx1 : Rd kT55 S0 w0 Ax1 cx1 x1) (lx1 : x1.length = nx1) (fpl : PS S0 w0 Epl pl) :
  Calls Tryz.prog 7 #[.u x0, .slice Ax1 nx1 cx1, .string x2] w0 (Rets (Post.z8z nz wz S0 w0 Lr r)) := by
 subst lx1
 refine Zf Tryz.f7 B7 118 ?_
 refine Gj 121 [(0, .u x0), (1, .slice Ax1 x1.length cx1), (2, .string x2)] fun junk => ?_
 delta M.a5b at h
 refine Hn 7 (Yt 1100 B7 [0, 1] Jwt) ?_
 refine Gb h fun y1 e2 h => ?_
 refine Gc (kc 13 [] #[]) 17 4 13 _ (W.z5t pl y1 e2 _ p0 fpl) ?_
 rintro _ w2 ⟨S2, ur1, rfl, z2, p2, ug8⟩
 refine Hn 2 Jwt ?_
 refine Hb [(17, .bool y1.1), (18, .bool (!y1.1))] ?_
 refine Gi h (fun h3 h => ?_) fun h3 h => ?_
 ·
  rw [h3]
  refine Hn 8 (Yt 11110 B7 [0] (Ys 11111 B7 [])) ?_
  refine Op_.allocP 81 8 0 80 3 (.agg #[.map none, .map none, .map none]) [.map none, .map none, .map none] (⟨none, none, none⟩ : T80) (y1.2.zd ++ [(⟨none, none, none⟩ : T80)]) p2 rfl ug8.zd Goes.v (by kernel_rfl) (by kernel_rfl) ⟨[.map none], [.map none, .map none], rfl, (show (kMp 77).rep S2 w2 [.map none] none from (MpO.none 77 S2)), ⟨[.map none], [.map none], rfl, (show (kMp 78).rep S2 w2 [.map none] none from (MpO.none 78 S2)), (show (kMp 79).rep S2 w2 [.map none] none from (MpO.none 79 S2))⟩⟩ rfl fun g4 S3 w3 E5 z3 p3 a6 f7 => ?_
  refine Hn 6 (Yt 111110 B7 [3, 4, 5, 6, 7, 8] (Ys 111111 B7 [])) ?_
  refine Gb h fun y8 e9 h => ?_
  refine Gc (kc 35 [20, 21, 22] #[24, 9, 65]) 23 68 35 _ (W.z5v x2 (⟨0, (⟨#[]⟩ : ByteArray), ([] : List T64)⟩ : T64) ({y1.2 with zd := (y1.2.zd ++ [(⟨none, none, none⟩ : T80)])}) y8 e9 none 0 0 ({ur1 with zd := E5}) p3 Rd.none_ rfl (PS.uzd (ug8.ext z3) f7)) ?_
  rintro _ w4 ⟨S4, rfl, z4, p4⟩
  refine Hn 10 (Yt 1111110 B7 [2, 3, 4, 5, 6, 7] (Ys 1111111 B7 [])) ?_
  refine Gb h fun y10 e11 h => ?_
  refine Gc (kc 35 [8, 27, 28] #[81, 9, 65]) 29 68 35 _ (W.z7l y1.2.zd.length x2 (⟨0, (⟨#[]⟩ : ByteArray), ([] : List T64)⟩ : T64) ({y1.2 with zd := (y1.2.zd ++ [(⟨none, none, none⟩ : T80)])}) y10 e11 _ none 0 0 ({ur1 with zd := E5}) p4 (a6.ext z4) Rd.none_ rfl (PS.uzd (ug8.ext (z3.t z4)) (f7.ext z4))) ?_
  rintro _ w5 ⟨S5, u11n, u11o, u11p, u11q, u1o, rfl, z5, p5, u11r, rfl, u1q⟩
  refine Hn 10 (Yt 11111110 B7 [2, 3, 4, 5, 6, 7] (Ys 11111111 B7 [])) ?_
  have p5 := p5.rt 1 10
  refine Gb h fun y13 e14 h => ?_
  refine Gc (kc 29 [33, 34] #[24, 35]) 35 57 29 _ (W.z7m x0 y10.2.2 y13 e14 _ p5 u1q) ?_
  rintro _ w6 ⟨S6, rfl, z6, p6⟩
  have p6 := p6.dp 10
  refine Hn 9 (Yt 111111110 B7 [1, 2, 3, 4, 5, 6] (Ys 111111111 B7 [])) ?_
  refine Gb h fun y15 e16 h => ?_
  refine Gc (kc 31 [8, 39] #[81, 38]) 40 59 31 _ (W.z7n y1.2.zd.length x1 y10.2.2 y15 e16 _ _ _ _ _ p6 (a6.ext ((z4.t z5).t z6)) (fx1.ext ((((z2.t z3).t z4).t z5).t z6)) rfl (u1q.ext z6)) ?_
  rintro _ w7 ⟨S7, rfl, z7, p7⟩
  refine Hn 11 (Zr Qqe [3, 4, 5, 6, 7, 8, 9, 10, 11, 12, 13, 14, 15, 16, 17, 18, 19, 20, 21, 22, 23, 24, 25, 26, 27, 28, 29, 30, 31, 32, 33, 34, 35, 36, 37, 38, 39, 40, 41, 42, 43, 44, 45, 46, 47, 48, 49, 50, 51, 52, 53, 54, 55, 56, 57, 58, 59, 60, 61, 62, 63, 64, 65, 66, 67, 68, 69, 70, 71, 72, 73, 74, 75, 76, 77, 78] Jx5) ?_
  refine Gb h fun y17 e18 h => ?_
  refine Gc (kc 20 [43, 44, 45] #[24, 35, 38]) 46 39 20 _ (W.z7o x0 x1 y10.2.2 y17 e18 _ _ _ _ p7 (fx1.ext (((((z2.t z3).t z4).t z5).t z6).t z7)) rfl (u1q.ext (z6.t z7))) ?_
  rintro _ w8 ⟨S8, rfl, z8, p8⟩
  refine Hn 2 (Zr Qqe [6, 7, 8, 9, 10, 11, 12, 13, 14, 15, 16, 17, 18, 19, 20, 21, 22, 23, 24, 25, 26, 27, 28, 29, 30, 31, 32, 33, 34, 35, 36, 37, 38, 39, 40, 41, 42, 43, 44, 45, 46, 47, 48, 49, 50, 51, 52, 53, 54, 55, 56, 57, 58, 59, 60, 61, 62, 63, 64, 65, 66, 67, 68, 69, 70, 71, 72, 73, 74, 75, 76, 77, 78] Jx5) ?_
  refine Hb [(47, .bool (decide (y17 = 1))), (48, .bool (decide (y17 = 1)))] ?_
  refine Gi h (fun h19 h => ?_) fun h19 h => ?_
  ·
   rw [dt h19]
   refine Hn 2 (Zr Qqe [8, 9, 10, 11, 12, 13, 14, 15, 16, 17, 18, 19, 20, 21, 22, 23, 24, 25, 26, 27, 28, 29, 30, 31, 32, 33, 34, 35, 36, 37, 38, 39, 40, 41, 42, 43, 44, 45, 46, 47, 48, 49, 50, 51, 52, 53, 54, 55, 56, 57, 58, 59, 60, 61, 62, 63, 64, 65, 66, 67, 68, 69, 70, 71, 72, 73, 74, 75, 76, 77, 78] Jx5) ?_
   refine Gb h fun y20 e21 h => ?_
   refine Gc (kc 20 [8, 49, 50] #[81, 35, 38]) 51 39 20 _ (W.z1s y1.2.zd.length x0 x1 y10.2.2 y20 e21 _ _ _ _ _ p8 (a6.ext ((((z4.t z5).t z6).t z7).t z8)) (fx1.ext ((((((z2.t z3).t z4).t z5).t z6).t z7).t z8)) rfl (u1q.ext ((z6.t z7).t z8))) ?_
   rintro _ w9 ⟨S9, ure, rfl, z9, p9, urg⟩
   refine Hn 3 (Zr Qqe [12, 13, 14, 15, 16, 17, 18, 19, 20, 21, 22, 23, 24, 25, 26, 27, 28, 29, 30, 31, 32, 33, 34, 35, 36, 37, 38, 39, 40, 41, 42, 43, 44, 45, 46, 47, 48, 49, 50, 51, 52, 53, 54, 55, 56, 57, 58, 59, 60, 61, 62, 63, 64, 65, 66, 67, 68, 69, 70, 71, 72, 73, 74, 75, 76, 77, 78] Jx5) ?_
   refine Hb [(52, .bool (decide (y20.1 = 1))), (53, .bool (decide (y20.1 = 1))), (54, .bool (decide (y20.1 = 1)))] ?_
   refine Gi h (fun h22 h => ?_) fun h22 h => ?_
   ·
    rw [dt h22]
    refine Hn 2 (Zr Qqe [14, 15, 16, 17, 18, 19, 20, 21, 22, 23, 24, 25, 26, 27, 28, 29, 30, 31, 32, 33, 34, 35, 36, 37, 38, 39, 40, 41, 42, 43, 44, 45, 46, 47, 48, 49, 50, 51, 52, 53, 54, 55, 56, 57, 58, 59, 60, 61, 62, 63, 64, 65, 66, 67, 68, 69, 70, 71, 72, 73, 74, 75, 76, 77, 78] Jx5) ?_
    refine Gb h fun y23 e24 h => ?_
    refine Gc (kc 22 [55, 56] #[24, 35]) 57 39 22 _ (W.z7p x0 y20.2 y23 e24 _ p9 urg) ?_
    rintro _ w10 ⟨S10, rfl, z10, p10⟩
    refine Hn 3 (Zr Qqe [18, 19, 20, 21, 22, 23, 24, 25, 26, 27, 28, 29, 30, 31, 32, 33, 34, 35, 36, 37, 38, 39, 40, 41, 42, 43, 44, 45, 46, 47, 48, 49, 50, 51, 52, 53, 54, 55, 56, 57, 58, 59, 60, 61, 62, 63, 64, 65, 66, 67, 68, 69, 70, 71, 72, 73, 74, 75, 76, 77, 78] Jx5) ?_
    refine Hb [(58, .bool (decide (y23 = 1))), (59, .bool (decide (y23 = 1))), (60, .bool (decide (y23 = 1)))] ?_
    refine Gi h (fun h25 h => ?_) fun h25 h => ?_
    ·
     rw [dt h25]
     refine Hn 1 (Zr Qqe [19, 20, 21, 22, 23, 24, 25, 26, 27, 28, 29, 30, 31, 32, 33, 34, 35, 36, 37, 38, 39, 40, 41, 42, 43, 44, 45, 46, 47, 48, 49, 50, 51, 52, 53, 54, 55, 56, 57, 58, 59, 60, 61, 62, 63, 64, 65, 66, 67, 68, 69, 70, 71, 72, 73, 74, 75, 76, 77, 78] Jx5) ?_
     refine Gb h fun y26 e27 h => ?_
     refine Gc (kc 22 [8, 61] #[81, 35]) 62 39 22 _ (W.z8g y1.2.zd.length x0 y20.2 y26 e27 _ _ p10 (a6.ext ((((((z4.t z5).t z6).t z7).t z8).t z9).t z10)) (urg.ext z10)) ?_
     rintro _ w11 ⟨S11, u11s, rfl, z11, p11, unt⟩
     refine Hn 3 (Zr Qqe [23, 24, 25, 26, 27, 28, 29, 30, 31, 32, 33, 34, 35, 36, 37, 38, 39, 40, 41, 42, 43, 44, 45, 46, 47, 48, 49, 50, 51, 52, 53, 54, 55, 56, 57, 58, 59, 60, 61, 62, 63, 64, 65, 66, 67, 68, 69, 70, 71, 72, 73, 74, 75, 76, 77, 78] Jx5) ?_
     refine Hb [(63, .bool (decide (y26.1 = 1))), (64, .bool (decide (y26.1 = 1))), (65, .bool (decide (y26.1 = 1)))] ?_
     refine Gi h (fun h28 h => ?_) fun h28 h => ?_
     ·
      rw [dt h28]
      refine Hn 4 (Zr Qqe [27, 28, 29, 30, 31, 32, 33, 34, 35, 36, 37, 38, 39, 40, 41, 42, 43, 44, 45, 46, 47, 48, 49, 50, 51, 52, 53, 54, 55, 56, 57, 58, 59, 60, 61, 62, 63, 64, 65, 66, 67, 68, 69, 70, 71, 72, 73, 74, 75, 76, 77, 78] Jx5) ?_
      refine Hb [(67, .bool (decide (y8 = 1))), (68, .bool (decide (y8 = 1))), (69, .bool (decide (y8 = 1)))] ?_
      refine Gi h (fun h29 h => ?_) fun h29 h => ?_
      ·
       rw [dt h29]
       refine Hn 5 Jxf ?_
       refine Hb [(72, .bool (decide (y10.2.1 = y8))), (73, .bool (decide (y10.2.1 = y8))), (74, .bool (decide (y10.2.1 = y8)))] ?_
       refine Gi h (fun h30 h => ?_) fun h30 h => ?_
       ·
        rw [dt h30]
        refine Hn 8 Jxg ?_
        refine Hb [(42, .bool y15.2), (16, .bool y15.2), (79, .bool y15.2), (80, .bool (!y15.2)), (81, .bool (!y15.2)), (82, .bool (!y15.2))] ?_
        refine Gi h (fun h31 h => ?_) fun h31 h => ?_
        ·
         rw [h31]
         refine Hn 14 Jxh ?_
         refine Hn 14 Jxi ?_
         refine Hn 12 Jx5 ?_
         obtain rfl := sj h
         exact Hr Tryz.f7 ⟨_, _, rfl, (((((((((z2.t z3).t z4).t z5).t z6).t z7).t z8).t z9).t z10).t z11), p11, unt⟩
        ·
         rw [bf h31]
         refine Hn 1 Jxj ?_
         refine Gb h fun y32 e33 h => ?_
         refine Gc (kc 28 [83] #[24]) 84 24 28 _ (W.z8p y26.2 y32 e33 _ p11 unt) ?_
         rintro _ w12 ⟨S12, rfl, z12, p12⟩
         refine Hn 3 (Zr Qqe [45, 46, 47, 48, 49, 50, 51, 52, 53, 54, 55, 56, 57, 58, 59, 60, 61, 62, 63, 64, 65, 66, 67, 68, 69, 70, 71, 72, 73, 74, 75, 76, 77, 78] Jx5) ?_
         refine Gb h fun y34 e35 h => ?_
         refine Gc (kc 28 [8] #[81]) 88 24 28 _ (W.z8q y1.2.zd.length y26.2 y34 e35 _ _ p12 (a6.ext ((((((((z4.t z5).t z6).t z7).t z8).t z9).t z10).t z11).t z12)) (unt.ext z12)) ?_
         rintro u11u w13 ⟨S13, _, u11v, rfl, z13, p13, uui, unz⟩
         refine Gl h fun v59 h36 h => ?_
         rcases v59 with _ | y37
         ·
          try dsimp only at h
          obtain rfl := PpO.nil uui h36
          refine Hn 4 (Zr Qqe [50, 51, 52, 53, 54, 55, 56, 57, 58, 59, 60, 61, 62, 63, 64, 65, 66, 67, 68, 69, 70, 71, 72, 73, 74, 75, 76, 77, 78] Jx5) ?_
          refine Gb h fun y40 e41 h => ?_
          refine Gc (kc 39 [92] #[24]) 93 31 39 _ (W.z8t y34.2 y40 e41 _ p13 unz) ?_
          rintro _ w14 ⟨S14, rfl, z14, p14⟩
          refine Hn 1 (Zr Qqe [52, 53, 54, 55, 56, 57, 58, 59, 60, 61, 62, 63, 64, 65, 66, 67, 68, 69, 70, 71, 72, 73, 74, 75, 76, 77, 78] Jx5) ?_
          refine Gb h fun y42 e43 h => ?_
          refine Gc (kc 39 [8] #[81]) 95 31 39 _ (W.z4h y1.2.zd.length y34.2 y42 e43 _ _ p14 (a6.ext ((((((((((z4.t z5).t z6).t z7).t z8).t z9).t z10).t z11).t z12).t z13).t z14)) (unz.ext z14)) ?_
          rintro _ w15 ⟨S15, u11w, u11x, u11y, u11z, rfl, z15, p15, u120, rfl⟩
          refine Hn 3 (Zr Qqe [56, 57, 58, 59, 60, 61, 62, 63, 64, 65, 66, 67, 68, 69, 70, 71, 72, 73, 74, 75, 76, 77, 78] Jx5) ?_
          have p15 := p15.rt 1 10
          refine Gb h fun y45 e46 h => ?_
          refine Gc (kc 15 [98] #[24]) 99 28 15 _ (W.z8u y34.2 y45 e46 _ p15 (unz.ext (z14.t z15))) ?_
          rintro _ w16 ⟨S16, rfl, z16, p16⟩
          have p16 := p16.dp 10
          refine Hn 3 Jxo ?_
          refine Gb h fun y47 e48 h => ?_
          refine Gc (kc 16 [8, 102] #[81, 9]) 103 28 16 _ (W.z5p y1.2.zd.length x2 y34.2 y47 e48 _ _ p16 (a6.ext ((((((((((((z4.t z5).t z6).t z7).t z8).t z9).t z10).t z11).t z12).t z13).t z14).t z15).t z16)) (unz.ext ((z14.t z15).t z16))) ?_
          rintro _ w17 ⟨S17, u121, u122, u123, u124, udx, rfl, z17, p17, u125, rfl, udy⟩
          refine Hn 4 Jxp ?_
          have p17 := p17.rt 1 10
          refine Gb h fun y50 e51 h => ?_
          refine Gc (kc 19 [106, 107] #[24, 9]) 108 3 19 _ (W.z8w x2 y47.2 y50 e51 _ p17 udy) ?_
          rintro _ w18 ⟨S18, u126, rfl, z18, p18, u127⟩
          have p18 := p18.dp 10
          refine Hn 2 Jxi ?_
          refine Gb h fun y52 e53 h => ?_
          refine Gc (.call { callee := .value (.func 17), args := #[(.tmp 8), (.tmp 110), (.const (.string ⟨#[]⟩))], argTypes := #[81, 9, 9] }) 111 31 17 _ (W.z4q y1.2.zd.length x2 (⟨#[]⟩ : ByteArray) y50.2 y52 e53 _ _ p18 (a6.ext ((((((((((((((z4.t z5).t z6).t z7).t z8).t z9).t z10).t z11).t z12).t z13).t z14).t z15).t z16).t z17).t z18)) u127) ?_
          rintro _ w19 ⟨S19, url, urm, urn, uro, urp, rfl, z19, p19, urq, rfl, urr⟩
          refine Hn 3 (Zr Qqe [72, 73, 74, 75, 76, 77, 78] Jx5) ?_
          have p19 := p19.rt 1 10
          refine Gb h fun y55 e56 h => ?_
          refine Gc (kc 18 [114] #[24]) 115 3 18 _ (W.z8x y52.2 y55 e56 _ p19 urr) ?_
          rintro _ w20 ⟨S20, rfl, z20, p20⟩
          have p20 := p20.dp 10
          refine Hn 1 Jxr ?_
          refine Gb h fun y57 e58 h => ?_
          refine Gc (kc 18 [8] #[81]) 117 3 18 _ (W.z8y y1.2.zd.length y52.2 y57 e58 _ _ p20 (a6.ext ((((((((((((((((z4.t z5).t z6).t z7).t z8).t z9).t z10).t z11).t z12).t z13).t z14).t z15).t z16).t z17).t z18).t z19).t z20)) (urr.ext z20)) ?_
          rintro _ w21 ⟨S21, rfl, z21, p21⟩
          refine Hn 5 Jx5 ?_
          obtain rfl := sj h
          exact Hr Tryz.f7 ⟨_, _, rfl, (((((((((((((((((((z2.t z3).t z4).t z5).t z6).t z7).t z8).t z9).t z10).t z11).t z12).t z13).t z14).t z15).t z16).t z17).t z18).t z19).t z20).t z21), p21, (urr.ext (z20.t z21))⟩
         ·
          try dsimp only at h
          obtain ⟨g38, rfl, f39⟩ := PpO.got uui h36
          refine Hn 14 Jxo ?_
          refine Hn 14 Jxr ?_
          refine Hn 6 Jx5 ?_
          obtain rfl := sj h
          exact Hr Tryz.f7 ⟨_, _, rfl, (((((((((((z2.t z3).t z4).t z5).t z6).t z7).t z8).t z9).t z10).t z11).t z12).t z13), p13, unz⟩
       ·
        rw [df h30]
        refine Hn 14 Jxs ?_
        refine Hn 14 Jxo ?_
        refine Hn 14 Jxr ?_
        refine Hn 6 Jx5 ?_
        obtain rfl := sj h
        exact Hr Tryz.f7 ⟨_, _, rfl, (((((((((z2.t z3).t z4).t z5).t z6).t z7).t z8).t z9).t z10).t z11), p11, unt⟩
      ·
       rw [df h29]
       refine Hn 14 Jxj ?_
       refine Hn 14 (Zr Qqe [55, 56, 57, 58, 59, 60, 61, 62, 63, 64, 65, 66, 67, 68, 69, 70, 71, 72, 73, 74, 75, 76, 77, 78] Jx5) ?_
       refine Hn 14 (Zr Qqe [69, 70, 71, 72, 73, 74, 75, 76, 77, 78] Jx5) ?_
       refine Hn 11 Jx5 ?_
       obtain rfl := sj h
       exact Hr Tryz.f7 ⟨_, _, rfl, (((((((((z2.t z3).t z4).t z5).t z6).t z7).t z8).t z9).t z10).t z11), p11, unt⟩
     ·
      rw [df h28]
      refine Hn 14 (Zr Qqe [37, 38, 39, 40, 41, 42, 43, 44, 45, 46, 47, 48, 49, 50, 51, 52, 53, 54, 55, 56, 57, 58, 59, 60, 61, 62, 63, 64, 65, 66, 67, 68, 69, 70, 71, 72, 73, 74, 75, 76, 77, 78] Jx5) ?_
      refine Hn 14 (Zr Qqe [51, 52, 53, 54, 55, 56, 57, 58, 59, 60, 61, 62, 63, 64, 65, 66, 67, 68, 69, 70, 71, 72, 73, 74, 75, 76, 77, 78] Jx5) ?_
      refine Hn 14 Jxp ?_
      refine Hn 14 (Zr Qqe [] Jx5) ?_
      refine Hn 1 Jx5 ?_
      obtain rfl := sj h
      exact Hr Tryz.f7 ⟨_, _, rfl, (((((((((z2.t z3).t z4).t z5).t z6).t z7).t z8).t z9).t z10).t z11), p11, unt⟩
    ·
     rw [df h25]
     refine Hn 14 Jxf ?_
     refine Hn 14 Jxs ?_
     refine Hn 14 Jxo ?_
     refine Hn 14 Jxr ?_
     refine Hn 6 Jx5 ?_
     obtain rfl := sj h
     exact Hr Tryz.f7 ⟨_, _, rfl, ((((((((z2.t z3).t z4).t z5).t z6).t z7).t z8).t z9).t z10), p10, (urg.ext z10)⟩
   ·
    rw [df h22]
    refine Hn 14 (Zr Qqe [26, 27, 28, 29, 30, 31, 32, 33, 34, 35, 36, 37, 38, 39, 40, 41, 42, 43, 44, 45, 46, 47, 48, 49, 50, 51, 52, 53, 54, 55, 56, 57, 58, 59, 60, 61, 62, 63, 64, 65, 66, 67, 68, 69, 70, 71, 72, 73, 74, 75, 76, 77, 78] Jx5) ?_
    refine Hn 14 Jxg ?_
    refine Hn 14 Jxh ?_
    refine Hn 14 Jxi ?_
    refine Hn 12 Jx5 ?_
    obtain rfl := sj h
    exact Hr Tryz.f7 ⟨_, _, rfl, (((((((z2.t z3).t z4).t z5).t z6).t z7).t z8).t z9), p9, urg⟩
  ·
   rw [df h19]
   refine Hn 14 (Zr Qqe [20, 21, 22, 23, 24, 25, 26, 27, 28, 29, 30, 31, 32, 33, 34, 35, 36, 37, 38, 39, 40, 41, 42, 43, 44, 45, 46, 47, 48, 49, 50, 51, 52, 53, 54, 55, 56, 57, 58, 59, 60, 61, 62, 63, 64, 65, 66, 67, 68, 69, 70, 71, 72, 73, 74, 75, 76, 77, 78] Jx5) ?_
   refine Hn 14 (Zr Qqe [34, 35, 36, 37, 38, 39, 40, 41, 42, 43, 44, 45, 46, 47, 48, 49, 50, 51, 52, 53, 54, 55, 56, 57, 58, 59, 60, 61, 62, 63, 64, 65, 66, 67, 68, 69, 70, 71, 72, 73, 74, 75, 76, 77, 78] Jx5) ?_
   refine Hn 14 (Zr Qqe [48, 49, 50, 51, 52, 53, 54, 55, 56, 57, 58, 59, 60, 61, 62, 63, 64, 65, 66, 67, 68, 69, 70, 71, 72, 73, 74, 75, 76, 77, 78] Jx5) ?_
   refine Hn 14 (Zr Qqe [62, 63, 64, 65, 66, 67, 68, 69, 70, 71, 72, 73, 74, 75, 76, 77, 78] Jx5) ?_
   refine Hn 14 (Zr Qqe [76, 77, 78] Jx5) ?_
   refine Hn 4 Jx5 ?_
   obtain rfl := sj h
   exact Hr Tryz.f7 ⟨_, _, rfl, ((((((z2.t z3).t z4).t z5).t z6).t z7).t z8), p8, (u1q.ext ((z6.t z7).t z8))⟩
 ·
  rw [bf h3]
  refine Hn 5 (Ys 110101 B7 Jws) ?_
  obtain rfl := sj h
  exact Hr Tryz.f7 ⟨_, _, rfl, z2, p2, ug8⟩

end

end Go.Gx
