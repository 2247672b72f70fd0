import Derived.Test.YtemokppdnkiejaaDoorWPpd

set_option linter.unusedVariables false

set_option maxRecDepth 100000

set_option maxHeartbeats 4000000

namespace Go.Gx

open Go.RowKit Go.Proofs

variable (nz : Nat) (wz : World) (S0 : Fz) (w0 : World) (Lr : List Ent)

noncomputable section

def Qmn := sub [1] B8
def Js5 : List Item := [.code Qmn]
def Qmo := sub [0] B8
def Js6 : List Item := .inRegion (opsOf Qmo) [0, 1, 2] :: Js5
def Qmp := sub [1, 1] B8
def Js7 : List Item := [.code Qmp]
def Qmq := sub [1, 0, 1] B8
def Js8 : List Item := .code Qmq :: Js7
def Qmr := sub [1, 0, 0] B8
def Js9 : List Item := .inRegion (opsOf Qmr) [0, 1] :: Js8
def Qms := sub [1, 1, 1] B8
def Jsa : List Item := [.code Qms]
def Qmt := sub [1, 1, 0] B8
def Jsb : List Item := .code Qmt :: Jsa
def Qmu := sub [1, 1, 1, 1] B8
def Jsc : List Item := [.code Qmu]
def Qmv := sub [1, 1, 1, 0] B8
def Jsd : List Item := .inRegion (opsOf Qmv) [0, 1, 2, 3, 4, 5, 6] :: Jsc
def Qmw := sub [1, 1, 1, 1, 1] B8
def Jse : List Item := [.code Qmw]
def Qmx := sub [1, 1, 1, 1, 0] B8
def Jsf : List Item := .inRegion (opsOf Qmx) [0, 1, 2, 3, 4, 5, 6] :: Jse
def Qmy := sub [1, 1, 1, 1, 1, 1] B8
def Jsg : List Item := [.code Qmy]
def Qmz := sub [1, 1, 1, 1, 1, 0] B8
def Jsh : List Item := .inRegion (opsOf Qmz) [0, 1, 2, 3, 4, 5, 6, 7, 8, 9] :: Jsg
def Jsi : List Item := .inRegion (opsOf Qmz) [4, 5, 6, 7, 8, 9] :: Jsg
def Qn0 := sub [1, 1, 1, 1, 1, 1, 0, 0] B8
def Jsj : List Item := .inRegion (opsOf Qn0) [3, 4, 5, 6, 7, 8, 9] :: Jry
def Jsk : List Item := .inRegion (opsOf Qn0) [7, 8, 9] :: Jry
def Qn1 := sub [1, 0, 1, 0, 1] B8
def Jsl : List Item := .code Qn1 :: Js7

theorem W.z3l (x0 : T27) (x1 : T27) (r : Bool) (h : M.tidepolelaw11_ProgParts x0 x1 = some r) {nz wz S0 w0 Lr} [Gw nz wz] (u92 u93 u94 uak ual uam) (p0 : Hp nz wz S0 w0 (Lr)) (u9e : x0.Set.length = 4) (u9f : Rd kT27 S0 w0 u92 u94 x0.L) (u9g : x0.L.length = u93) (uah : x1.Set.length = 4) (uan : Rd kT27 S0 w0 uak uam x1.L) (uao : x1.L.length = ual) :
  Calls Tryd.prog 8 #[(ag (.i x0.Kind :: U4 x0.Set [.slice u92 u93 u94, .i x0.Min, .i x0.Max])), (ag (.i x1.Kind :: U4 x1.Set [.slice uak ual uam, .i x1.Min, .i x1.Max]))] w0 (Rets (Post.z3l nz wz S0 w0 Lr r)) := by
 subst u9g
 subst uao
 refine calls_of_goes (fn := Tryd.f8) (c := B8) (by kernel_rfl) (by kernel_rfl) 102 (by kernel_rfl) ?_
 refine Goes.jp 104 [(0, (ag (.i x0.Kind :: U4 x0.Set [.slice u92 x0.L.length u94, .i x0.Min, .i x0.Max]))), (1, (ag (.i x1.Kind :: U4 x1.Set [.slice uak x1.L.length uam, .i x1.Min, .i x1.Max])))] (fun junk => ?_)
 delta M.tidepolelaw11_ProgParts at h
 refine Goes.rn 2 [] Js6 ?_
 refine Op_.box 28 (.tmp 0) 2 0 (ag (.i x0.Kind :: U4 x0.Set [.slice u92 x0.L.length u94, .i x0.Min, .i x0.Max])) (.i x0.Kind :: U4 x0.Set [.slice u92 x0.L.length u94, .i x0.Min, .i x0.Max]) p0 Goes.v (by kernel_rfl) (by kernel_rfl) ?_
 intro b1 w2 z2 p2
 refine Op_.box 28 (.tmp 1) 3 0 (ag (.i x1.Kind :: U4 x1.Set [.slice uak x1.L.length uam, .i x1.Min, .i x1.Max])) (.i x1.Kind :: U4 x1.Set [.slice uak x1.L.length uam, .i x1.Min, .i x1.Max]) p2 Goes.v (by kernel_rfl) (by kernel_rfl) ?_
 intro b3 w3 z3 p3
 refine Goes.rn 5 [(4, .bool false)] Js9 ?_
 refine bind_some' h fun y5 e6 h => ?_
 refine Goes.cal (kc 20 [] #[]) 14 4 20 _ (W.z3f y5 e6  p3 ) ?_
 rintro _ w4 ⟨S4, rfl, z4, p4⟩
 refine Goes.rn 2 [(15, .bool (!y5))] Js8 ?_
 refine ite_some h (fun h7 h => ?_) (fun h7 h => ?_)
 ·
  rw [h7]
  refine Goes.rn 3 [] Jsb ?_
  have z5 : Ext S4 w4 S4 (w4).drew := Ext.draw
  have p5 := p4.draw
  refine Goes.drawn (s := [3, 4, 5]) (F := Fc S4 (w4).drew [(⟨b1, 0, none⟩, .i x0.Kind), (⟨b1, 1, none⟩, .u (gi x0.Set 0)), (⟨b1, 2, none⟩, .u (gi x0.Set 1)), (⟨b1, 3, none⟩, .u (gi x0.Set 2)), (⟨b1, 4, none⟩, .u (gi x0.Set 3)), (⟨b1, 5, none⟩, .slice u92 x0.L.length u94), (⟨b1, 6, none⟩, .i x0.Min), (⟨b1, 7, none⟩, .i x0.Max), (⟨b3, 0, none⟩, .i x1.Kind), (⟨b3, 1, none⟩, .u (gi x1.Set 0)), (⟨b3, 2, none⟩, .u (gi x1.Set 1)), (⟨b3, 3, none⟩, .u (gi x1.Set 2)), (⟨b3, 4, none⟩, .u (gi x1.Set 3)), (⟨b3, 5, none⟩, .slice uak x1.L.length uam), (⟨b3, 6, none⟩, .i x1.Min), (⟨b3, 7, none⟩, .i x1.Max)]) 3 6 (by kernel_rfl) (by kernel_rfl) (by kernel_rfl) (by kernel_rfl) ?_
  generalize (w4).drew = w5 at z5 p5 ⊢
  refine AnyG.ldN (i := 0) 28 (.tmp 2) 16 28 ⟨b1, 0, none⟩ (.i x0.Kind :: U4 x0.Set [.slice u92 x0.L.length u94, .i x0.Min, .i x0.Max]) (by kernel_rfl) (by kernel_rfl) (Fc.here (p5.cs [(1, 0, 8), (0, 0, 8)])) (by kernel_rfl) (by kernel_rfl) (by kernel_rfl) (fun _ h j v hj => by match j, hj with | 0, rfl => exact h.2.at_ 0 rfl | 1, rfl => exact h.2.at_ 1 rfl | 2, rfl => exact h.2.at_ 2 rfl | 3, rfl => exact h.2.at_ 3 rfl | 4, rfl => exact h.2.at_ 4 rfl | 5, rfl => exact h.2.at_ 5 rfl | 6, rfl => exact h.2.at_ 6 rfl | 7, rfl => exact h.2.at_ 7 rfl | (j + 8), hj => simp at hj) ?_
  refine AnyG.ldN (i := 2) 28 (.tmp 3) 18 28 ⟨b3, 0, none⟩ (.i x1.Kind :: U4 x1.Set [.slice uak x1.L.length uam, .i x1.Min, .i x1.Max]) (by kernel_rfl) (by kernel_rfl) (Fc.here (p5.cs [(1, 0, 8), (0, 0, 8)])) (by kernel_rfl) (by kernel_rfl) (by kernel_rfl) (fun _ h j v hj => by match j, hj with | 0, rfl => exact h.2.at_ 8 rfl | 1, rfl => exact h.2.at_ 9 rfl | 2, rfl => exact h.2.at_ 10 rfl | 3, rfl => exact h.2.at_ 11 rfl | 4, rfl => exact h.2.at_ 12 rfl | 5, rfl => exact h.2.at_ 13 rfl | 6, rfl => exact h.2.at_ 14 rfl | 7, rfl => exact h.2.at_ 15 rfl | (j + 8), hj => simp at hj) ?_
  refine bind_some' h fun y8 e9 h => ?_
  refine Op_.call (kc 14 [16] #[28]) 17 28 14 #[(ag (.i x0.Kind :: U4 x0.Set [.slice u92 x0.L.length u94, .i x0.Min, .i x0.Max]))] (AnyG.cs (i := 1) (by kernel_rfl) (by kernel_rfl)) (by kernel_rfl) (W.z3k x0 y8 e9 u92 x0.L.length u94 p5 u9e (u9f.ext (((z2.trans z3).trans z4).trans z5)) rfl) ?_
  rintro _ w6 ⟨S6, uju, u6y, u6z, ujv, rfl, z6, p6, u70, u71, rfl⟩
  refine AnyG.next z6 ⟨(p6.c 2 0), (p6.c 2 1), (p6.c 2 2), (p6.c 2 3), (p6.c 2 4), (p6.c 2 5), (p6.c 2 6), (p6.c 2 7), (p6.c 1 0), (p6.c 1 1), (p6.c 1 2), (p6.c 1 3), (p6.c 1 4), (p6.c 1 5), (p6.c 1 6), (p6.c 1 7), trivial⟩ ?_
  refine bind_some' h fun y11 e12 h => ?_
  refine Op_.call (kc 14 [18] #[28]) 19 28 14 #[(ag (.i x1.Kind :: U4 x1.Set [.slice uak x1.L.length uam, .i x1.Min, .i x1.Max]))] (AnyG.cs (i := 3) (by kernel_rfl) (by kernel_rfl)) (by kernel_rfl) (W.z3k x1 y11 e12 uak x1.L.length uam p6 uah (uan.ext ((((z2.trans z3).trans z4).trans z5).trans z6)) rfl) ?_
  rintro _ w7 ⟨S7, uk6, u6d, u6e, uk7, rfl, z7, p7, u6f, u6g, rfl⟩
  refine AnyG.last [4, 5] (Fc S7 w7 []) (by decide) ?_
  refine Op_.st 28 (.tmp 2) (.tmp 17) 0 3 b1 0 (ag (.i y8.Kind :: U4 y8.Set [.slice (Gp uju) y8.L.length u6z, .i y8.Min, .i y8.Max])) (.i y8.Kind :: U4 y8.Set [.slice (Gp uju) y8.L.length u6z, .i y8.Min, .i y8.Max]) p7 rfl (AnyG.ss (i := 4) (by kernel_rfl) (by kernel_rfl)) (by kernel_rfl) (by kernel_rfl) (by kernel_rfl) (by kernel_rfl) (Nat.zero_le _) (by simp only [List.length_cons, List.length_nil]; omega) (by simp [Value.oneCell']) ?_
  intro w8 z8 p8
  have p8 : Hp nz wz S7 w8 ((uk6, .row 28 uk7 (u6e * kT27.size) 0) :: (uju, .row 28 ujv (u6z * kT27.size) 0) :: (some b3, .row 28 (.i x1.Kind :: U4 x1.Set [.slice uak x1.L.length uam, .i x1.Min, .i x1.Max]) 8 0) :: (some b1, .row 28 (.i y8.Kind :: U4 y8.Set [.slice (Gp uju) y8.L.length u6z, .i y8.Min, .i y8.Max]) 8 0) :: Lr) := p8
  refine AnyG.last [5] (Fc S7 w8 []) (by decide) ?_
  refine Op_.st 28 (.tmp 3) (.tmp 19) 0 2 b3 0 (ag (.i y11.Kind :: U4 y11.Set [.slice (Gp uk6) y11.L.length u6e, .i y11.Min, .i y11.Max])) (.i y11.Kind :: U4 y11.Set [.slice (Gp uk6) y11.L.length u6e, .i y11.Min, .i y11.Max]) p8 rfl (AnyG.ss (i := 5) (by kernel_rfl) (by kernel_rfl)) (by kernel_rfl) (by kernel_rfl) (by kernel_rfl) (by kernel_rfl) (Nat.zero_le _) (by simp only [List.length_cons, List.length_nil]; omega) (by simp [Value.oneCell']) ?_
  intro w9 z9 p9
  have p9 : Hp nz wz S7 w9 ((uk6, .row 28 uk7 (u6e * kT27.size) 0) :: (uju, .row 28 ujv (u6z * kT27.size) 0) :: (some b3, .row 28 (.i y11.Kind :: U4 y11.Set [.slice (Gp uk6) y11.L.length u6e, .i y11.Min, .i y11.Max]) 8 0) :: (some b1, .row 28 (.i y8.Kind :: U4 y8.Set [.slice (Gp uju) y8.L.length u6z, .i y8.Min, .i y8.Max]) 8 0) :: Lr) := p9
  refine AnyG.last [] (Fc S7 w9 []) (by decide) ?_
  refine AnyG.done (by kernel_rfl) ?_ _
  refine Goes.rn 2 [] Jsd ?_
  refine Goes.ldN 28 (.tmp 2) 21 28 ⟨b1, 0, none⟩ (.i y8.Kind :: U4 y8.Set [.slice (Gp uju) y8.L.length u6z, .i y8.Min, .i y8.Max]) (p9.pa 3 0) ?_
  obtain ⟨S10, z10, p10, f14⟩ := p9.freezeRd 1 rfl (u71.ext ((z7.trans z8).trans z9)) (by decide)
  refine bind_some' h fun y15 e16 h => ?_
  refine Goes.cal (kc 15 [21] #[28]) 22 38 15 _ (W.z2t y8 y15 e16 (Gp uju) y8.L.length u6z p10 u70 f14 rfl) ?_
  rintro _ w11 ⟨S11, uk8, uk9, uka, ukb, rfl, z11, p11, ukc, rfl⟩
  refine Goes.rn 8 [(20, .tuple #[.slice (Gp uk8) y15.1.length uka, .i y15.2]), (23, .slice (Gp uk8) y15.1.length uka), (24, .i y15.2), (5, .slice (Gp uk8) y15.1.length uka), (6, .i y15.2)] Jsf ?_
  refine Goes.ldN 28 (.tmp 3) 26 28 ⟨b3, 0, none⟩ (.i y11.Kind :: U4 y11.Set [.slice (Gp uk6) y11.L.length u6e, .i y11.Min, .i y11.Max]) (p11.pa 3 0) ?_
  obtain ⟨S12, z12, p12, f18⟩ := p11.freezeRd 1 rfl (u6g.ext (((z8.trans z9).trans z10).trans z11)) (by decide)
  refine bind_some' h fun y19 e20 h => ?_
  refine Goes.cal (kc 15 [26] #[28]) 27 38 15 _ (W.z2t y11 y19 e20 (Gp uk6) y11.L.length u6e p12 u6f f18 rfl) ?_
  rintro _ w13 ⟨S13, ukd, uke, ukf, ukg, rfl, z13, p13, ukh, rfl⟩
  refine Goes.rn 8 [(25, .tuple #[.slice (Gp ukd) y19.1.length ukf, .i y19.2]), (28, .slice (Gp ukd) y19.1.length ukf), (29, .i y19.2), (7, .slice (Gp ukd) y19.1.length ukf), (8, .i y19.2)] Jsh ?_
  refine Goes.ldN 28 (.tmp 2) 31 28 ⟨b1, 0, none⟩ (.i y8.Kind :: U4 y8.Set [.slice (Gp uju) y8.L.length u6z, .i y8.Min, .i y8.Max]) (p13.pa 5 0) ?_
  refine Goes.ldN 28 (.tmp 3) 32 28 ⟨b3, 0, none⟩ (.i y11.Kind :: U4 y11.Set [.slice (Gp uk6) y11.L.length u6e, .i y11.Min, .i y11.Max]) (p13.pa 4 0) ?_
  have f23 : Els kT27 S13 w13 ((.i y8.Kind :: U4 y8.Set (.slice (Gp uju) y8.L.length u6z :: .i y8.Min :: .i y8.Max :: .i y11.Kind :: U4 y11.Set [.slice (Gp uk6) y11.L.length u6e, .i y11.Min, .i y11.Max])) : List Value) [y8, y11] := by exact (Els.cons (K := kT27) (vs := (.i y8.Kind :: U4 y8.Set [.slice (Gp uju) y8.L.length u6z, .i y8.Min, .i y8.Max])) (x := y8) (kT27_close ⟨[.i y8.Kind], (U4 y8.Set [.slice (Gp uju) y8.L.length u6z, .i y8.Min, .i y8.Max]), rfl, rfl, ⟨(U4 y8.Set []), [.slice (Gp uju) y8.L.length u6z, .i y8.Min, .i y8.Max], rfl, ⟨u70, els_mk4 u70⟩, ⟨[.slice (Gp uju) y8.L.length u6z], [.i y8.Min, .i y8.Max], rfl, ⟨_, _, rfl, (f14.ext ((z11.trans z12).trans z13))⟩, ⟨[.i y8.Min], [.i y8.Max], rfl, rfl, rfl⟩⟩⟩⟩) (Els.cons (K := kT27) (vs := (.i y11.Kind :: U4 y11.Set [.slice (Gp uk6) y11.L.length u6e, .i y11.Min, .i y11.Max])) (x := y11) (kT27_close ⟨[.i y11.Kind], (U4 y11.Set [.slice (Gp uk6) y11.L.length u6e, .i y11.Min, .i y11.Max]), rfl, rfl, ⟨(U4 y11.Set []), [.slice (Gp uk6) y11.L.length u6e, .i y11.Min, .i y11.Max], rfl, ⟨u6f, els_mk4 u6f⟩, ⟨[.slice (Gp uk6) y11.L.length u6e], [.i y11.Min, .i y11.Max], rfl, ⟨_, _, rfl, (f18.ext z13)⟩, ⟨[.i y11.Min], [.i y11.Max], rfl, rfl, rfl⟩⟩⟩⟩) Els.nil))
  refine Op_.made (.buildSlice 26 2 #[(0, (.tmp 31)), (1, (.tmp 32))]) 33 26 (fun b => .slice (Gp (some b)) 2 2) 28 ((.i y8.Kind :: U4 y8.Set (.slice (Gp uju) y8.L.length u6z :: .i y8.Min :: .i y8.Max :: .i y11.Kind :: U4 y11.Set [.slice (Gp uk6) y11.L.length u6e, .i y11.Min, .i y11.Max])) : List Value) p13 Goes.v (by kernel_rfl) ?_
  intro b22 w14 z14 p14
  have p14 : Hp nz wz S13 w14 (((some b22), .row 28 ((.i y8.Kind :: U4 y8.Set (.slice (Gp uju) y8.L.length u6z :: .i y8.Min :: .i y8.Max :: .i y11.Kind :: U4 y11.Set [.slice (Gp uk6) y11.L.length u6e, .i y11.Min, .i y11.Max])) : List Value) (2 * kT27.size) 0) :: (ukd, .row 49 ukg (ukf * kT48.size) 0) :: (uk8, .row 49 ukb (uka * kT48.size) 0) :: (uk6, .row 28 uk7 (u6e * kT27.size) uk7.length) :: (uju, .row 28 ujv (u6z * kT27.size) ujv.length) :: (some b3, .row 28 (.i y11.Kind :: U4 y11.Set [.slice (Gp uk6) y11.L.length u6e, .i y11.Min, .i y11.Max]) 8 0) :: (some b1, .row 28 (.i y8.Kind :: U4 y8.Set [.slice (Gp uju) y8.L.length u6z, .i y8.Min, .i y8.Max]) 8 0) :: Lr) := p14
  refine Goes.rn 1 [(34, .agg #[.i 2, .u 0, .u 0, .u 0, .u 0, .slice (Gp (some b22)) 2 2, .i 0, .i 0])] Jsi ?_
  obtain ⟨S15, z15, p15, f25⟩ := p14.freezeRd 0 rfl (f23.ext z14) (by decide)
  refine bind_some' h fun y26 e27 h => ?_
  refine Goes.cal (kc 15 [34] #[28]) 35 38 15 _ (W.z2t (⟨2, [0, 0, 0, 0], [y8, y11], 0, 0⟩ : T27) y26 e27 (Gp (some b22)) 2 2 p15 rfl f25 rfl) ?_
  rintro _ w16 ⟨S16, uki, ukj, ukk, ukl, rfl, z16, p16, ukm, rfl⟩
  have p16 := ((((p16.dp 1).dp 3).dp 3).dp 3).dp 3
  refine Goes.rn 12 [(30, .tuple #[.slice (Gp uki) y26.1.length ukk, .i y26.2]), (36, .slice (Gp uki) y26.1.length ukk), (37, .i y26.2), (9, .slice (Gp uki) y26.1.length ukk), (10, .i y26.2), (38, .i y15.2), (39, .bool (!(decide (y15.2 = 0)))), (40, .bool (!(decide (y15.2 = 0))))] Jsj ?_
  refine ite_some h (fun h29 h => ?_) (fun h29 h => ?_)
  ·
   rw [decide_eq_true h29]
   refine Goes.rn 4 [(41, .i y19.2), (42, .bool (!(decide (y19.2 = 0)))), (43, .bool (!(decide (y19.2 = 0)))), (44, .bool (!(decide (y19.2 = 0))))] Jsk ?_
   refine ite_some h (fun h30 h => ?_) (fun h30 h => ?_)
   ·
    rw [decide_eq_true h30]
    refine Goes.rn 4 [(45, .i y26.2), (46, .bool (!(decide (y26.2 = 0)))), (47, .bool (!(decide (y26.2 = 0))))] Jry ?_
    have p16 := ((p16.fr 0).fr 1).fr 2
    exact Goes.jp 104 [(5, .slice (Gp uk8) y15.1.length uka), (7, .slice (Gp ukd) y19.1.length ukf), (9, .slice (Gp uki) y26.1.length ukk), (10, .i y26.2), (47, .bool (!(decide (y26.2 = 0))))] (W.z3q _ _ h _ _ ((((((((((((((((Ext.refl S0 w0).trans z2).trans z3).trans z4).trans z5).trans z6).trans z7).trans z8).trans z9).trans z10).trans z11).trans z12).trans z13).trans z14).trans z15).trans z16) uk8 y15.1.length uka ukb ukd y19.1.length ukf ukg uki y26.1.length ukk ukl p16 (ukc.ext ((((z12.trans z13).trans z14).trans z15).trans z16)) rfl (ukh.ext ((z14.trans z15).trans z16)) rfl ukm rfl)
   ·
    rw [decide_eq_false h30]
    refine Goes.rn 4 [(45, undef), (46, undef), (47, .bool true)] Jry ?_
    have p16 := ((p16.fr 0).fr 1).fr 2
    exact Goes.jp 104 [(5, .slice (Gp uk8) y15.1.length uka), (7, .slice (Gp ukd) y19.1.length ukf), (9, .slice (Gp uki) y26.1.length ukk), (10, .i y26.2), (47, .bool true)] (W.z3q _ _ h _ _ ((((((((((((((((Ext.refl S0 w0).trans z2).trans z3).trans z4).trans z5).trans z6).trans z7).trans z8).trans z9).trans z10).trans z11).trans z12).trans z13).trans z14).trans z15).trans z16) uk8 y15.1.length uka ukb ukd y19.1.length ukf ukg uki y26.1.length ukk ukl p16 (ukc.ext ((((z12.trans z13).trans z14).trans z15).trans z16)) rfl (ukh.ext ((z14.trans z15).trans z16)) rfl ukm rfl)
  ·
   rw [decide_eq_false h29]
   refine Goes.rn 8 [(41, undef), (42, undef), (43, .bool true), (44, .bool true), (45, undef), (46, undef), (47, .bool true)] Jry ?_
   have p16 := ((p16.fr 0).fr 1).fr 2
   exact Goes.jp 104 [(5, .slice (Gp uk8) y15.1.length uka), (7, .slice (Gp ukd) y19.1.length ukf), (9, .slice (Gp uki) y26.1.length ukk), (10, .i y26.2), (47, .bool true)] (W.z3q _ _ h _ _ ((((((((((((((((Ext.refl S0 w0).trans z2).trans z3).trans z4).trans z5).trans z6).trans z7).trans z8).trans z9).trans z10).trans z11).trans z12).trans z13).trans z14).trans z15).trans z16) uk8 y15.1.length uka ukb ukd y19.1.length ukf ukg uki y26.1.length ukk ukl p16 (ukc.ext ((((z12.trans z13).trans z14).trans z15).trans z16)) rfl (ukh.ext ((z14.trans z15).trans z16)) rfl ukm rfl)
 ·
  have h7' : y5 = false := by simpa using h7
  rw [h7']
  refine Goes.rn 5 [(4, .bool false)] Jsl ?_
  obtain rfl := Option.some.inj h
  have p4 := (p4.dp 0).dp 0
  exact Goes.rt Tryd.f8 (.bool false) ⟨S4, rfl, ((((Ext.refl S0 w0).trans z2).trans z3).trans z4), p4⟩

end

end Go.Gx
