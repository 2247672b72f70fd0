import Derived.Test.YtemokppdnkiejaaDoorWMke

set_option linter.unusedVariables false

set_option maxRecDepth 100000

set_option maxHeartbeats 4000000

namespace Go.Gx

open Go.RowKit Go.Proofs

variable (nz : Nat) (wz : World) (S0 : Fz) (w0 : World) (Lr : List Ent)

noncomputable section

def Qp1 := sub [1, 1, 1] B61
def Jw4 : List Item := [.code Qp1]
def Jw5 : List Item := .inBlock 0 :: Jw4
def Qp2 := sub [1, 1, 0, 1, 0, 1, 0, 1, 1] B61
def Jw6 : List Item := .code Qp2 :: Jw5
def Jw7 : List Item := .inBlock 1 :: Jw6
def Qp3 := sub [1, 1, 0, 1, 0, 1, 0, 1, 0, 1, 0, 0] B61
def Jw8 : List Item := .inLoop Qp3 :: Jw7
def Jw9 : List Item := .code Qp3 :: Jw8
def Qp4 := sub [1, 1, 0, 1, 0, 1, 0, 1, 0, 1, 0, 0, 1, 1] B61
def Jwa : List Item := .code Qp4 :: Jw8
def Qp5 := sub [1, 1, 0, 1, 0, 1, 0, 1, 0, 1, 0, 0, 1, 0] B61
def Jwb : List Item := .code Qp5 :: Jwa
def Qp6 := sub [1, 1, 0, 1, 0, 1, 0, 1, 0, 1, 0, 0, 1, 1, 1] B61
def Jwc : List Item := .code Qp6 :: Jw8
def Jwd : List Item := .inBlock 2 :: Jwc
def Qp7 := sub [1, 1, 0, 1, 0, 1, 0, 1, 0, 1, 0, 0, 1, 1, 0, 0, 1] B61
def Jwe : List Item := .code Qp7 :: Jwd
def Qp8 := sub [1, 1, 0, 1, 0, 1, 0, 1, 0, 1, 0, 0, 1, 1, 0, 0, 0] B61
def Jwf : List Item := .inRegion (opsOf Qp8) [0, 1] :: Jwe
def Jwg : List Item := .inRegion (opsOf Qp7) [2, 3, 4] :: Jwd
def Qp9 := sub [1, 1, 0, 1, 0, 1, 0, 1, 1, 1] B61
def Jwh : List Item := .code Qp9 :: Jw5
def Qpa := sub [1, 1, 0, 1, 0, 1, 0, 1, 1, 0] B61
def Jwi : List Item := .code Qpa :: Jwh

def Post.z46 (r : List ByteArray) (v : Value) (w' : World) : Prop :=
 ∃ S' Gq nq cq csq, v = .slice (Gp Gq) nq cq ∧ Ext S0 w0 S' w' ∧ Hp nz wz S' w' ((Gq, .row 9 csq (cq * kStr.size) 0) :: Lr) ∧ Els kStr S' w' csq r ∧ r.length = nq

def L.z47 : T48 × Int × (List Int) × Int → (List ByteArray) → Prop := fun ⟨x1v, x4, x12, x13⟩ r => ∀ S1 w1, Ext S0 w0 S1 w1 → ∀ gx1 (_ : Hp nz wz S1 w1 ((some gx1, .row 49 (.i x1v.Op :: U4 x1v.Set [.i x1v.X, .i x1v.Y]) 7 0) :: Lr)) (_ : x1v.Set.length = 4) (_ : x12.length = 4) (junk : Nat → Value),
 Goes Tryd.prog (base 61) Jw9 ⟨lfr 48 [(1, (pt gx1 0)), (3, .func (.func 75) #[] #[]), (4, .i x4), (12, (ag (U4 x12 []))), (13, .i x13)] junk, []⟩ w1 (Done Tryd.prog 61 (Rets (Post.z46 nz wz S0 w0 Lr r)))

theorem W.z47 {nz wz S0 w0 Lr} [Gw nz wz] : ∀ a r, M.prog_line_l0 a = some r → (L.z47 nz wz S0 w0 Lr) a r := by
 refine M.prog_line_l0.partial_correctness (motive := (L.z47 nz wz S0 w0 Lr)) ?_
 intro uma umb ⟨x1v, x4, x12, x13⟩ r h S1 w1 hx gx1 p1 u1v umc junk
 try dsimp only at h
 refine Goes.rn 5 [(14, .bool (decide (x13 < 4)))] Jwb ?_
 refine ite_some h (fun h26 h => ?_) (fun h26 h => ?_)
 ·
  rw [decide_eq_true h26]
  refine Goes.rn 6 [] Jwf ?_
  refine guard_some' h fun g27 h => ?_
  refine Op_.ixV 25 (.tmp 12) (.tmp 13) 15 23 23 4 .u64 .i64 x13 (vs := ((U4 x12 []) : List Value)) (xs := x12) Goes.v (by kernel_rfl) (by kernel_rfl) (by kernel_rfl) (by kernel_rfl) (by kernel_rfl) (els_mk4 (S := S1) (w := w1) (k := .u64) umc) rfl g27 h26 ?_
  refine Goes.rn 5 [(6, .u (gi x12 x13)), (16, .i x4), (17, .u (gi x12 x13))] Jwg ?_
  refine bind_some' h fun y28 e29 h => ?_
  refine Goes.cal (kc 76 [17] #[23]) 18 3 76 _ (W.z45 (gi x12 x13) y28 e29  p1 ) ?_
  rintro _ w10 ⟨S10, rfl, z10, p10⟩
  refine Goes.rn 9 [(19, .i (wr .i64 (x4 + y28))), (4, .i (wr .i64 (x4 + y28))), (20, .i (wr .i64 (x13 + 1))), (13, .i (wr .i64 (x13 + 1)))] Jw9 ?_
  exact Goes.jp 48 [(1, (pt gx1 0)), (3, .func (.func 75) #[] #[]), (4, .i (wr .i64 (x4 + y28))), (12, (ag (U4 x12 []))), (13, .i (wr .i64 (x13 + 1)))] (umb _ _ h _ _ (hx.trans z10) gx1 p10 u1v umc)
 ·
  rw [decide_eq_false h26]
  refine Goes.rn 3 [] Jwi ?_
  have z11 : Ext S1 w1 S1 (w1).drew := Ext.draw
  have p11 := p1.draw
  refine Goes.drawn (s := [6, 7]) (F := Fc S1 (w1).drew [(⟨gx1, 5, none⟩, .i x1v.X)]) 10 9 (by kernel_rfl) (by kernel_rfl) (by kernel_rfl) (by kernel_rfl) ?_
  generalize (w1).drew = w11 at z11 p11 ⊢
  refine AnyG.pu 0 (.move (.tmp 3)) 21 87 (.func (.func 75) #[] #[]) (Fc.here (p11.cs [(0, 5, 1)])) ?_
  refine AnyG.pu 1 (.move (.tmp 4)) 22 3 (.i x4) (Fc.here (p11.cs [(0, 5, 1)])) ?_
  refine AnyG.pu 3 (.move (.tmp 3)) 24 87 (.func (.func 75) #[] #[]) (Fc.here (p11.cs [(0, 5, 1)])) ?_
  refine AnyG.pu 4 (.fieldAddr 49 (.tmp 1) 2) 25 0 ((pt gx1 5)) (Fc.here (p11.cs [(0, 5, 1)])) ?_
  refine AnyG.ld1 (i := 5) 3 (.tmp 25) 26 3 ⟨gx1, 5, none⟩ (.i x1v.X) (by kernel_rfl) (by kernel_rfl) (Fc.here (p11.cs [(0, 5, 1)])) (by kernel_rfl) (by kernel_rfl) (fun _ h => h.2.at_ 0 rfl) ?_
  refine guard_some' h fun g30 h => ?_
  refine guard_some' h fun g31 h => ?_
  refine Op_.call (.call { callee := .value (.tmp 21), args := #[(.tmp 22)], argTypes := #[3] }) 23 9 75 #[.i x4] (AnyG.cs (i := 2) (by kernel_rfl) (by kernel_rfl)) (by kernel_rfl) (itoa_calls Tryd.laysM171 p11 (Gw.g2.to (by decide)) x4 g30 g31) ?_
  rintro _ w12 ⟨rfl, z12, p12⟩
  have p12 : Hp nz wz S1 w12 ((some gx1, .row 49 (.i x1v.Op :: U4 x1v.Set [.i x1v.X, .i x1v.Y]) 7 0) :: Lr) := p12
  refine AnyG.next z12 ⟨(p12.c 0 5), trivial⟩ ?_
  refine guard_some' h fun g32 h => ?_
  refine guard_some' h fun g33 h => ?_
  refine Op_.call (.call { callee := .value (.tmp 24), args := #[(.tmp 26)], argTypes := #[3] }) 27 9 75 #[.i x1v.X] (AnyG.cs (i := 6) (by kernel_rfl) (by kernel_rfl)) (by kernel_rfl) (itoa_calls Tryd.laysM171 p12 (Gw.g2.to (by decide)) x1v.X g32 g33) ?_
  rintro _ w13 ⟨rfl, z13, p13⟩
  have p13 : Hp nz wz S1 w13 ((some gx1, .row 49 (.i x1v.Op :: U4 x1v.Set [.i x1v.X, .i x1v.Y]) 7 0) :: Lr) := p13
  refine AnyG.last [7] (Fc S1 w13 []) (by decide) ?_
  refine let_some h fun v36 e37 h => ?_
  have f35 : Els kStr S1 w13 ([.string (⟨#[98, 121, 116, 101]⟩ : ByteArray), .string (itoaB x4), .string (itoaB x1v.X)] : List Value) v36 := by rw [← e37]; exact (Els.cons (K := kStr) (vs := [.string (⟨#[98, 121, 116, 101]⟩ : ByteArray)]) (x := (⟨#[98, 121, 116, 101]⟩ : ByteArray)) rfl (Els.cons (K := kStr) (vs := [.string (itoaB x4)]) (x := itoaB x4) rfl (Els.cons (K := kStr) (vs := [.string (itoaB x1v.X)]) (x := itoaB x1v.X) rfl Els.nil)))
  refine Op_.made (.buildSlice 107 3 #[(0, (.const (.string ⟨#[98, 121, 116, 101]⟩))), (1, (.tmp 23)), (2, (.tmp 27))]) 28 107 (fun b => .slice (Gp (some b)) 3 3) 9 ([.string (⟨#[98, 121, 116, 101]⟩ : ByteArray), .string (itoaB x4), .string (itoaB x1v.X)] : List Value) p13 (AnyG.vs (i := 7) (by kernel_rfl) (by kernel_rfl)) (by kernel_rfl) ?_
  intro b34 w14 z14 p14
  have p14 : Hp nz wz S1 w14 (((some b34), .row 9 ([.string (⟨#[98, 121, 116, 101]⟩ : ByteArray), .string (itoaB x4), .string (itoaB x1v.X)] : List Value) (3 * kStr.size) 0) :: (some gx1, .row 49 (.i x1v.Op :: U4 x1v.Set [.i x1v.X, .i x1v.Y]) 7 0) :: Lr) := p14
  refine AnyG.last [] (Fc S1 w14 []) (by decide) ?_
  refine AnyG.pu 8 (.assign (.tmp 28)) 2 107 (.slice (Gp (some b34)) 3 3) (Fc.here trivial) ?_
  refine AnyG.done (by kernel_rfl) ?_ _
  have p14 := p14.dp 1
  obtain rfl := Option.some.inj h
  exact Goes.rt Tryd.f61 (.slice (Gp (some b34)) 3 3) ⟨S1, (some b34), 3, 3, ([.string (⟨#[98, 121, 116, 101]⟩ : ByteArray), .string (itoaB x4), .string (itoaB x1v.X)] : List Value), rfl, ((((hx.trans z11).trans z12).trans z13).trans z14), p14, (f35.ext z14), (by rw [← e37]; rfl)⟩

def Qpb := sub [1] B61
def Jwj : List Item := [.code Qpb]
def Qpc := sub [0] B61
def Jwk : List Item := .inRegion (opsOf Qpc) [0, 1] :: Jwj
def Qpd := sub [1, 1, 0, 1] B61
def Jwl : List Item := .code Qpd :: Jw4
def Qpe := sub [1, 1, 0, 0] B61
def Jwm : List Item := .inRegion (opsOf Qpe) [1] :: Jwl
def Qpf := sub [1, 1, 0, 1, 0, 1] B61
def Jwn : List Item := .code Qpf :: Jw5
def Qpg := sub [1, 1, 0, 1, 0, 1, 0, 1, 0, 1] B61
def Jwo : List Item := .code Qpg :: Jw6
def Qph := sub [1, 1, 0, 1, 0, 1, 0, 1, 0, 0] B61
def Jwp : List Item := .inRegion (opsOf Qph) [1, 2] :: Jwo
def Qpi := sub [1, 1, 0, 1, 0, 1, 1, 1] B61
def Jwq : List Item := .code Qpi :: Jw5
def Qpj := sub [1, 1, 0, 1, 0, 1, 1, 1, 0, 1] B61
def Jwr : List Item := .code Qpj :: Jw5
def Qpk := sub [1, 1, 0, 1, 0, 1, 1, 1, 0, 0] B61
def Jws : List Item := .code Qpk :: Jwr
def Qpl := sub [1, 1, 0, 1, 0, 1, 1, 1, 1, 1] B61
def Jwt : List Item := .code Qpl :: Jw5
def Qpm := sub [1, 1, 0, 1, 0, 1, 1, 1, 1, 1, 0, 1] B61
def Jwu : List Item := .code Qpm :: Jw5
def Qpn := sub [1, 1, 0, 1, 0, 1, 1, 1, 1, 1, 0, 0] B61
def Jwv : List Item := .inRegion (opsOf Qpn) [2, 3, 4, 5] :: Jwu
def Qpo := sub [1, 1, 1, 1] B61
def Jww : List Item := [.code Qpo]
def Qpp := sub [1, 1, 1, 0] B61
def Jwx : List Item := .inRegion (opsOf Qpp) [0, 1] :: Jww

theorem W.z46 (x0 : T48) (r : List ByteArray) (h : M.prog_line x0 = some r) {nz wz S0 w0 Lr} [Gw nz wz] (p0 : Hp nz wz S0 w0 (Lr)) (um : x0.Set.length = 4) :
  Calls Tryd.prog 61 #[(ag (.i x0.Op :: U4 x0.Set [.i x0.X, .i x0.Y]))] w0 (Rets (Post.z46 nz wz S0 w0 Lr r)) := by
 refine calls_of_goes (fn := Tryd.f61) (c := B61) (by kernel_rfl) (by kernel_rfl) 47 (by kernel_rfl) ?_
 refine Goes.jp 48 [(0, (ag (.i x0.Op :: U4 x0.Set [.i x0.X, .i x0.Y])))] (fun junk => ?_)
 delta M.prog_line at h
 refine Goes.rn 2 [] Jwk ?_
 refine Op_.box 49 (.tmp 0) 1 0 (ag (.i x0.Op :: U4 x0.Set [.i x0.X, .i x0.Y])) (.i x0.Op :: U4 x0.Set [.i x0.X, .i x0.Y]) p0 Goes.v (by kernel_rfl) (by kernel_rfl) ?_
 intro b1 w2 z2 p2
 refine Goes.rn 10 [(2, .slice none 0 0), (3, .func (.func 75) #[] #[]), (7, (pt b1 0))] Jwm ?_
 refine Goes.ld 3 (.tmp 7) 8 3 ⟨b1, 0, none⟩ (.i x0.Op) (p2.c 0 0) ?_
 refine Goes.rn 7 [(10, .bool (decide (x0.Op = 1))), (9, .bool (decide (x0.Op = 1)))] Jwn ?_
 refine ite_some h (fun h3 h => ?_) (fun h3 h => ?_)
 ·
  rw [decide_eq_true h3]
  refine Goes.rn 9 [(4, .i 0), (11, (pt b1 1))] Jwp ?_
  refine Goes.ldN 25 (.tmp 11) 12 25 ⟨b1, 1, none⟩ (U4 x0.Set []) (p2.pa 0 1) ?_
  refine Goes.rn 4 [(13, .i 0)] Jw9 ?_
  exact Goes.jp 48 [(1, (pt b1 0)), (3, .func (.func 75) #[] #[]), (4, .i 0), (12, (ag (U4 x0.Set []))), (13, .i 0)] (W.z47 _ _ h _ _ ((Ext.refl S0 w0).trans z2) b1 p2 um um)
 ·
  rw [decide_eq_false h3]
  refine Goes.rn 6 [(30, .bool (decide (x0.Op = 2))), (29, .bool (decide (x0.Op = 2)))] Jwq ?_
  refine ite_some h (fun h5 h => ?_) (fun h5 h => ?_)
  ·
   rw [decide_eq_true h5]
   refine Goes.rn 2 [] Jws ?_
   have z3 : Ext S0 w2 S0 (w2).drew := Ext.draw
   have p3 := p2.draw
   refine Goes.drawn (s := [7, 8]) (F := Fc S0 (w2).drew [(⟨b1, 5, none⟩, .i x0.X), (⟨b1, 6, none⟩, .i x0.Y)]) 12 10 (by kernel_rfl) (by kernel_rfl) (by kernel_rfl) (by kernel_rfl) ?_
   generalize (w2).drew = w3 at z3 p3 ⊢
   refine AnyG.pu 0 (.move (.tmp 3)) 31 87 (.func (.func 75) #[] #[]) (Fc.here (p3.cs [(0, 5, 2)])) ?_
   refine AnyG.pu 1 (.fieldAddr 49 (.tmp 1) 2) 32 0 ((pt b1 5)) (Fc.here (p3.cs [(0, 5, 2)])) ?_
   refine AnyG.ld1 (i := 2) 3 (.tmp 32) 33 3 ⟨b1, 5, none⟩ (.i x0.X) (by kernel_rfl) (by kernel_rfl) (Fc.here (p3.cs [(0, 5, 2)])) (by kernel_rfl) (by kernel_rfl) (fun _ h => h.2.at_ 0 rfl) ?_
   refine AnyG.pu 4 (.move (.tmp 3)) 35 87 (.func (.func 75) #[] #[]) (Fc.here (p3.cs [(0, 5, 2)])) ?_
   refine AnyG.pu 5 (.fieldAddr 49 (.tmp 1) 3) 36 0 ((pt b1 6)) (Fc.here (p3.cs [(0, 5, 2)])) ?_
   refine AnyG.ld1 (i := 6) 3 (.tmp 36) 37 3 ⟨b1, 6, none⟩ (.i x0.Y) (by kernel_rfl) (by kernel_rfl) (Fc.here (p3.cs [(0, 5, 2)])) (by kernel_rfl) (by kernel_rfl) (fun _ h => h.2.at_ 1 rfl) ?_
   refine guard_some' h fun g6 h => ?_
   refine guard_some' h fun g7 h => ?_
   refine Op_.call (.call { callee := .value (.tmp 31), args := #[(.tmp 33)], argTypes := #[3] }) 34 9 75 #[.i x0.X] (AnyG.cs (i := 3) (by kernel_rfl) (by kernel_rfl)) (by kernel_rfl) (itoa_calls Tryd.laysM171 p3 (Gw.g2.to (by decide)) x0.X g6 g7) ?_
   rintro _ w4 ⟨rfl, z4, p4⟩
   have p4 : Hp nz wz S0 w4 ((some b1, .row 49 (.i x0.Op :: U4 x0.Set [.i x0.X, .i x0.Y]) 7 0) :: Lr) := p4
   refine AnyG.next z4 ⟨(p4.c 0 5), (p4.c 0 6), trivial⟩ ?_
   refine guard_some' h fun g8 h => ?_
   refine guard_some' h fun g9 h => ?_
   refine Op_.call (.call { callee := .value (.tmp 35), args := #[(.tmp 37)], argTypes := #[3] }) 38 9 75 #[.i x0.Y] (AnyG.cs (i := 7) (by kernel_rfl) (by kernel_rfl)) (by kernel_rfl) (itoa_calls Tryd.laysM171 p4 (Gw.g2.to (by decide)) x0.Y g8 g9) ?_
   rintro _ w5 ⟨rfl, z5, p5⟩
   have p5 : Hp nz wz S0 w5 ((some b1, .row 49 (.i x0.Op :: U4 x0.Set [.i x0.X, .i x0.Y]) 7 0) :: Lr) := p5
   refine AnyG.last [8] (Fc S0 w5 []) (by decide) ?_
   refine let_some h fun v12 e13 h => ?_
   have f11 : Els kStr S0 w5 ([.string (⟨#[115, 112, 108, 105, 116]⟩ : ByteArray), .string (itoaB x0.X), .string (itoaB x0.Y)] : List Value) v12 := by rw [← e13]; exact (Els.cons (K := kStr) (vs := [.string (⟨#[115, 112, 108, 105, 116]⟩ : ByteArray)]) (x := (⟨#[115, 112, 108, 105, 116]⟩ : ByteArray)) rfl (Els.cons (K := kStr) (vs := [.string (itoaB x0.X)]) (x := itoaB x0.X) rfl (Els.cons (K := kStr) (vs := [.string (itoaB x0.Y)]) (x := itoaB x0.Y) rfl Els.nil)))
   refine Op_.made (.buildSlice 107 3 #[(0, (.const (.string ⟨#[115, 112, 108, 105, 116]⟩))), (1, (.tmp 34)), (2, (.tmp 38))]) 39 107 (fun b => .slice (Gp (some b)) 3 3) 9 ([.string (⟨#[115, 112, 108, 105, 116]⟩ : ByteArray), .string (itoaB x0.X), .string (itoaB x0.Y)] : List Value) p5 (AnyG.vs (i := 8) (by kernel_rfl) (by kernel_rfl)) (by kernel_rfl) ?_
   intro b10 w6 z6 p6
   have p6 : Hp nz wz S0 w6 (((some b10), .row 9 ([.string (⟨#[115, 112, 108, 105, 116]⟩ : ByteArray), .string (itoaB x0.X), .string (itoaB x0.Y)] : List Value) (3 * kStr.size) 0) :: (some b1, .row 49 (.i x0.Op :: U4 x0.Set [.i x0.X, .i x0.Y]) 7 0) :: Lr) := p6
   refine AnyG.last [] (Fc S0 w6 []) (by decide) ?_
   refine AnyG.pu 9 (.assign (.tmp 39)) 2 107 (.slice (Gp (some b10)) 3 3) (Fc.here trivial) ?_
   refine AnyG.done (by kernel_rfl) ?_ _
   have p6 := p6.dp 1
   obtain rfl := Option.some.inj h
   exact Goes.rt Tryd.f61 (.slice (Gp (some b10)) 3 3) ⟨S0, (some b10), 3, 3, ([.string (⟨#[115, 112, 108, 105, 116]⟩ : ByteArray), .string (itoaB x0.X), .string (itoaB x0.Y)] : List Value), rfl, ((((((Ext.refl S0 w0).trans z2).trans z3).trans z4).trans z5).trans z6), p6, (f11.ext z6), (by rw [← e13]; rfl)⟩
  ·
   rw [decide_eq_false h5]
   refine Goes.rn 6 [(41, .bool (decide (x0.Op = 4))), (40, .bool (decide (x0.Op = 4)))] Jwt ?_
   refine ite_some h (fun h15 h => ?_) (fun h15 h => ?_)
   ·
    rw [decide_eq_true h15]
    refine Goes.rn 5 [(42, .func (.func 75) #[] #[]), (43, (pt b1 5))] Jwv ?_
    refine Goes.ld 3 (.tmp 43) 44 3 ⟨b1, 5, none⟩ (.i x0.X) (p2.c 0 5) ?_
    refine guard_some' h fun g16 h => ?_
    refine guard_some' h fun g17 h => ?_
    refine Goes.cal (.call { callee := .value (.tmp 42), args := #[(.tmp 44)], argTypes := #[3] }) 45 9 75 _ (itoa_calls Tryd.laysM171 p2 (Gw.g2.to (by decide)) x0.X g16 g17) ?_
    rintro _ w7 ⟨rfl, z7, p7⟩
    have p7 : Hp nz wz S0 w7 ((some b1, .row 49 (.i x0.Op :: U4 x0.Set [.i x0.X, .i x0.Y]) 7 0) :: Lr) := p7
    refine let_some h fun v20 e21 h => ?_
    have f19 : Els kStr S0 w7 ([.string (⟨#[106, 117, 109, 112]⟩ : ByteArray), .string (itoaB x0.X)] : List Value) v20 := by rw [← e21]; exact (Els.cons (K := kStr) (vs := [.string (⟨#[106, 117, 109, 112]⟩ : ByteArray)]) (x := (⟨#[106, 117, 109, 112]⟩ : ByteArray)) rfl (Els.cons (K := kStr) (vs := [.string (itoaB x0.X)]) (x := itoaB x0.X) rfl Els.nil))
    refine Op_.made (.buildSlice 107 2 #[(0, (.const (.string ⟨#[106, 117, 109, 112]⟩))), (1, (.tmp 45))]) 46 107 (fun b => .slice (Gp (some b)) 2 2) 9 ([.string (⟨#[106, 117, 109, 112]⟩ : ByteArray), .string (itoaB x0.X)] : List Value) p7 Goes.v (by kernel_rfl) ?_
    intro b18 w8 z8 p8
    have p8 : Hp nz wz S0 w8 (((some b18), .row 9 ([.string (⟨#[106, 117, 109, 112]⟩ : ByteArray), .string (itoaB x0.X)] : List Value) (2 * kStr.size) 0) :: (some b1, .row 49 (.i x0.Op :: U4 x0.Set [.i x0.X, .i x0.Y]) 7 0) :: Lr) := p8
    refine Goes.rn 2 [(2, .slice (Gp (some b18)) 2 2)] Jwu ?_
    obtain rfl := Option.some.inj h
    have p8 := p8.dp 1
    exact Goes.rt Tryd.f61 (.slice (Gp (some b18)) 2 2) ⟨S0, (some b18), 2, 2, ([.string (⟨#[106, 117, 109, 112]⟩ : ByteArray), .string (itoaB x0.X)] : List Value), rfl, ((((Ext.refl S0 w0).trans z2).trans z7).trans z8), p8, (f19.ext z8), (by rw [← e21]; rfl)⟩
   ·
    rw [decide_eq_false h15]
    refine Goes.rn 5 [] Jwx ?_
    have f24 : Els kStr S0 w2 ([.string (⟨#[101, 110, 100]⟩ : ByteArray)] : List Value) [(⟨#[101, 110, 100]⟩ : ByteArray)] := by exact (Els.cons (K := kStr) (vs := [.string (⟨#[101, 110, 100]⟩ : ByteArray)]) (x := (⟨#[101, 110, 100]⟩ : ByteArray)) rfl Els.nil)
    refine Op_.made (.buildSlice 107 1 #[(0, (.const (.string ⟨#[101, 110, 100]⟩)))]) 47 107 (fun b => .slice (Gp (some b)) 1 1) 9 ([.string (⟨#[101, 110, 100]⟩ : ByteArray)] : List Value) p2 Goes.v (by kernel_rfl) ?_
    intro b23 w9 z9 p9
    have p9 : Hp nz wz S0 w9 (((some b23), .row 9 ([.string (⟨#[101, 110, 100]⟩ : ByteArray)] : List Value) (1 * kStr.size) 0) :: (some b1, .row 49 (.i x0.Op :: U4 x0.Set [.i x0.X, .i x0.Y]) 7 0) :: Lr) := p9
    refine Goes.rn 2 [(2, .slice (Gp (some b23)) 1 1)] Jww ?_
    obtain rfl := Option.some.inj h
    have p9 := p9.dp 1
    exact Goes.rt Tryd.f61 (.slice (Gp (some b23)) 1 1) ⟨S0, (some b23), 1, 1, ([.string (⟨#[101, 110, 100]⟩ : ByteArray)] : List Value), rfl, (((Ext.refl S0 w0).trans z2).trans z9), p9, (f24.ext z9), rfl⟩

def Qpq := sub [1] B46
def Jwy : List Item := [.code Qpq]
def Qpr := sub [0] B46
def Jwz : List Item := .inRegion (opsOf Qpr) [3, 4] :: Jwy
def Qps := sub [1, 0] B46
def Jx0 : List Item := [.inRegion (opsOf Qps) [2, 3, 4, 5, 6, 7]]
def Jx1 : List Item := [.inRegion (opsOf Qps) [7]]

def Post.z48 (gx0 : Nat) (r : List Int) (v : Value) (w' : World) : Prop :=
 ∃ S' umd ume umf umg, v = .tuple #[] ∧ Ext S0 w0 S' w' ∧ Hp nz wz S' w' ((some gx0, .row 56 [(pt gx0 0), .slice (Gp umd) ume umf] 2 0) :: (umd, .row 5 umg (umf * (kInt .u8).size) 0) :: Lr) ∧ Els (kInt .u8) S' w' umg r ∧ r.length = ume

theorem W.z48 (umh : List Int) (r : List Int) (h : M.strings_Builder_copyCheck umh = some r) {nz wz S0 w0 Lr} [Gw nz wz] (gx0 umi umj umk uml) (p0 : Hp nz wz S0 w0 ((some gx0, .row 56 [.pointer none, .slice (Gp umi) umj umk] 2 0) :: (umi, .row 5 uml (umk * (kInt .u8).size) 0) :: Lr)) (umm : Els (kInt .u8) S0 w0 uml umh) (umn : umh.length = umj) :
  Calls Tryd.prog 46 #[(pt gx0 0)] w0 (Rets (Post.z48 nz wz S0 w0 Lr gx0 r)) := by
 subst umn
 refine calls_of_goes (fn := Tryd.f46) (c := B46) (by kernel_rfl) (by kernel_rfl) 19 (by kernel_rfl) ?_
 refine Goes.jp 20 [(0, (pt gx0 0))] (fun junk => ?_)
 delta M.strings_Builder_copyCheck at h
 refine Goes.rn 5 [(2, (pt gx0 0)), (3, (pt gx0 0)), (4, (pt gx0 0))] Jwz ?_
 refine Goes.ld 53 (.tmp 4) 5 53 ⟨gx0, 0, none⟩ (.pointer none) (p0.c 0 0) ?_
 refine Goes.rn 6 [(6, .bool true), (7, (pt gx0 0)), (8, (pt gx0 0))] Jx0 ?_
 refine Op_.toU 53 110 (.tmp 8) 9 110 0 gx0 0 p0 rfl Goes.v (by kernel_rfl) (by kernel_rfl) (by kernel_rfl) ?_
 refine Op_.ext { callee := .value (.func 64), args := #[(.tmp 9)], argTypes := #[110] } 10 110 64 #[(pt gx0 0)] Tryd.f64 Extern.AbiNoEscape.same ((pt gx0 0)) Goes.v (by kernel_rfl) (by kernel_rfl) (by kernel_rfl) (by kernel_rfl) (by kernel_rfl) (by kernel_rfl) (same_run _) ?_
 refine Op_.frU 110 53 (.tmp 10) 11 53 0 gx0 0 p0 rfl Goes.v (by kernel_rfl) (by kernel_rfl) ?_
 refine Goes.rn 2 [(12, (pt gx0 0)), (13, (pt gx0 0))] Jx1 ?_
 refine Op_.st 53 (.tmp 13) (.tmp 11) 0 0 gx0 0 ((pt gx0 0)) [(pt gx0 0)] p0 rfl Goes.s (by kernel_rfl) (by kernel_rfl) (by kernel_rfl) (by kernel_rfl) (Nat.zero_le _) (by simp only [List.length_cons, List.length_nil]; omega) (by simp [Value.oneCell']) ?_
 intro w2 z2 p2
 have p2 : Hp nz wz S0 w2 ((some gx0, .row 56 [(pt gx0 0), .slice (Gp umi) umh.length umk] 2 0) :: (umi, .row 5 uml (umk * (kInt .u8).size) 0) :: Lr) := p2
 refine Goes.rn 1 [] [] ?_
 obtain rfl := Option.some.inj h
 exact Goes.end_ (fn := Tryd.f46) (by kernel_rfl) (v := .tuple #[]) (by kernel_rfl) ⟨S0, umi, umh.length, umk, uml, rfl, ((Ext.refl S0 w0).trans z2), p2, (umm.ext z2), rfl⟩

def Qpt := sub [1, 1] B27
def Jx2 : List Item := [.code Qpt]
def Qpu := sub [1, 0] B27
def Jx3 : List Item := .inRegion (opsOf Qpu) [1] :: Jx2
def Qpv := sub [1, 1, 1] B27
def Jx4 : List Item := [.code Qpv]
def Qpw := sub [1, 1, 0] B27
def Jx5 : List Item := .inRegion (opsOf Qpw) [4, 5, 6, 7, 8, 9] :: Jx4
def Jx6 : List Item := .inRegion (opsOf Qpw) [6, 7, 8, 9] :: Jx4
def Jx7 : List Item := .inRegion (opsOf Qpw) [9] :: Jx4
def Qpx := sub [1, 1, 1, 1] B27
def Jx8 : List Item := [.code Qpx]

def Post.z49 (gx0 : Nat) (r : Int × (List Int)) (v : Value) (w' : World) : Prop :=
 ∃ S' umd ume umf umg, v = .tuple #[.i r.1, .nilIface] ∧ Ext S0 w0 S' w' ∧ Hp nz wz S' w' ((some gx0, .row 56 [(pt gx0 0), .slice (Gp umd) ume umf] 2 0) :: (umd, .row 5 umg (umf * (kInt .u8).size) 0) :: Lr) ∧ Els (kInt .u8) S' w' umg r.2 ∧ r.2.length = ume

theorem W.z49 (umh : List Int) (x1 : ByteArray) (r : Int × (List Int)) (h : M.strings_Builder_WriteString umh x1 = some r) {nz wz S0 w0 Lr} [Gw nz wz] (gx0 umi umj umk uml) (p0 : Hp nz wz S0 w0 ((some gx0, .row 56 [.pointer none, .slice (Gp umi) umj umk] 2 0) :: (umi, .row 5 uml (umk * (kInt .u8).size) 0) :: Lr)) (umm : Els (kInt .u8) S0 w0 uml umh) (umn : umh.length = umj) :
  Calls Tryd.prog 27 #[(pt gx0 0), .string x1] w0 (Rets (Post.z49 nz wz S0 w0 Lr gx0 r)) := by
 subst umn
 refine calls_of_goes (fn := Tryd.f27) (c := B27) (by kernel_rfl) (by kernel_rfl) 17 (by kernel_rfl) ?_
 refine Goes.jp 19 [(0, (pt gx0 0)), (1, .string x1)] (fun junk => ?_)
 delta M.strings_Builder_WriteString at h
 refine Goes.rn 8 [(4, .i 0), (5, .nilIface), (6, (pt gx0 0))] Jx3 ?_
 refine bind_some' h fun y3 e4 h => ?_
 refine Goes.cal (kc 46 [6] #[53]) 7 0 46 _ (W.z48 umh y3 e4 gx0 umi umh.length umk uml p0 umm rfl) ?_
 rintro _ w2 ⟨S2, umo, ump, umq, umr, rfl, z2, p2, ums, rfl⟩
 refine Goes.rn 7 [(8, (pt gx0 0)), (9, (pt gx0 0)), (10, (pt gx0 0)), (11, (pt gx0 1))] Jx5 ?_
 refine Goes.ld 54 (.tmp 11) 12 54 ⟨gx0, 1, none⟩ (.slice (Gp umo) y3.length umq) (p2.c 0 1) ?_
 refine Goes.rn 1 [(13, .string x1)] Jx6 ?_
 refine guard_some' h fun g9 h => ?_
 refine Op_.apS 54 9 (.tmp 12) (.tmp 13) 14 54 5 1 1 y3.length umq y3 (y3 ++ s2b x1) x1 rfl rfl p2 rfl ums Goes.v (by kernel_rfl) (by kernel_rfl) (by kernel_rfl) (by kernel_rfl) (by kernel_rfl) (by have := g9; omega) (by have := g9; omega) ?_
 intro w3 G10 c11 umt z3 p3 f13
 refine Goes.rn 2 [(15, (pt gx0 0)), (16, (pt gx0 1))] Jx7 ?_
 refine Op_.st 54 (.tmp 16) (.tmp 14) 0 0 gx0 1 (.slice (Gp G10) ((y3 ++ s2b x1).length) c11) [.slice (Gp G10) ((y3 ++ s2b x1).length) c11] p3 rfl Goes.s (by kernel_rfl) (by kernel_rfl) (by kernel_rfl) (by kernel_rfl) (Nat.zero_le _) (by simp only [List.length_cons, List.length_nil]; omega) (by simp [Value.oneCell']) ?_
 intro w4 z4 p4
 have p4 : Hp nz wz S2 w4 ((some gx0, .row 56 [(pt gx0 0), .slice (Gp G10) ((y3 ++ s2b x1).length) c11] 2 0) :: (G10, .row 5 umt (c11 * (kInt .u8).size) 0) :: Lr) := p4
 refine Goes.rn 8 [(17, .string x1), (18, .i (x1.size : Int)), (4, .i (x1.size : Int)), (5, .nilIface)] Jx8 ?_
 obtain rfl := Option.some.inj h
 exact Goes.rt Tryd.f27 (.tuple #[.i (x1.size : Int), .nilIface]) ⟨S2, G10, (y3 ++ s2b x1).length, c11, umt, rfl, ((((Ext.refl S0 w0).trans z2).trans z3).trans z4), p4, (f13.ext z4), rfl⟩

def Qpy := sub [1, 1, 1, 0, 1, 0, 1, 0] B21
def Jx9 : List Item := .inRegion (opsOf Qpy) [1] :: Jo9
def Qpz := sub [1, 1, 1, 0, 1, 0] B21
def Qq0 := sub [1, 1, 1, 0, 1, 0, 1] B21

def Post.z4a (lk : Nat) (rk : Nat) (jkk : Nat → Value) (umu : Nat) (umv : Nat) (umw : Option Addr) (umx : Nat) (umy : Nat) (umz : List T48) (r : List Int) (v : Value) (w' : World) : Prop :=
 ∃ S' un0 un1 un2 un3, v = .bool true ∧ Ext S0 w0 S' w' ∧ Hp nz wz S' w' ((some lk, .obj (lpst 21 (lfr 18 [(5, (pt umu 0)), (13, .func (.func 59) #[] #[(pt umv 0)])] jkk) #[14] (rfAssign (Qpz)) (rfBody (Qpz)) rk .ready none)) :: (some umu, .row 56 [(pt umu 0), .slice (Gp un0) un1 un2] 2 0) :: (un0, .row 5 un3 (un2 * (kInt .u8).size) 0) :: (some umv, .row 37 [.slice umw umx umy] 1 0) :: Lr) ∧ Els (kInt .u8) S' w' un3 r ∧ r.length = un1

theorem W.z4a (un4 : List Int) (umz : List T48) (a0 : ByteArray) (r : List Int) (h : M.prog_Text_r un4 umz a0 = some r) {nz wz S0 w0 Lr} [Gw nz wz] (lk rk jkk umu un5 un6 un7 un8 umv umw umx umy) (p0 : Hp nz wz S0 w0 ((some lk, .obj (lpst 21 (lfr 18 [(5, (pt umu 0)), (13, .func (.func 59) #[] #[(pt umv 0)])] jkk) #[14] (rfAssign (Qpz)) (rfBody (Qpz)) rk .ready none)) :: (some umu, .row 56 [.pointer none, .slice (Gp un5) un6 un7] 2 0) :: (un5, .row 5 un8 (un7 * (kInt .u8).size) 0) :: (some umv, .row 37 [.slice umw umx umy] 1 0) :: Lr)) (un9 : Els (kInt .u8) S0 w0 un8 un4) (una : un4.length = un6) (unb : Rd kT48 S0 w0 umw umy umz) (unc : umz.length = umx) :
  Goes Tryd.prog (rbase 21 lk) [.code (rfAssign (Qpz)), .beginRound, .code (rfBody (Qpz))] ⟨setp (lfr 18 [(5, (pt umu 0)), (13, .func (.func 59) #[] #[(pt umv 0)])] jkk) #[14] #[.string a0], []⟩ w0 (DoneR (Post.z4a nz wz S0 w0 Lr lk rk jkk umu umv umw umx umy umz r)) := by
 subst una
 subst unc
 refine Goes.jp 18 [(5, (pt umu 0)), (13, .func (.func 59) #[] #[(pt umv 0)]), (14, .string a0)] (fun junk => ?_)
 delta M.prog_Text_r at h
 refine Goes.rn 3 [(6, .string a0)] [.beginRound, .code (Qq0)] ?_
 refine Goes.beginR 0 rfl p0 rfl ?_
 intro w2 z2 p2
 refine Goes.rn 3 [(15, .string a0)] Jx9 ?_
 have p2 := (p2.fr 2).fr 2
 refine bind_some' h fun y5 e6 h => ?_
 refine Goes.cal (kc 27 [5, 15] #[56, 9]) 16 61 27 _ (W.z49 un4 a0 y5 e6 umu un5 un4.length un7 un8 p2 (un9.ext z2) rfl) ?_
 rintro _ w3 ⟨S3, und, une, unf, ung, rfl, z3, p3, unh, rfl⟩
 refine Goes.rn 2 [] [] ?_
 have p3 := (((p3.fr 3).fr 2).fr 2).fr 3
 obtain rfl := Option.some.inj h
 refine Goes.endR 0 p3 rfl ?_
 intro w4 z4 p4
 exact ⟨S3, und, y5.2.length, unf, ung, rfl, ((((Ext.refl S0 w0).trans z2).trans z3).trans z4), p4, (unh.ext z4), rfl⟩

def Qq1 := sub [1, 1, 1] B46
def Jxa : List Item := [.code Qq1]
def Qq2 := sub [1, 1, 0] B46
def Jxb : List Item := .inRegion (opsOf Qq2) [3, 4, 5] :: Jxa
def Jxc : List Item := .inRegion (opsOf Qq2) [5] :: Jxa

def Post.z4b (gx0 : Nat) (umi : Option Nat) (umj : Nat) (umk : Nat) (uml : List Value) (umh : List Int) (r : Unit) (v : Value) (w' : World) : Prop :=
 ∃ S', v = .tuple #[] ∧ Ext S0 w0 S' w' ∧ Hp nz wz S' w' ((some gx0, .row 56 [(pt gx0 0), .slice (Gp umi) umj umk] 2 0) :: (umi, .row 5 uml (umk * (kInt .u8).size) 0) :: Lr)

theorem W.z4b (umh : List Int) (r : Unit) (h : M.strings_Builder_copyCheck_2 umh = some r) {nz wz S0 w0 Lr} [Gw nz wz] (gx0 umi umj umk uml) (p0 : Hp nz wz S0 w0 ((some gx0, .row 56 [(pt gx0 0), .slice (Gp umi) umj umk] 2 0) :: (umi, .row 5 uml (umk * (kInt .u8).size) 0) :: Lr)) (umm : Els (kInt .u8) S0 w0 uml umh) (umn : umh.length = umj) :
  Calls Tryd.prog 46 #[(pt gx0 0)] w0 (Rets (Post.z4b nz wz S0 w0 Lr gx0 umi umj umk uml umh r)) := by
 subst umn
 refine calls_of_goes (fn := Tryd.f46) (c := B46) (by kernel_rfl) (by kernel_rfl) 19 (by kernel_rfl) ?_
 refine Goes.jp 20 [(0, (pt gx0 0))] (fun junk => ?_)
 delta M.strings_Builder_copyCheck_2 at h
 refine Goes.rn 5 [(2, (pt gx0 0)), (3, (pt gx0 0)), (4, (pt gx0 0))] Jwz ?_
 refine Goes.ld 53 (.tmp 4) 5 53 ⟨gx0, 0, none⟩ ((pt gx0 0)) (p0.c 0 0) ?_
 refine Goes.rn 8 [(6, .bool false), (14, (pt gx0 0)), (15, (pt gx0 0)), (16, (pt gx0 0))] Jxb ?_
 refine Goes.ld 53 (.tmp 16) 17 53 ⟨gx0, 0, none⟩ ((pt gx0 0)) (p0.c 0 0) ?_
 refine Goes.rn 1 [(18, (pt gx0 0))] Jxc ?_
 refine Op_.neqP 53 (.tmp 17) (.tmp 18) 53 19 4 ⟨gx0, 0, none⟩ Goes.v (by kernel_rfl) (by kernel_rfl) (by kernel_rfl) ?_
 refine Goes.rn 3 [] [] ?_
 obtain rfl := Option.some.inj h
 exact Goes.end_ (fn := Tryd.f46) (by kernel_rfl) (v := .tuple #[]) (by kernel_rfl) ⟨S0, rfl, (Ext.refl S0 w0), p0⟩

def Post.z4c (gx0 : Nat) (r : Int × (List Int)) (v : Value) (w' : World) : Prop :=
 ∃ S' umd ume umf umg, v = .tuple #[.i r.1, .nilIface] ∧ Ext S0 w0 S' w' ∧ Hp nz wz S' w' ((some gx0, .row 56 [(pt gx0 0), .slice (Gp umd) ume umf] 2 0) :: (umd, .row 5 umg (umf * (kInt .u8).size) 0) :: Lr) ∧ Els (kInt .u8) S' w' umg r.2 ∧ r.2.length = ume

theorem W.z4c (umh : List Int) (x1 : ByteArray) (r : Int × (List Int)) (h : M.strings_Builder_WriteString_2 umh x1 = some r) {nz wz S0 w0 Lr} [Gw nz wz] (gx0 umi umj umk uml) (p0 : Hp nz wz S0 w0 ((some gx0, .row 56 [(pt gx0 0), .slice (Gp umi) umj umk] 2 0) :: (umi, .row 5 uml (umk * (kInt .u8).size) 0) :: Lr)) (umm : Els (kInt .u8) S0 w0 uml umh) (umn : umh.length = umj) :
  Calls Tryd.prog 27 #[(pt gx0 0), .string x1] w0 (Rets (Post.z4c nz wz S0 w0 Lr gx0 r)) := by
 subst umn
 refine calls_of_goes (fn := Tryd.f27) (c := B27) (by kernel_rfl) (by kernel_rfl) 17 (by kernel_rfl) ?_
 refine Goes.jp 19 [(0, (pt gx0 0)), (1, .string x1)] (fun junk => ?_)
 delta M.strings_Builder_WriteString_2 at h
 refine Goes.rn 8 [(4, .i 0), (5, .nilIface), (6, (pt gx0 0))] Jx3 ?_
 refine bind_some' h fun y3 e4 h => ?_
 refine Goes.cal (kc 46 [6] #[53]) 7 0 46 _ (W.z4b umh y3 e4 gx0 umi umh.length umk uml p0 umm rfl) ?_
 rintro _ w2 ⟨S2, rfl, z2, p2⟩
 refine Goes.rn 7 [(8, (pt gx0 0)), (9, (pt gx0 0)), (10, (pt gx0 0)), (11, (pt gx0 1))] Jx5 ?_
 refine Goes.ld 54 (.tmp 11) 12 54 ⟨gx0, 1, none⟩ (.slice (Gp umi) umh.length umk) (p2.c 0 1) ?_
 refine Goes.rn 1 [(13, .string x1)] Jx6 ?_
 refine guard_some' h fun g8 h => ?_
 refine Op_.apS 54 9 (.tmp 12) (.tmp 13) 14 54 5 1 1 umh.length umk umh (umh ++ s2b x1) x1 rfl rfl p2 rfl (umm.ext z2) Goes.v (by kernel_rfl) (by kernel_rfl) (by kernel_rfl) (by kernel_rfl) (by kernel_rfl) (by have := g8; omega) (by have := g8; omega) ?_
 intro w3 G9 c10 uni z3 p3 f12
 refine Goes.rn 2 [(15, (pt gx0 0)), (16, (pt gx0 1))] Jx7 ?_
 refine Op_.st 54 (.tmp 16) (.tmp 14) 0 0 gx0 1 (.slice (Gp G9) ((umh ++ s2b x1).length) c10) [.slice (Gp G9) ((umh ++ s2b x1).length) c10] p3 rfl Goes.s (by kernel_rfl) (by kernel_rfl) (by kernel_rfl) (by kernel_rfl) (Nat.zero_le _) (by simp only [List.length_cons, List.length_nil]; omega) (by simp [Value.oneCell']) ?_
 intro w4 z4 p4
 have p4 : Hp nz wz S2 w4 ((some gx0, .row 56 [(pt gx0 0), .slice (Gp G9) ((umh ++ s2b x1).length) c10] 2 0) :: (G9, .row 5 uni (c10 * (kInt .u8).size) 0) :: Lr) := p4
 refine Goes.rn 8 [(17, .string x1), (18, .i (x1.size : Int)), (4, .i (x1.size : Int)), (5, .nilIface)] Jx8 ?_
 obtain rfl := Option.some.inj h
 exact Goes.rt Tryd.f27 (.tuple #[.i (x1.size : Int), .nilIface]) ⟨S2, G9, (umh ++ s2b x1).length, c10, uni, rfl, ((((Ext.refl S0 w0).trans z2).trans z3).trans z4), p4, (f12.ext z4), rfl⟩

def Post.z4d (lk : Nat) (rk : Nat) (jkk : Nat → Value) (umu : Nat) (umv : Nat) (umw : Option Addr) (umx : Nat) (umy : Nat) (umz : List T48) (r : List Int) (v : Value) (w' : World) : Prop :=
 ∃ S' un0 un1 un2 un3, v = .bool true ∧ Ext S0 w0 S' w' ∧ Hp nz wz S' w' ((some lk, .obj (lpst 21 (lfr 18 [(5, (pt umu 0)), (13, .func (.func 59) #[] #[(pt umv 0)])] jkk) #[14] (rfAssign (Qpz)) (rfBody (Qpz)) rk .ready none)) :: (some umu, .row 56 [(pt umu 0), .slice (Gp un0) un1 un2] 2 0) :: (un0, .row 5 un3 (un2 * (kInt .u8).size) 0) :: (some umv, .row 37 [.slice umw umx umy] 1 0) :: Lr) ∧ Els (kInt .u8) S' w' un3 r ∧ r.length = un1

theorem W.z4d (un4 : List Int) (umz : List T48) (a0 : ByteArray) (r : List Int) (h : M.prog_Text_r_2 un4 umz a0 = some r) {nz wz S0 w0 Lr} [Gw nz wz] (lk rk jkk umu un5 un6 un7 un8 umv umw umx umy) (p0 : Hp nz wz S0 w0 ((some lk, .obj (lpst 21 (lfr 18 [(5, (pt umu 0)), (13, .func (.func 59) #[] #[(pt umv 0)])] jkk) #[14] (rfAssign (Qpz)) (rfBody (Qpz)) rk .ready none)) :: (some umu, .row 56 [(pt umu 0), .slice (Gp un5) un6 un7] 2 0) :: (un5, .row 5 un8 (un7 * (kInt .u8).size) 0) :: (some umv, .row 37 [.slice umw umx umy] 1 0) :: Lr)) (un9 : Els (kInt .u8) S0 w0 un8 un4) (una : un4.length = un6) (unb : Rd kT48 S0 w0 umw umy umz) (unc : umz.length = umx) :
  Goes Tryd.prog (rbase 21 lk) [.code (rfAssign (Qpz)), .beginRound, .code (rfBody (Qpz))] ⟨setp (lfr 18 [(5, (pt umu 0)), (13, .func (.func 59) #[] #[(pt umv 0)])] jkk) #[14] #[.string a0], []⟩ w0 (DoneR (Post.z4d nz wz S0 w0 Lr lk rk jkk umu umv umw umx umy umz r)) := by
 subst una
 subst unc
 refine Goes.jp 18 [(5, (pt umu 0)), (13, .func (.func 59) #[] #[(pt umv 0)]), (14, .string a0)] (fun junk => ?_)
 delta M.prog_Text_r_2 at h
 refine Goes.rn 3 [(6, .string a0)] [.beginRound, .code (Qq0)] ?_
 refine Goes.beginR 0 rfl p0 rfl ?_
 intro w2 z2 p2
 refine Goes.rn 3 [(15, .string a0)] Jx9 ?_
 have p2 := (p2.fr 2).fr 2
 refine bind_some' h fun y5 e6 h => ?_
 refine Goes.cal (kc 27 [5, 15] #[56, 9]) 16 61 27 _ (W.z4c un4 a0 y5 e6 umu un5 un4.length un7 un8 p2 (un9.ext z2) rfl) ?_
 rintro _ w3 ⟨S3, und, une, unf, ung, rfl, z3, p3, unh, rfl⟩
 refine Goes.rn 2 [] [] ?_
 have p3 := (((p3.fr 3).fr 2).fr 2).fr 3
 obtain rfl := Option.some.inj h
 refine Goes.endR 0 p3 rfl ?_
 intro w4 z4 p4
 exact ⟨S3, und, y5.2.length, unf, ung, rfl, ((((Ext.refl S0 w0).trans z2).trans z3).trans z4), p4, (unh.ext z4), rfl⟩

def Qq3 := sub [1, 0, 0] B59
def Jxd : List Item := .inLoop Qq3 :: J6z
def Jxe : List Item := .code Qq3 :: Jxd
def Qq4 := sub [1, 0, 0, 1, 1] B59
def Jxf : List Item := .code Qq4 :: Jxd
def Qq5 := sub [1, 0, 0, 1, 0] B59
def Jxg : List Item := .code Qq5 :: Jxf
def Qq6 := sub [1, 0, 0, 1, 1, 1] B59
def Jxh : List Item := .code Qq6 :: Jxd
def Jxi : List Item := .inBlock 1 :: Jxh
def Qq7 := sub [1, 0, 0, 1, 1, 0, 0, 1] B59
def Jxj : List Item := .code Qq7 :: Jxi
def Qq8 := sub [1, 0, 0, 1, 1, 0, 0, 0] B59
def Jxk : List Item := .inRegion (opsOf Qq8) [0, 1, 2, 3] :: Jxj
def Qq9 := sub [1, 0, 0, 1, 1, 0, 0, 1, 1] B59
def Jxl : List Item := .code Qq9 :: Jxi
def Qqa := sub [1, 0, 0, 1, 1, 0, 0, 1, 0] B59
def Jxm : List Item := .inRegion (opsOf Qqa) [1, 2, 3, 4, 5, 6] :: Jxl

def Post.z4e (lx0 : Nat) (rx0 : Nat) (uib : Nat → Value) (unj : Nat) (unk : Nat) (unl : Option Addr) (unm : Nat) (unn : Nat) (uno : List T48) (r : (List Int) ⊕ (List Int)) (v : Value) (w' : World) : Prop :=
 match r with
 | .inl r => ∃ S' un0 un1 un2 un3, v = .tuple #[] ∧ Ext S0 w0 S' w' ∧ Hp nz wz S' w' ((some lx0, .obj (lpst 21 (lfr 18 [(5, (pt unj 0)), (13, .func (.func 59) #[] #[(pt unk 0)])] uib) #[14] (rfAssign (Qpz)) (rfBody (Qpz)) rx0 .ready none)) :: (some unj, .row 56 [.pointer none, .slice (Gp un0) un1 un2] 2 0) :: (un0, .row 5 un3 (un2 * (kInt .u8).size) 0) :: (some unk, .row 37 [.slice unl unm unn] 1 0) :: Lr) ∧ Els (kInt .u8) S' w' un3 r ∧ r.length = un1
 | .inr (r) => ∃ S' un0 un1 un2 un3, v = .tuple #[] ∧ Ext S0 w0 S' w' ∧ Hp nz wz S' w' ((some lx0, .obj (lpst 21 (lfr 18 [(5, (pt unj 0)), (13, .func (.func 59) #[] #[(pt unk 0)])] uib) #[14] (rfAssign (Qpz)) (rfBody (Qpz)) rx0 .ready none)) :: (some unj, .row 56 [(pt unj 0), .slice (Gp un0) un1 un2] 2 0) :: (un0, .row 5 un3 (un2 * (kInt .u8).size) 0) :: (some unk, .row 37 [.slice unl unm unn] 1 0) :: Lr) ∧ Els (kInt .u8) S' w' un3 r ∧ r.length = un1

def L.z4f (lx0 : Nat) (rx0 : Nat) (uib : Nat → Value) (unj : Nat) (unk : Nat) (unl : Option Addr) (unm : Nat) (unn : Nat) : (List T48) × Int × Int × (List Int) × (List T48) → ((List Int) ⊕ (List Int)) → Prop := fun ⟨x5, x6, x7, unp, uno⟩ r => ∀ S1 w1, Ext S0 w0 S1 w1 → ∀ Ax5 nx5 cx5 un0 un1 un2 un3 (_ : Hp nz wz S1 w1 ((some lx0, .obj (lpst 21 (lfr 18 [(5, (pt unj 0)), (13, .func (.func 59) #[] #[(pt unk 0)])] uib) #[14] (rfAssign (Qpz)) (rfBody (Qpz)) rx0 .ready none)) :: (some unj, .row 56 [(pt unj 0), .slice (Gp un0) un1 un2] 2 0) :: (un0, .row 5 un3 (un2 * (kInt .u8).size) 0) :: (some unk, .row 37 [.slice unl unm unn] 1 0) :: Lr)) (_ : Rd kT48 S1 w1 Ax5 cx5 x5) (_ : x5.length = nx5) (_ : Els (kInt .u8) S1 w1 un3 unp) (_ : unp.length = un1) (_ : Rd kT48 S1 w1 unl unn uno) (_ : uno.length = unm) (junk : Nat → Value),
 Goes Tryd.prog (base 59) Jxe ⟨lfr 19 [(0, yieldV lx0), (5, .slice Ax5 nx5 cx5), (6, .i x6), (7, .i x7)] junk, []⟩ w1 (Done Tryd.prog 59 (Rets (Post.z4e nz wz S0 w0 Lr lx0 rx0 uib unj unk unl unm unn uno r)))

theorem W.z4f {nz wz S0 w0 Lr} [Gw nz wz] (lx0 : Nat) (rx0 : Nat) (uib : Nat → Value) (unj : Nat) (unk : Nat) (unl : Option Addr) (unm : Nat) (unn : Nat) : ∀ a r, M.prog_lines_1_l1 a = some r → (L.z4f nz wz S0 w0 Lr lx0 rx0 uib unj unk unl unm unn) a r := by
 refine M.prog_lines_1_l1.partial_correctness (motive := (L.z4f nz wz S0 w0 Lr lx0 rx0 uib unj unk unl unm unn)) ?_
 intro unq unr ⟨x5, x6, x7, unp, uno⟩ r h S1 w1 hx Ax5 nx5 cx5 un0 un1 un2 un3 p1 fx5 lx5 uns unt unu unv junk
 try dsimp only at h
 subst lx5
 subst unt
 subst unv
 refine Goes.rn 5 [(8, .bool (decide (x7 < x6)))] Jxg ?_
 refine ite_some h (fun h29 h => ?_) (fun h29 h => ?_)
 ·
  rw [decide_eq_true h29]
  refine Goes.rn 6 [] Jxk ?_
  refine guard_some' h fun g30 h => ?_
  refine guard_some' h fun g31 h => ?_
  refine Op_.ixR_n 37 (.tmp 5) (.tmp 7) 9 0 49 .i64 x7 (gi x5 x7) rfl rfl fx5 Goes.v (by kernel_rfl) (by kernel_rfl) (by kernel_rfl) (by kernel_rfl) g30 g31 ?_
  intro a32 _ f33 q34
  obtain ⟨_, _, rfl, rfl, ⟨_, _, rfl, ⟨l35, f36⟩, ⟨_, _, rfl, rfl, rfl⟩⟩⟩ := q34
  obtain rfl := els_lit4' f36 l35
  refine Goes.ldN 49 (.tmp 9) 10 49 a32 ([.i ((gi x5 x7).Op)] ++ ((U4 ((gi x5 x7).Set) []) ++ ([.i ((gi x5 x7).X)] ++ [.i ((gi x5 x7).Y)]))) (f33.cell) ?_
  refine Op_.alloc 49 4 0 (.agg #[.i 0, .u 0, .u 0, .u 0, .u 0, .i 0, .i 0]) [.i 0, .u 0, .u 0, .u 0, .u 0, .i 0, .i 0] p1 Goes.v (by kernel_rfl) (by kernel_rfl) ?_
  intro b37 w8 z8 p8
  refine Op_.st 49 (.tmp 4) (.tmp 10) 0 0 b37 0 (ag (.i ((gi x5 x7).Op) :: U4 ((gi x5 x7).Set) [.i ((gi x5 x7).X), .i ((gi x5 x7).Y)])) (.i ((gi x5 x7).Op) :: U4 ((gi x5 x7).Set) [.i ((gi x5 x7).X), .i ((gi x5 x7).Y)]) p8 rfl Goes.s (by kernel_rfl) (by kernel_rfl) (by kernel_rfl) (by kernel_rfl) (Nat.zero_le _) (by simp only [List.length_cons, List.length_nil]; omega) (by simp [Value.oneCell']) ?_
  intro w9 z9 p9
  have p9 : Hp nz wz S1 w9 ((some b37, .row 49 (.i ((gi x5 x7).Op) :: U4 ((gi x5 x7).Set) [.i ((gi x5 x7).X), .i ((gi x5 x7).Y)]) 7 0) :: (some lx0, .obj (lpst 21 (lfr 18 [(5, (pt unj 0)), (13, .func (.func 59) #[] #[(pt unk 0)])] uib) #[14] (rfAssign (Qpz)) (rfBody (Qpz)) rx0 .ready none)) :: (some unj, .row 56 [(pt unj 0), .slice (Gp un0) unp.length un2] 2 0) :: (un0, .row 5 un3 (un2 * (kInt .u8).size) 0) :: (some unk, .row 37 [.slice unl uno.length unn] 1 0) :: Lr) := p9
  refine Goes.rn 4 [(11, yieldV lx0)] Jxm ?_
  refine Goes.ldN 49 (.tmp 4) 12 49 ⟨b37, 0, none⟩ (.i ((gi x5 x7).Op) :: U4 ((gi x5 x7).Set) [.i ((gi x5 x7).X), .i ((gi x5 x7).Y)]) (p9.pa 0 0) ?_
  refine bind_some' h fun y39 e40 h => ?_
  refine Goes.cal (kc 61 [12] #[49]) 13 107 61 _ (W.z46 (⟨(gi x5 x7).Op, ((gi x5 x7).Set), (gi x5 x7).X, (gi x5 x7).Y⟩ : T48) y39 e40  p9 l35) ?_
  rintro _ w10 ⟨S10, unw, unx, uny, unz, rfl, z10, p10, ues, rfl⟩
  have p10 := p10.dp 1
  obtain ⟨S11, z11, p11, f42⟩ := p10.freezeRd 0 rfl ues (by decide)
  refine guard_some' h fun g43 h => ?_
  refine guard_some' h fun g44 h => ?_
  refine Goes.cal (.call { callee := .value (.func 60), args := #[(.tmp 13), (.const (.string ⟨#[32]⟩))], argTypes := #[107, 9] }) 14 9 60 _ (join_calls Tryd.lays156 Tryd.Builder_Extra_156 p11 rfl f42 (⟨#[32]⟩ : ByteArray) g43 g44) ?_
  rintro _ w12 ⟨rfl, z12, p12⟩
  have p12 : Hp nz wz S11 w12 ((unw, .row 9 unz (uny * kStr.size) unz.length) :: (some lx0, .obj (lpst 21 (lfr 18 [(5, (pt unj 0)), (13, .func (.func 59) #[] #[(pt unk 0)])] uib) #[14] (rfAssign (Qpz)) (rfBody (Qpz)) rx0 .ready none)) :: (some unj, .row 56 [(pt unj 0), .slice (Gp un0) unp.length un2] 2 0) :: (un0, .row 5 un3 (un2 * (kInt .u8).size) 0) :: (some unk, .row 37 [.slice unl uno.length unn] 1 0) :: Lr) := p12
  refine guard_some' h fun g45 h => ?_
  refine let_some h fun v46 e47 h => ?_
  refine Op_.cat_n 9 (.tmp 14) (.const (.string ⟨#[10]⟩)) 9 15 9 (joinB y39 (⟨#[32]⟩ : ByteArray)) (⟨#[10]⟩ : ByteArray) v46 e47 Goes.v (by kernel_rfl) (by kernel_rfl) g45 ?_
  have p12 := (((p12.fr 4).fr 4).fr 4).fr 4
  refine bind_some' h fun y48 e49 h => ?_
  refine Goes.yieldAt (.call { callee := .value (.tmp 11), args := #[(.tmp 15)], argTypes := #[9] }) 16 4 0 lx0 #[.string v46] p12 rfl (by kernel_rfl) rfl (fun _ => by kernel_rfl) rfl (W.z4d unp uno v46 y48 e49 lx0 rx0 uib unj un0 unp.length un2 un3 unk unl uno.length unn p12 (uns.ext ((((z8.trans z9).trans z10).trans z11).trans z12)) rfl (unu.ext ((((z8.trans z9).trans z10).trans z11).trans z12)) rfl) ?_
  rintro _ w13 ⟨S13, uo0, uo1, uo2, uo3, rfl, z13, p13, uo4, rfl⟩
  refine Goes.rn 10 [(17, .bool (!true)), (18, .i (wr .i64 (x7 + 1))), (7, .i (wr .i64 (x7 + 1)))] Jxe ?_
  have p13 := p13.dp 4
  exact Goes.jp 19 [(0, yieldV lx0), (5, .slice Ax5 x5.length cx5), (6, .i x6), (7, .i (wr .i64 (x7 + 1)))] (unr _ _ h _ _ ((((((hx.trans z8).trans z9).trans z10).trans z11).trans z12).trans z13) Ax5 x5.length cx5 uo0 y48.length uo2 uo3 p13 (fx5.ext (((((z8.trans z9).trans z10).trans z11).trans z12).trans z13)) rfl uo4 rfl (unu.ext (((((z8.trans z9).trans z10).trans z11).trans z12).trans z13)) rfl)
 ·
  rw [decide_eq_false h29]
  refine Goes.rn 2 [] [] ?_
  obtain rfl := Option.some.inj h
  exact Goes.end_ (fn := Tryd.f59) (by kernel_rfl) (v := .tuple #[]) (by kernel_rfl) ⟨S1, un0, unp.length, un2, un3, rfl, hx, p1, uns, rfl⟩

def L.z4g (lx0 : Nat) (rx0 : Nat) (uib : Nat → Value) (unj : Nat) (unk : Nat) (unl : Option Addr) (unm : Nat) (unn : Nat) : (List T48) × Int × Int × (List Int) × (List T48) → ((List Int) ⊕ (List Int)) → Prop := fun ⟨x5, x6, x7, unp, uno⟩ r => ∀ S1 w1, Ext S0 w0 S1 w1 → ∀ Ax5 nx5 cx5 un0 un1 un2 un3 (_ : Hp nz wz S1 w1 ((some lx0, .obj (lpst 21 (lfr 18 [(5, (pt unj 0)), (13, .func (.func 59) #[] #[(pt unk 0)])] uib) #[14] (rfAssign (Qpz)) (rfBody (Qpz)) rx0 .ready none)) :: (some unj, .row 56 [.pointer none, .slice (Gp un0) un1 un2] 2 0) :: (un0, .row 5 un3 (un2 * (kInt .u8).size) 0) :: (some unk, .row 37 [.slice unl unm unn] 1 0) :: Lr)) (_ : Rd kT48 S1 w1 Ax5 cx5 x5) (_ : x5.length = nx5) (_ : Els (kInt .u8) S1 w1 un3 unp) (_ : unp.length = un1) (_ : Rd kT48 S1 w1 unl unn uno) (_ : uno.length = unm) (junk : Nat → Value),
 Goes Tryd.prog (base 59) Jxe ⟨lfr 19 [(0, yieldV lx0), (5, .slice Ax5 nx5 cx5), (6, .i x6), (7, .i x7)] junk, []⟩ w1 (Done Tryd.prog 59 (Rets (Post.z4e nz wz S0 w0 Lr lx0 rx0 uib unj unk unl unm unn uno r)))

theorem W.z4g {nz wz S0 w0 Lr} [Gw nz wz] (lx0 : Nat) (rx0 : Nat) (uib : Nat → Value) (unj : Nat) (unk : Nat) (unl : Option Addr) (unm : Nat) (unn : Nat) : ∀ a r, M.prog_lines_1_l0 a = some r → L.z4g nz wz S0 w0 Lr lx0 rx0 uib unj unk unl unm unn a r := by
 intro ⟨x5, x6, x7, unp, uno⟩ r h S1 w1 hx Ax5 nx5 cx5 un0 un1 un2 un3 p1 fx5 lx5 uns unt unu unv junk
 rw [M.prog_lines_1_l0] at h
 try dsimp only at h
 subst lx5
 subst unt
 subst unv
 refine Goes.rn 5 [(8, .bool (decide (x7 < x6)))] Jxg ?_
 refine ite_some h (fun h6 h => ?_) (fun h6 h => ?_)
 ·
  rw [decide_eq_true h6]
  refine Goes.rn 6 [] Jxk ?_
  refine guard_some' h fun g7 h => ?_
  refine guard_some' h fun g8 h => ?_
  refine Op_.ixR_n 37 (.tmp 5) (.tmp 7) 9 0 49 .i64 x7 (gi x5 x7) rfl rfl fx5 Goes.v (by kernel_rfl) (by kernel_rfl) (by kernel_rfl) (by kernel_rfl) g7 g8 ?_
  intro a9 _ f10 q11
  obtain ⟨_, _, rfl, rfl, ⟨_, _, rfl, ⟨l12, f13⟩, ⟨_, _, rfl, rfl, rfl⟩⟩⟩ := q11
  obtain rfl := els_lit4' f13 l12
  refine Goes.ldN 49 (.tmp 9) 10 49 a9 ([.i ((gi x5 x7).Op)] ++ ((U4 ((gi x5 x7).Set) []) ++ ([.i ((gi x5 x7).X)] ++ [.i ((gi x5 x7).Y)]))) (f10.cell) ?_
  refine Op_.alloc 49 4 0 (.agg #[.i 0, .u 0, .u 0, .u 0, .u 0, .i 0, .i 0]) [.i 0, .u 0, .u 0, .u 0, .u 0, .i 0, .i 0] p1 Goes.v (by kernel_rfl) (by kernel_rfl) ?_
  intro b14 w2 z2 p2
  refine Op_.st 49 (.tmp 4) (.tmp 10) 0 0 b14 0 (ag (.i ((gi x5 x7).Op) :: U4 ((gi x5 x7).Set) [.i ((gi x5 x7).X), .i ((gi x5 x7).Y)])) (.i ((gi x5 x7).Op) :: U4 ((gi x5 x7).Set) [.i ((gi x5 x7).X), .i ((gi x5 x7).Y)]) p2 rfl Goes.s (by kernel_rfl) (by kernel_rfl) (by kernel_rfl) (by kernel_rfl) (Nat.zero_le _) (by simp only [List.length_cons, List.length_nil]; omega) (by simp [Value.oneCell']) ?_
  intro w3 z3 p3
  have p3 : Hp nz wz S1 w3 ((some b14, .row 49 (.i ((gi x5 x7).Op) :: U4 ((gi x5 x7).Set) [.i ((gi x5 x7).X), .i ((gi x5 x7).Y)]) 7 0) :: (some lx0, .obj (lpst 21 (lfr 18 [(5, (pt unj 0)), (13, .func (.func 59) #[] #[(pt unk 0)])] uib) #[14] (rfAssign (Qpz)) (rfBody (Qpz)) rx0 .ready none)) :: (some unj, .row 56 [.pointer none, .slice (Gp un0) unp.length un2] 2 0) :: (un0, .row 5 un3 (un2 * (kInt .u8).size) 0) :: (some unk, .row 37 [.slice unl uno.length unn] 1 0) :: Lr) := p3
  refine Goes.rn 4 [(11, yieldV lx0)] Jxm ?_
  refine Goes.ldN 49 (.tmp 4) 12 49 ⟨b14, 0, none⟩ (.i ((gi x5 x7).Op) :: U4 ((gi x5 x7).Set) [.i ((gi x5 x7).X), .i ((gi x5 x7).Y)]) (p3.pa 0 0) ?_
  refine bind_some' h fun y16 e17 h => ?_
  refine Goes.cal (kc 61 [12] #[49]) 13 107 61 _ (W.z46 (⟨(gi x5 x7).Op, ((gi x5 x7).Set), (gi x5 x7).X, (gi x5 x7).Y⟩ : T48) y16 e17  p3 l12) ?_
  rintro _ w4 ⟨S4, uo5, uo6, uo7, uo8, rfl, z4, p4, uo9, rfl⟩
  have p4 := p4.dp 1
  obtain ⟨S5, z5, p5, f19⟩ := p4.freezeRd 0 rfl uo9 (by decide)
  refine guard_some' h fun g20 h => ?_
  refine guard_some' h fun g21 h => ?_
  refine Goes.cal (.call { callee := .value (.func 60), args := #[(.tmp 13), (.const (.string ⟨#[32]⟩))], argTypes := #[107, 9] }) 14 9 60 _ (join_calls Tryd.lays156 Tryd.Builder_Extra_156 p5 rfl f19 (⟨#[32]⟩ : ByteArray) g20 g21) ?_
  rintro _ w6 ⟨rfl, z6, p6⟩
  have p6 : Hp nz wz S5 w6 ((uo5, .row 9 uo8 (uo7 * kStr.size) uo8.length) :: (some lx0, .obj (lpst 21 (lfr 18 [(5, (pt unj 0)), (13, .func (.func 59) #[] #[(pt unk 0)])] uib) #[14] (rfAssign (Qpz)) (rfBody (Qpz)) rx0 .ready none)) :: (some unj, .row 56 [.pointer none, .slice (Gp un0) unp.length un2] 2 0) :: (un0, .row 5 un3 (un2 * (kInt .u8).size) 0) :: (some unk, .row 37 [.slice unl uno.length unn] 1 0) :: Lr) := p6
  refine guard_some' h fun g22 h => ?_
  refine let_some h fun v23 e24 h => ?_
  refine Op_.cat_n 9 (.tmp 14) (.const (.string ⟨#[10]⟩)) 9 15 9 (joinB y16 (⟨#[32]⟩ : ByteArray)) (⟨#[10]⟩ : ByteArray) v23 e24 Goes.v (by kernel_rfl) (by kernel_rfl) g22 ?_
  have p6 := (((p6.fr 4).fr 4).fr 4).fr 4
  refine bind_some' h fun y25 e26 h => ?_
  refine Goes.yieldAt (.call { callee := .value (.tmp 11), args := #[(.tmp 15)], argTypes := #[9] }) 16 4 0 lx0 #[.string v23] p6 rfl (by kernel_rfl) rfl (fun _ => by kernel_rfl) rfl (W.z4a unp uno v23 y25 e26 lx0 rx0 uib unj un0 unp.length un2 un3 unk unl uno.length unn p6 (uns.ext ((((z2.trans z3).trans z4).trans z5).trans z6)) rfl (unu.ext ((((z2.trans z3).trans z4).trans z5).trans z6)) rfl) ?_
  rintro _ w7 ⟨S7, uoa, uob, uoc, uod, rfl, z7, p7, uoe, rfl⟩
  refine Goes.rn 10 [(17, .bool (!true)), (18, .i (wr .i64 (x7 + 1))), (7, .i (wr .i64 (x7 + 1)))] Jxe ?_
  have p7 := p7.dp 4
  exact Goes.jp 19 [(0, yieldV lx0), (5, .slice Ax5 x5.length cx5), (6, .i x6), (7, .i (wr .i64 (x7 + 1)))] (W.z4f lx0 rx0 uib unj unk unl uno.length unn _ _ h _ _ ((((((hx.trans z2).trans z3).trans z4).trans z5).trans z6).trans z7) Ax5 x5.length cx5 uoa y25.length uoc uod p7 (fx5.ext (((((z2.trans z3).trans z4).trans z5).trans z6).trans z7)) rfl uoe rfl (unu.ext (((((z2.trans z3).trans z4).trans z5).trans z6).trans z7)) rfl)
 ·
  rw [decide_eq_false h6]
  refine Goes.rn 2 [] [] ?_
  obtain rfl := Option.some.inj h
  exact Goes.end_ (fn := Tryd.f59) (by kernel_rfl) (v := .tuple #[]) (by kernel_rfl) ⟨S1, un0, unp.length, un2, un3, rfl, hx, p1, uns, rfl⟩

def Qqb := sub [1] B59
def Jxn : List Item := [.code Qqb]
def Qqc := sub [0] B59
def Jxo : List Item := .inRegion (opsOf Qqc) [0, 1, 2] :: Jxn

theorem W.z4e (uof : List Int) (uno : List T48) (r : (List Int) ⊕ (List Int)) (h : M.prog_lines_1 uof uno = some r) {nz wz S0 w0 Lr} [Gw nz wz] (lx0 rx0 uib unj uog uoh uoi uoj unk unl unm unn) (p0 : Hp nz wz S0 w0 ((some lx0, .obj (lpst 21 (lfr 18 [(5, (pt unj 0)), (13, .func (.func 59) #[] #[(pt unk 0)])] uib) #[14] (rfAssign (Qpz)) (rfBody (Qpz)) rx0 .ready none)) :: (some unj, .row 56 [.pointer none, .slice (Gp uog) uoh uoi] 2 0) :: (uog, .row 5 uoj (uoi * (kInt .u8).size) 0) :: (some unk, .row 37 [.slice unl unm unn] 1 0) :: Lr)) (uok : Els (kInt .u8) S0 w0 uoj uof) (uol : uof.length = uoh) (uom : Rd kT48 S0 w0 unl unn uno) (uon : uno.length = unm) :
  Calls Tryd.prog 59 #[yieldV lx0, (pt unk 0)] w0 (Rets (Post.z4e nz wz S0 w0 Lr lx0 rx0 uib unj unk unl unm unn uno r)) := by
 subst uol
 subst uon
 refine calls_of_goes (fn := Tryd.f59) (c := B59) (by kernel_rfl) (by kernel_rfl) 17 (by kernel_rfl) ?_
 refine Goes.jp 19 [(0, yieldV lx0), (1, (pt unk 0))] (fun junk => ?_)
 delta M.prog_lines_1 at h
 refine Goes.rn 2 [] Jxo ?_
 refine Goes.ld 37 (.tmp 1) 5 37 ⟨unk, 0, none⟩ (.slice unl uno.length unn) (p0.c 3 0) ?_
 refine Goes.rn 5 [(6, .i (uno.length : Int)), (7, .i 0)] Jxe ?_
 exact Goes.jp 19 [(0, yieldV lx0), (5, .slice unl uno.length unn), (6, .i (uno.length : Int)), (7, .i 0)] (W.z4g lx0 rx0 uib unj unk unl uno.length unn _ _ h _ _ (Ext.refl S0 w0) unl uno.length unn uog uof.length uoi uoj p0 uom rfl uok rfl uom rfl)

def Qqd := sub [1, 1] B28
def Jxp : List Item := [.code Qqd]
def Qqe := sub [1, 0] B28
def Jxq : List Item := .code Qqe :: Jxp

def Post.z4h (gx0 : Nat) (r : ByteArray × (List Int)) (v : Value) (w' : World) : Prop :=
 ∃ S' uoo ume umf, v = .string r.1 ∧ Ext S0 w0 S' w' ∧ Hp nz wz S' w' ((some gx0, .row 56 [.pointer none, .slice uoo ume umf] 2 0) :: Lr) ∧ Rd (kInt .u8) S' w' uoo umf r.2 ∧ r.2.length = ume

theorem W.z4h (umh : List Int) (r : ByteArray × (List Int)) (h : M.strings_Builder_String umh = some r) {nz wz S0 w0 Lr} [Gw nz wz] (gx0 umi umj umk uml) (p0 : Hp nz wz S0 w0 ((some gx0, .row 56 [.pointer none, .slice (Gp umi) umj umk] 2 0) :: (umi, .row 5 uml (umk * (kInt .u8).size) 0) :: Lr)) (umm : Els (kInt .u8) S0 w0 uml umh) (umn : umh.length = umj) :
  Calls Tryd.prog 28 #[(pt gx0 0)] w0 (Rets (Post.z4h nz wz S0 w0 Lr gx0 r)) := by
 subst umn
 refine calls_of_goes (fn := Tryd.f28) (c := B28) (by kernel_rfl) (by kernel_rfl) 13 (by kernel_rfl) ?_
 refine Goes.jp 14 [(0, (pt gx0 0))] (fun junk => ?_)
 delta M.strings_Builder_String at h
 refine Goes.rn 5 [(2, .string (⟨#[]⟩ : ByteArray))] Jxq ?_
 have z2 : Ext S0 w0 S0 (w0).drew := Ext.draw
 have p2 := p0.draw
 refine Goes.drawn (s := [10]) (F := Fc S0 (w0).drew [(⟨gx0, 1, none⟩, .slice (Gp umi) umh.length umk)]) 1 12 (by kernel_rfl) (by kernel_rfl) (by kernel_rfl) (by kernel_rfl) ?_
 generalize (w0).drew = w2 at z2 p2 ⊢
 refine AnyG.pu 0 (.move (.tmp 0)) 3 53 ((pt gx0 0)) (Fc.here (p2.cs [(0, 1, 1)])) ?_
 refine AnyG.pu 1 (.nilCheck (.tmp 3)) 4 0 ((pt gx0 0)) (Fc.here (p2.cs [(0, 1, 1)])) ?_
 refine AnyG.pu 2 (.fieldAddr 56 (.tmp 4) 1) 5 0 ((pt gx0 1)) (Fc.here (p2.cs [(0, 1, 1)])) ?_
 refine AnyG.ld1 (i := 3) 54 (.tmp 5) 6 54 ⟨gx0, 1, none⟩ (.slice (Gp umi) umh.length umk) (by kernel_rfl) (by kernel_rfl) (Fc.here (p2.cs [(0, 1, 1)])) (by kernel_rfl) (by kernel_rfl) (fun _ h => h.2.at_ 0 rfl) ?_
 refine AnyG.pu 5 (.move (.tmp 0)) 8 53 ((pt gx0 0)) (Fc.here (p2.cs [(0, 1, 1)])) ?_
 refine AnyG.pu 6 (.nilCheck (.tmp 8)) 9 0 ((pt gx0 0)) (Fc.here (p2.cs [(0, 1, 1)])) ?_
 refine AnyG.pu 7 (.fieldAddr 56 (.tmp 9) 1) 10 0 ((pt gx0 1)) (Fc.here (p2.cs [(0, 1, 1)])) ?_
 refine AnyG.ld1 (i := 8) 54 (.tmp 10) 11 54 ⟨gx0, 1, none⟩ (.slice (Gp umi) umh.length umk) (by kernel_rfl) (by kernel_rfl) (Fc.here (p2.cs [(0, 1, 1)])) (by kernel_rfl) (by kernel_rfl) (fun _ h => h.2.at_ 0 rfl) ?_
 refine AnyG.pu 9 (.call { callee := .builtin .len, args := #[(.tmp 11)], argTypes := #[54] }) 12 3 (.i (umh.length : Int)) (Fc.here (p2.cs [(0, 1, 1)])) ?_
 refine Op_.ssd 54 (.tmp 6) 7 90 5 1 umh.length umk p2 rfl (AnyG.vs (i := 4) (by kernel_rfl) (by kernel_rfl)) (by kernel_rfl) (by kernel_rfl) ?_
 intro a3 w3 z3 p3 q4
 refine AnyG.next z3 ⟨(p3.c 0 1), trivial⟩ ?_
 refine guard_some' h fun g5 h => ?_
 refine Op_.ustr 90 3 (.tmp 7) (.tmp 12) 13 9 5 1 (b2s umh) rfl rfl p3 rfl (umm.ext (z2.trans z3)) q4 (by have := g5; omega) (AnyG.vs (i := 10) (by kernel_rfl) (by kernel_rfl)) (by kernel_rfl) (by kernel_rfl) (by kernel_rfl) (by kernel_rfl) ?_
 intro S4 w4 z4 p4 f6
 refine AnyG.last [] (Fc S4 w4 []) (by decide) ?_
 refine AnyG.pu 11 (.assign (.tmp 13)) 2 9 (.string (b2s umh)) (Fc.here trivial) ?_
 refine AnyG.done (by kernel_rfl) ?_ _
 obtain rfl := Option.some.inj h
 exact Goes.rt Tryd.f28 (.string (b2s umh)) ⟨S4, (Gp umi), umh.length, umk, rfl, ((((Ext.refl S0 w0).trans z2).trans z3).trans z4), p4, f6, rfl⟩

def Post.z4i (gx0 : Nat) (r : ByteArray × (List Int)) (v : Value) (w' : World) : Prop :=
 ∃ S' uoo ume umf, v = .string r.1 ∧ Ext S0 w0 S' w' ∧ Hp nz wz S' w' ((some gx0, .row 56 [(pt gx0 0), .slice uoo ume umf] 2 0) :: Lr) ∧ Rd (kInt .u8) S' w' uoo umf r.2 ∧ r.2.length = ume

theorem W.z4i (umh : List Int) (r : ByteArray × (List Int)) (h : M.strings_Builder_String_2 umh = some r) {nz wz S0 w0 Lr} [Gw nz wz] (gx0 umi umj umk uml) (p0 : Hp nz wz S0 w0 ((some gx0, .row 56 [(pt gx0 0), .slice (Gp umi) umj umk] 2 0) :: (umi, .row 5 uml (umk * (kInt .u8).size) 0) :: Lr)) (umm : Els (kInt .u8) S0 w0 uml umh) (umn : umh.length = umj) :
  Calls Tryd.prog 28 #[(pt gx0 0)] w0 (Rets (Post.z4i nz wz S0 w0 Lr gx0 r)) := by
 subst umn
 refine calls_of_goes (fn := Tryd.f28) (c := B28) (by kernel_rfl) (by kernel_rfl) 13 (by kernel_rfl) ?_
 refine Goes.jp 14 [(0, (pt gx0 0))] (fun junk => ?_)
 delta M.strings_Builder_String_2 at h
 refine Goes.rn 5 [(2, .string (⟨#[]⟩ : ByteArray))] Jxq ?_
 have z2 : Ext S0 w0 S0 (w0).drew := Ext.draw
 have p2 := p0.draw
 refine Goes.drawn (s := [10]) (F := Fc S0 (w0).drew [(⟨gx0, 1, none⟩, .slice (Gp umi) umh.length umk)]) 1 12 (by kernel_rfl) (by kernel_rfl) (by kernel_rfl) (by kernel_rfl) ?_
 generalize (w0).drew = w2 at z2 p2 ⊢
 refine AnyG.pu 0 (.move (.tmp 0)) 3 53 ((pt gx0 0)) (Fc.here (p2.cs [(0, 1, 1)])) ?_
 refine AnyG.pu 1 (.nilCheck (.tmp 3)) 4 0 ((pt gx0 0)) (Fc.here (p2.cs [(0, 1, 1)])) ?_
 refine AnyG.pu 2 (.fieldAddr 56 (.tmp 4) 1) 5 0 ((pt gx0 1)) (Fc.here (p2.cs [(0, 1, 1)])) ?_
 refine AnyG.ld1 (i := 3) 54 (.tmp 5) 6 54 ⟨gx0, 1, none⟩ (.slice (Gp umi) umh.length umk) (by kernel_rfl) (by kernel_rfl) (Fc.here (p2.cs [(0, 1, 1)])) (by kernel_rfl) (by kernel_rfl) (fun _ h => h.2.at_ 0 rfl) ?_
 refine AnyG.pu 5 (.move (.tmp 0)) 8 53 ((pt gx0 0)) (Fc.here (p2.cs [(0, 1, 1)])) ?_
 refine AnyG.pu 6 (.nilCheck (.tmp 8)) 9 0 ((pt gx0 0)) (Fc.here (p2.cs [(0, 1, 1)])) ?_
 refine AnyG.pu 7 (.fieldAddr 56 (.tmp 9) 1) 10 0 ((pt gx0 1)) (Fc.here (p2.cs [(0, 1, 1)])) ?_
 refine AnyG.ld1 (i := 8) 54 (.tmp 10) 11 54 ⟨gx0, 1, none⟩ (.slice (Gp umi) umh.length umk) (by kernel_rfl) (by kernel_rfl) (Fc.here (p2.cs [(0, 1, 1)])) (by kernel_rfl) (by kernel_rfl) (fun _ h => h.2.at_ 0 rfl) ?_
 refine AnyG.pu 9 (.call { callee := .builtin .len, args := #[(.tmp 11)], argTypes := #[54] }) 12 3 (.i (umh.length : Int)) (Fc.here (p2.cs [(0, 1, 1)])) ?_
 refine Op_.ssd 54 (.tmp 6) 7 90 5 1 umh.length umk p2 rfl (AnyG.vs (i := 4) (by kernel_rfl) (by kernel_rfl)) (by kernel_rfl) (by kernel_rfl) ?_
 intro a3 w3 z3 p3 q4
 refine AnyG.next z3 ⟨(p3.c 0 1), trivial⟩ ?_
 refine guard_some' h fun g5 h => ?_
 refine Op_.ustr 90 3 (.tmp 7) (.tmp 12) 13 9 5 1 (b2s umh) rfl rfl p3 rfl (umm.ext (z2.trans z3)) q4 (by have := g5; omega) (AnyG.vs (i := 10) (by kernel_rfl) (by kernel_rfl)) (by kernel_rfl) (by kernel_rfl) (by kernel_rfl) (by kernel_rfl) ?_
 intro S4 w4 z4 p4 f6
 refine AnyG.last [] (Fc S4 w4 []) (by decide) ?_
 refine AnyG.pu 11 (.assign (.tmp 13)) 2 9 (.string (b2s umh)) (Fc.here trivial) ?_
 refine AnyG.done (by kernel_rfl) ?_ _
 obtain rfl := Option.some.inj h
 exact Goes.rt Tryd.f28 (.string (b2s umh)) ⟨S4, (Gp umi), umh.length, umk, rfl, ((((Ext.refl S0 w0).trans z2).trans z3).trans z4), p4, f6, rfl⟩

def Qqf := sub [1, 1] B21
def Jxr : List Item := [.code Qqf]
def Qqg := sub [1, 0, 1] B21
def Jxs : List Item := .code Qqg :: Jxr
def Qqh := sub [1, 0, 0] B21
def Jxt : List Item := .inRegion (opsOf Qqh) [1, 2] :: Jxs
def Qqi := sub [1, 0, 1, 1] B21
def Jxu : List Item := .code Qqi :: Jxr
def Qqj := sub [1, 1, 1] B21
def Jxv : List Item := [.code Qqj]
def Qqk := sub [1, 1, 0] B21
def Jxw : List Item := .inRegion (opsOf Qqk) [0] :: Jxv
def Qql := sub [1, 1, 1, 1] B21
def Jxx : List Item := [.code Qql]
def Qqm := sub [1, 1, 1, 0, 1] B21
def Jxy : List Item := .code Qqm :: Jxx
def Qqn := sub [1, 1, 1, 0, 0] B21
def Jxz : List Item := .inRegion (opsOf Qqn) [1] :: Jxy
def Jy0 : List Item := .inBlock 0 :: Jxx
def Jy1 : List Item := .code Qpz :: Jy0
def Qqo := sub [1, 1, 1, 1, 1] B21
def Jy2 : List Item := [.code Qqo]
def Qqp := sub [1, 1, 1, 1, 0] B21
def Jy3 : List Item := .inRegion (opsOf Qqp) [0, 1, 2] :: Jy2
def Qqq := sub [1, 0, 1, 1, 0, 1] B21
def Jy4 : List Item := .code Qqq :: Jxr

def Post.z4j (r : ByteArray × Int) (v : Value) (w' : World) : Prop :=
 ∃ S', v = .tuple #[.string r.1, .i r.2] ∧ Ext S0 w0 S' w' ∧ Hp nz wz S' w' (Lr)

theorem W.z4j (x0 : List T48) (r : ByteArray × Int) (h : M.prog_Text x0 = some r) {nz wz S0 w0 Lr} [Gw nz wz] (Ax0 nx0 cx0) (p0 : Hp nz wz S0 w0 (Lr)) (fx0 : Rd kT48 S0 w0 Ax0 cx0 x0) (lx0 : x0.length = nx0) :
  Calls Tryd.prog 21 #[.slice Ax0 nx0 cx0] w0 (Rets (Post.z4j nz wz S0 w0 Lr r)) := by
 subst lx0
 refine calls_of_goes (fn := Tryd.f21) (c := B21) (by kernel_rfl) (by kernel_rfl) 17 (by kernel_rfl) ?_
 refine Goes.jp 18 [(0, .slice Ax0 x0.length cx0)] (fun junk => ?_)
 delta M.prog_Text at h
 refine Goes.rn 9 [(2, .string (⟨#[]⟩ : ByteArray)), (3, .i 0), (7, .slice Ax0 x0.length cx0)] Jxt ?_
 refine bind_some' h fun y1 e2 h => ?_
 refine Goes.cal (kc 23 [7] #[37]) 8 29 23 _ (W.z41 x0 y1 e2 Ax0 x0.length cx0 p0 fx0 rfl) ?_
 rintro _ w2 ⟨S2, rfl, z2, p2⟩
 refine Goes.rn 7 [(4, .i y1), (9, .i y1), (10, .bool (!(decide (y1 = 0))))] Jxu ?_
 refine ite_some h (fun h3 h => ?_) (fun h3 h => ?_)
 ·
  rw [decide_eq_true h3]
  refine Goes.rn 4 [] Jxw ?_
  refine Op_.alloc 56 5 0 (.agg #[.pointer none, .slice none 0 0]) [.pointer none, .slice none 0 0] p2 Goes.v (by kernel_rfl) (by kernel_rfl) ?_
  intro b4 w3 z3 p3
  refine Goes.rn 5 [(12, .slice Ax0 x0.length cx0)] Jxz ?_
  refine bind_some' h fun y6 e7 h => ?_
  refine Goes.cal (kc 41 [12] #[37]) 13 84 41 _ (W.z44 x0 y6 e7 Ax0 x0.length cx0 p3 (fx0.ext (z2.trans z3)) rfl) ?_
  rintro _ w4 ⟨S4, uop, uoq, uor, uos, rfl, z4, p4, uot, rfl⟩
  refine Goes.rn 2 [] Jy1 ?_
  refine Goes.jp 18 [(5, (pt b4 0)), (13, .func (.func 59) #[] #[(pt uop 0)])] (fun uou => ?_)
  refine Goes.rangeF (f := 21) (.tmp 13) #[14] 59 #[] #[(pt uop 0)] (by kernel_rfl) (by kernel_rfl) (fun _ => by kernel_rfl) p4 ?_
  intro r10 l11 w5 z5 p5
  have p5 : Hp nz wz S4 w5 ((none, .row 5 [] (0 * (kInt .u8).size) 0) :: (some l11, .obj (lpst 21 (lfr 18 [(5, (pt b4 0)), (13, .func (.func 59) #[] #[(pt uop 0)])] uou) #[14] (rfAssign (Qpz)) (rfBody (Qpz)) r10 .ready none)) :: (some r10, .obj (.deferred (some []))) :: (some uop, .row 37 [.slice uoq y6.length uos] 1 0) :: (some b4, .row 56 [.pointer none, .slice none 0 0] 2 0) :: Lr) := p5.nilRow' 5
  have p5 := (((p5.fr 3).fr 1).fr 4).fr 3
  refine bind_some' h fun y15 e16 h => ?_
  rcases y15 with uov | uow
  ·
   try dsimp only at h
   refine ⟨_, W.z4e ([] : List Int) y6 (Sum.inl uov) e16 l11 r10 uou b4 none 0 0 [] uop uoq y6.length uos p5 (Els.nil (K := (kInt .u8))) rfl (uot.ext z5) rfl, ?_⟩
   rintro _ w6 ⟨S6, uox, uoy, uoz, up0, rfl, z6, p6, up1, rfl⟩
   refine Goes.endF 0 p6 rfl rfl ?_
   intro w7 z7 p7
   replace p7 : Hp nz wz S6 w7 ((some b4, .row 56 [.pointer none, .slice (Gp uox) uov.length uoz] 2 0) :: (uox, .row 5 up0 (uoz * (kInt .u8).size) 0) :: (some uop, .row 37 [.slice uoq y6.length uos] 1 0) :: (some r10, .obj (.deferred (some []))) :: Lr) := (p7.front 0 _ rfl).drop
   show Goes _ _ Jy0 _ _ _
   refine Goes.rn 3 [] Jy3 ?_
   refine bind_some' h fun y18 e19 h => ?_
   refine Goes.cal (kc 28 [5] #[56]) 17 9 28 _ (W.z4h uov y18 e19 b4 uox uov.length uoz up0 p7 (up1.ext z7) rfl) ?_
   rintro _ w8 ⟨S8, up2, up3, up4, rfl, z8, p8, up5, rfl⟩
   have p8 := (p8.dp 0).dp 0
   refine Goes.rn 3 [(2, .string y18.1), (3, .i 0)] Jy2 ?_
   obtain rfl := Option.some.inj h
   refine Goes.retL ?_
   refine lvs_mark 0 rfl rfl p8 rfl ?_
   intro w9 z9 p9
   replace p9 : Hp nz wz S8 w9 (Lr) := p9.drop
   exact lvs_done (fn := Tryd.f21) rfl rfl rfl rfl (by kernel_rfl) (v := .tuple #[.string y18.1, .i 0]) (by kernel_rfl) ⟨S8, rfl, (((((((((Ext.refl S0 w0).trans z2).trans z3).trans z4).trans z5).trans z6).trans z7).trans z8).trans z9), p9⟩
  ·
   try dsimp only at h
   refine ⟨_, W.z4e ([] : List Int) y6 (Sum.inr uow) e16 l11 r10 uou b4 none 0 0 [] uop uoq y6.length uos p5 (Els.nil (K := (kInt .u8))) rfl (uot.ext z5) rfl, ?_⟩
   rintro _ w10 ⟨S10, up6, up7, up8, up9, rfl, z10, p10, upa, rfl⟩
   refine Goes.endF 0 p10 rfl rfl ?_
   intro w11 z11 p11
   replace p11 : Hp nz wz S10 w11 ((some b4, .row 56 [(pt b4 0), .slice (Gp up6) uow.length up8] 2 0) :: (up6, .row 5 up9 (up8 * (kInt .u8).size) 0) :: (some uop, .row 37 [.slice uoq y6.length uos] 1 0) :: (some r10, .obj (.deferred (some []))) :: Lr) := (p11.front 0 _ rfl).drop
   show Goes _ _ Jy0 _ _ _
   refine Goes.rn 3 [] Jy3 ?_
   refine bind_some' h fun y21 e22 h => ?_
   refine Goes.cal (kc 28 [5] #[56]) 17 9 28 _ (W.z4i uow y21 e22 b4 up6 uow.length up8 up9 p11 (upa.ext z11) rfl) ?_
   rintro _ w12 ⟨S12, upb, upc, upe, rfl, z12, p12, upf, rfl⟩
   have p12 := (p12.dp 0).dp 0
   refine Goes.rn 3 [(2, .string y21.1), (3, .i 0)] Jy2 ?_
   obtain rfl := Option.some.inj h
   refine Goes.retL ?_
   refine lvs_mark 0 rfl rfl p12 rfl ?_
   intro w13 z13 p13
   replace p13 : Hp nz wz S12 w13 (Lr) := p13.drop
   exact lvs_done (fn := Tryd.f21) rfl rfl rfl rfl (by kernel_rfl) (v := .tuple #[.string y21.1, .i 0]) (by kernel_rfl) ⟨S12, rfl, (((((((((Ext.refl S0 w0).trans z2).trans z3).trans z4).trans z5).trans z10).trans z11).trans z12).trans z13), p13⟩
 ·
  rw [decide_eq_false h3]
  refine Goes.rn 7 [(11, .i y1), (2, .string (⟨#[]⟩ : ByteArray)), (3, .i y1)] Jy4 ?_
  obtain rfl := Option.some.inj h
  exact Goes.rt Tryd.f21 (.tuple #[.string (⟨#[]⟩ : ByteArray), .i y1]) ⟨S2, rfl, ((Ext.refl S0 w0).trans z2), p2⟩

def Qqr := sub [1, 1] B20
def Jy5 : List Item := [.code Qqr]
def Qqs := sub [1, 0] B20
def Jy6 : List Item := .inRegion (opsOf Qqs) [0, 1, 2, 3, 4, 5, 6, 7, 8] :: Jy5
def Jy7 : List Item := .inRegion (opsOf Qqs) [5, 6, 7, 8] :: Jy5
def Qqt := sub [1, 1, 1] B20
def Jy8 : List Item := [.code Qqt]
def Qqu := sub [1, 1, 0] B20
def Jy9 : List Item := .inRegion (opsOf Qqu) [0, 1, 2, 3, 4, 5, 6, 7, 8] :: Jy8
def Jya : List Item := .inRegion (opsOf Qqu) [5, 6, 7, 8] :: Jy8
def Qqv := sub [1, 1, 1, 1] B20
def Jyb : List Item := [.code Qqv]
def Qqw := sub [1, 1, 1, 0] B20
def Jyc : List Item := .inRegion (opsOf Qqw) [0, 1, 2, 3, 4, 5, 6] :: Jyb
def Qqx := sub [1, 1, 1, 1, 1] B20
def Jyd : List Item := [.code Qqx]
def Qqy := sub [1, 1, 1, 1, 0] B20
def Jye : List Item := .inRegion (opsOf Qqy) [0, 1, 2, 3, 4, 5, 6] :: Jyd
def Qqz := sub [1, 1, 1, 1, 1, 1] B20
def Jyf : List Item := [.code Qqz]
def Qr0 := sub [1, 1, 1, 1, 1, 0] B20
def Jyg : List Item := .inRegion (opsOf Qr0) [1, 2, 3, 4, 5, 6] :: Jyf
def Qr1 := sub [1, 1, 1, 1, 1, 1, 1] B20
def Jyh : List Item := [.code Qr1]
def Qr2 := sub [1, 1, 1, 1, 1, 1, 0] B20
def Jyi : List Item := .inRegion (opsOf Qr2) [1, 2, 3, 4, 5, 6] :: Jyh
def Qr3 := sub [1, 1, 1, 1, 1, 1, 1, 1] B20
def Jyj : List Item := [.code Qr3]
def Qr4 := sub [1, 1, 1, 1, 1, 1, 1, 0] B20
def Jyk : List Item := .inRegion (opsOf Qr4) [3, 4, 5, 6, 7, 8, 9, 10, 11, 12, 13, 14] :: Jyj
def Jyl : List Item := .inRegion (opsOf Qr4) [7, 8, 9, 10, 11, 12, 13, 14] :: Jyj
def Jym : List Item := .inRegion (opsOf Qr4) [11, 12, 13, 14] :: Jyj

def Post.z4k (r : Bool) (v : Value) (w' : World) : Prop :=
 ∃ S', v = .bool r ∧ Ext S0 w0 S' w' ∧ Hp nz wz S' w' (Lr)

theorem W.z4k (r : Bool) (h : M.tidepolelaw11_works = some r) {nz wz S0 w0 Lr} [Gw nz wz] (p0 : Hp nz wz S0 w0 (Lr)) :
  Calls Tryd.prog 20 #[] w0 (Rets (Post.z4k nz wz S0 w0 Lr r)) := by
 refine calls_of_goes (fn := Tryd.f20) (c := B20) (by kernel_rfl) (by kernel_rfl) 59 (by kernel_rfl) ?_
 refine Goes.jp 59 [] (fun junk => ?_)
 delta M.tidepolelaw11_works at h
 refine Goes.rn 6 [(0, .bool false)] Jy6 ?_
 refine bind_some' h fun y1 e2 h => ?_
 refine Goes.cal (.call { callee := .value (.func 11), args := #[(.const (.string ⟨#[97, 124, 98]⟩))], argTypes := #[9] }) 16 30 11 _ (W.z3v (⟨#[97, 124, 98]⟩ : ByteArray) y1 e2  p0 ) ?_
 rintro _ w2 ⟨S2, upg, uph, upi, rfl, z2, p2, upj, upk, rfl⟩
 refine Goes.rn 4 [(15, .tuple #[(ag (.i y1.1.Kind :: U4 y1.1.Set [.slice upg y1.1.L.length upi, .i y1.1.Min, .i y1.1.Max])), .i y1.2.1, .i y1.2.2]), (17, (ag (.i y1.1.Kind :: U4 y1.1.Set [.slice upg y1.1.L.length upi, .i y1.1.Min, .i y1.1.Max]))), (18, .i y1.2.1), (19, .i y1.2.2)] Jy7 ?_
 refine Op_.alloc 28 1 0 (.agg #[.i 0, .u 0, .u 0, .u 0, .u 0, .slice none 0 0, .i 0, .i 0]) [.i 0, .u 0, .u 0, .u 0, .u 0, .slice none 0 0, .i 0, .i 0] p2 Goes.v (by kernel_rfl) (by kernel_rfl) ?_
 intro b3 w3 z3 p3
 refine Op_.st 28 (.tmp 1) (.tmp 17) 0 0 b3 0 (ag (.i y1.1.Kind :: U4 y1.1.Set [.slice upg y1.1.L.length upi, .i y1.1.Min, .i y1.1.Max])) (.i y1.1.Kind :: U4 y1.1.Set [.slice upg y1.1.L.length upi, .i y1.1.Min, .i y1.1.Max]) p3 rfl Goes.s (by kernel_rfl) (by kernel_rfl) (by kernel_rfl) (by kernel_rfl) (Nat.zero_le _) (by simp only [List.length_cons, List.length_nil]; omega) (by simp [Value.oneCell']) ?_
 intro w4 z4 p4
 have p4 : Hp nz wz S2 w4 ((some b3, .row 28 (.i y1.1.Kind :: U4 y1.1.Set [.slice upg y1.1.L.length upi, .i y1.1.Min, .i y1.1.Max]) 8 0) :: Lr) := p4
 refine Goes.rn 5 [(2, .i y1.2.1), (3, .i y1.2.2)] Jy9 ?_
 refine bind_some' h fun y5 e6 h => ?_
 refine Goes.cal (.call { callee := .value (.func 11), args := #[(.const (.string ⟨#[97, 42]⟩))], argTypes := #[9] }) 21 30 11 _ (W.z3v (⟨#[97, 42]⟩ : ByteArray) y5 e6  p4 ) ?_
 rintro _ w5 ⟨S5, upl, upm, upn, rfl, z5, p5, upo, upp, rfl⟩
 refine Goes.rn 4 [(20, .tuple #[(ag (.i y5.1.Kind :: U4 y5.1.Set [.slice upl y5.1.L.length upn, .i y5.1.Min, .i y5.1.Max])), .i y5.2.1, .i y5.2.2]), (22, (ag (.i y5.1.Kind :: U4 y5.1.Set [.slice upl y5.1.L.length upn, .i y5.1.Min, .i y5.1.Max]))), (23, .i y5.2.1), (24, .i y5.2.2)] Jya ?_
 refine Op_.alloc 28 4 0 (.agg #[.i 0, .u 0, .u 0, .u 0, .u 0, .slice none 0 0, .i 0, .i 0]) [.i 0, .u 0, .u 0, .u 0, .u 0, .slice none 0 0, .i 0, .i 0] p5 Goes.v (by kernel_rfl) (by kernel_rfl) ?_
 intro b7 w6 z6 p6
 refine Op_.st 28 (.tmp 4) (.tmp 22) 0 0 b7 0 (ag (.i y5.1.Kind :: U4 y5.1.Set [.slice upl y5.1.L.length upn, .i y5.1.Min, .i y5.1.Max])) (.i y5.1.Kind :: U4 y5.1.Set [.slice upl y5.1.L.length upn, .i y5.1.Min, .i y5.1.Max]) p6 rfl Goes.s (by kernel_rfl) (by kernel_rfl) (by kernel_rfl) (by kernel_rfl) (Nat.zero_le _) (by simp only [List.length_cons, List.length_nil]; omega) (by simp [Value.oneCell']) ?_
 intro w7 z7 p7
 have p7 : Hp nz wz S5 w7 ((some b7, .row 28 (.i y5.1.Kind :: U4 y5.1.Set [.slice upl y5.1.L.length upn, .i y5.1.Min, .i y5.1.Max]) 8 0) :: (some b3, .row 28 (.i y1.1.Kind :: U4 y1.1.Set [.slice upg y1.1.L.length upi, .i y1.1.Min, .i y1.1.Max]) 8 0) :: Lr) := p7
 refine Goes.rn 5 [(5, .i y5.2.1), (6, .i y5.2.2)] Jyc ?_
 refine Goes.ldN 28 (.tmp 1) 26 28 ⟨b3, 0, none⟩ (.i y1.1.Kind :: U4 y1.1.Set [.slice upg y1.1.L.length upi, .i y1.1.Min, .i y1.1.Max]) (p7.pa 1 0) ?_
 refine bind_some' h fun y9 e10 h => ?_
 refine Goes.cal (kc 15 [26] #[28]) 27 38 15 _ (W.z1c y1.1 y9 e10 upg y1.1.L.length upi p7 upj (upk.ext ((((z3.trans z4).trans z5).trans z6).trans z7)) rfl) ?_
 rintro _ w8 ⟨S8, upq, upr, ups, upt, rfl, z8, p8, upu, rfl⟩
 have p8 := p8.dp 2
 refine Goes.rn 8 [(25, .tuple #[.slice (Gp upq) y9.1.length ups, .i y9.2]), (28, .slice (Gp upq) y9.1.length ups), (29, .i y9.2), (7, .slice (Gp upq) y9.1.length ups), (8, .i y9.2)] Jye ?_
 refine Goes.ldN 28 (.tmp 4) 31 28 ⟨b7, 0, none⟩ (.i y5.1.Kind :: U4 y5.1.Set [.slice upl y5.1.L.length upn, .i y5.1.Min, .i y5.1.Max]) (p8.pa 1 0) ?_
 refine bind_some' h fun y12 e13 h => ?_
 refine Goes.cal (kc 15 [31] #[28]) 32 38 15 _ (W.z1c y5.1 y12 e13 upl y5.1.L.length upn p8 upo (upp.ext ((z6.trans z7).trans z8)) rfl) ?_
 rintro _ w9 ⟨S9, upv, upw, upx, upy, rfl, z9, p9, upz, rfl⟩
 have p9 := p9.dp 2
 refine Goes.rn 9 [(30, .tuple #[.slice (Gp upv) y12.1.length upx, .i y12.2]), (33, .slice (Gp upv) y12.1.length upx), (34, .i y12.2), (9, .slice (Gp upv) y12.1.length upx), (10, .i y12.2), (36, .slice (Gp upq) y9.1.length ups)] Jyg ?_
 obtain ⟨S10, z10, p10, f15⟩ := p9.freezeRd 1 rfl (upu.ext z9) (by decide)
 refine bind_some' h fun y16 e17 h => ?_
 refine Goes.cal (kc 21 [36] #[37]) 37 44 21 _ (W.z4j y9.1 y16 e17 (Gp upq) y9.1.length ups p10 f15 rfl) ?_
 rintro _ w11 ⟨S11, rfl, z11, p11⟩
 have p11 := p11.dp 1
 refine Goes.rn 9 [(35, .tuple #[.string y16.1, .i y16.2]), (38, .string y16.1), (39, .i y16.2), (11, .string y16.1), (12, .i y16.2), (41, .slice (Gp upv) y12.1.length upx)] Jyi ?_
 obtain ⟨S12, z12, p12, f18⟩ := p11.freezeRd 0 rfl (upz.ext (z10.trans z11)) (by decide)
 refine bind_some' h fun y19 e20 h => ?_
 refine Goes.cal (kc 21 [41] #[37]) 42 44 21 _ (W.z4j y12.1 y19 e20 (Gp upv) y12.1.length upx p12 f18 rfl) ?_
 rintro _ w13 ⟨S13, rfl, z13, p13⟩
 have p13 := p13.dp 0
 refine Goes.rn 11 [(40, .tuple #[.string y19.1, .i y19.2]), (43, .string y19.1), (44, .i y19.2), (13, .string y19.1), (14, .i y19.2), (45, .i y9.2), (46, .bool (decide (y9.2 = 0))), (47, .bool (decide (y9.2 = 0)))] Jyk ?_
 refine ite_some h (fun h21 h => ?_) (fun h21 h => ?_)
 ·
  rw [decide_eq_true h21]
  refine Goes.rn 4 [(48, .string y16.1), (49, .bool (y16.1.toList == (⟨#[115, 112, 108, 105, 116, 32, 49, 32, 50, 10, 98, 121, 116, 101, 32, 49, 32, 51, 10, 98, 121, 116, 101, 32, 49, 32, 51, 10, 101, 110, 100, 10]⟩ : ByteArray).toList)), (50, .bool (y16.1.toList == (⟨#[115, 112, 108, 105, 116, 32, 49, 32, 50, 10, 98, 121, 116, 101, 32, 49, 32, 51, 10, 98, 121, 116, 101, 32, 49, 32, 51, 10, 101, 110, 100, 10]⟩ : ByteArray).toList)), (51, .bool (y16.1.toList == (⟨#[115, 112, 108, 105, 116, 32, 49, 32, 50, 10, 98, 121, 116, 101, 32, 49, 32, 51, 10, 98, 121, 116, 101, 32, 49, 32, 51, 10, 101, 110, 100, 10]⟩ : ByteArray).toList))] Jyl ?_
  refine ite_some h (fun h22 h => ?_) (fun h22 h => ?_)
  ·
   rw [h22]
   refine Goes.rn 4 [(52, .i y16.2), (53, .bool (decide (y16.2 = 0))), (54, .bool (decide (y16.2 = 0))), (55, .bool (decide (y16.2 = 0)))] Jym ?_
   refine ite_some h (fun h23 h => ?_) (fun h23 h => ?_)
   ·
    rw [decide_eq_true h23]
    refine Goes.rn 5 [(56, .string y19.1), (57, .bool (y19.1.toList == (⟨#[115, 112, 108, 105, 116, 32, 49, 32, 50, 10, 98, 121, 116, 101, 32, 49, 32, 48, 10, 101, 110, 100, 10]⟩ : ByteArray).toList)), (58, .bool (y19.1.toList == (⟨#[115, 112, 108, 105, 116, 32, 49, 32, 50, 10, 98, 121, 116, 101, 32, 49, 32, 48, 10, 101, 110, 100, 10]⟩ : ByteArray).toList)), (0, .bool (y19.1.toList == (⟨#[115, 112, 108, 105, 116, 32, 49, 32, 50, 10, 98, 121, 116, 101, 32, 49, 32, 48, 10, 101, 110, 100, 10]⟩ : ByteArray).toList))] Jyj ?_
    obtain rfl := Option.some.inj h
    exact Goes.rt Tryd.f20 (.bool (y19.1.toList == (⟨#[115, 112, 108, 105, 116, 32, 49, 32, 50, 10, 98, 121, 116, 101, 32, 49, 32, 48, 10, 101, 110, 100, 10]⟩ : ByteArray).toList)) ⟨S13, rfl, (((((((((((((Ext.refl S0 w0).trans z2).trans z3).trans z4).trans z5).trans z6).trans z7).trans z8).trans z9).trans z10).trans z11).trans z12).trans z13), p13⟩
   ·
    rw [decide_eq_false h23]
    refine Goes.rn 5 [(56, undef), (57, undef), (58, .bool false), (0, .bool false)] Jyj ?_
    obtain rfl := Option.some.inj h
    exact Goes.rt Tryd.f20 (.bool false) ⟨S13, rfl, (((((((((((((Ext.refl S0 w0).trans z2).trans z3).trans z4).trans z5).trans z6).trans z7).trans z8).trans z9).trans z10).trans z11).trans z12).trans z13), p13⟩
  ·
   have u1a : (y16.1.toList == (⟨#[115, 112, 108, 105, 116, 32, 49, 32, 50, 10, 98, 121, 116, 101, 32, 49, 32, 51, 10, 98, 121, 116, 101, 32, 49, 32, 51, 10, 101, 110, 100, 10]⟩ : ByteArray).toList) = false := by simpa using h22
   rw [u1a]
   refine Goes.rn 9 [(52, undef), (53, undef), (54, .bool false), (55, .bool false), (56, undef), (57, undef), (58, .bool false), (0, .bool false)] Jyj ?_
   obtain rfl := Option.some.inj h
   exact Goes.rt Tryd.f20 (.bool false) ⟨S13, rfl, (((((((((((((Ext.refl S0 w0).trans z2).trans z3).trans z4).trans z5).trans z6).trans z7).trans z8).trans z9).trans z10).trans z11).trans z12).trans z13), p13⟩
 ·
  rw [decide_eq_false h21]
  refine Goes.rn 13 [(48, undef), (49, undef), (50, .bool false), (51, .bool false), (52, undef), (53, undef), (54, .bool false), (55, .bool false), (56, undef), (57, undef), (58, .bool false), (0, .bool false)] Jyj ?_
  obtain rfl := Option.some.inj h
  exact Goes.rt Tryd.f20 (.bool false) ⟨S13, rfl, (((((((((((((Ext.refl S0 w0).trans z2).trans z3).trans z4).trans z5).trans z6).trans z7).trans z8).trans z9).trans z10).trans z11).trans z12).trans z13), p13⟩

def Qr5 := sub [1] B4
def Jyn : List Item := [.code Qr5]
def Qr6 := sub [0] B4
def Jyo : List Item := .inRegion (opsOf Qr6) [0, 1] :: Jyn
def Qr7 := sub [1, 1] B4
def Jyp : List Item := [.code Qr7]
def Qr8 := sub [1, 0] B4
def Jyq : List Item := .inRegion (opsOf Qr8) [0, 1, 2] :: Jyp
def Qr9 := sub [1, 1, 1] B4
def Jyr : List Item := [.code Qr9]
def Qra := sub [1, 1, 0] B4
def Jys : List Item := .inRegion (opsOf Qra) [0, 1, 2, 3, 4, 5, 6] :: Jyr
def Qrb := sub [1, 1, 1, 1] B4
def Jyt : List Item := [.code Qrb]
def Qrc := sub [1, 1, 1, 0] B4
def Jyu : List Item := .inRegion (opsOf Qrc) [0, 1, 2, 3, 4, 5, 6] :: Jyt
def Qrd := sub [1, 1, 1, 1, 1] B4
def Jyv : List Item := [.code Qrd]
def Qre := sub [1, 1, 1, 1, 0] B4
def Jyw : List Item := .inRegion (opsOf Qre) [0, 1, 2, 3, 4, 5, 6] :: Jyv
def Qrf := sub [1, 1, 1, 1, 1, 1] B4
def Jyx : List Item := [.code Qrf]
def Qrg := sub [1, 1, 1, 1, 1, 0] B4
def Jyy : List Item := .inRegion (opsOf Qrg) [0, 1, 2, 3, 4, 5, 6] :: Jyx
def Qrh := sub [1, 1, 1, 1, 1, 1, 1] B4
def Jyz : List Item := [.code Qrh]
def Qri := sub [1, 1, 1, 1, 1, 1, 0] B4
def Jz0 : List Item := .inRegion (opsOf Qri) [2, 3, 4, 5, 6, 7, 8, 9, 10, 11, 12, 13, 14, 15, 16, 17, 18, 19, 20, 21] :: Jyz
def Jz1 : List Item := .inRegion (opsOf Qri) [4, 5, 6, 7, 8, 9, 10, 11, 12, 13, 14, 15, 16, 17, 18, 19, 20, 21] :: Jyz
def Jz2 : List Item := .inRegion (opsOf Qri) [9, 10, 11, 12, 13, 14, 15, 16, 17, 18, 19, 20, 21] :: Jyz
def Jz3 : List Item := .inRegion (opsOf Qri) [14, 15, 16, 17, 18, 19, 20, 21] :: Jyz
def Jz4 : List Item := .inRegion (opsOf Qri) [19, 20, 21] :: Jyz
def Jz5 : List Item := .inRegion (opsOf Qri) [18, 19, 20, 21] :: Jyz

def Post.z4l (r : Bool) (v : Value) (w' : World) : Prop :=
 ∃ S', v = .bool r ∧ Ext S0 w0 S' w' ∧ Hp nz wz S' w' (Lr)

theorem W.z4l (x0 : T27) (r : Bool) (h : M.tidepolelaw11_ProgMakes x0 = some r) {nz wz S0 w0 Lr} [Gw nz wz] (u5 u6 u7) (p0 : Hp nz wz S0 w0 (Lr)) (um : x0.Set.length = 4) (un : Rd kT27 S0 w0 u5 u7 x0.L) (uo : x0.L.length = u6) :
  Calls Tryd.prog 4 #[(ag (.i x0.Kind :: U4 x0.Set [.slice u5 u6 u7, .i x0.Min, .i x0.Max]))] w0 (Rets (Post.z4l nz wz S0 w0 Lr r)) := by
 subst uo
 refine calls_of_goes (fn := Tryd.f4) (c := B4) (by kernel_rfl) (by kernel_rfl) 53 (by kernel_rfl) ?_
 refine Goes.jp 54 [(0, (ag (.i x0.Kind :: U4 x0.Set [.slice u5 x0.L.length u7, .i x0.Min, .i x0.Max])))] (fun junk => ?_)
 delta M.tidepolelaw11_ProgMakes at h
 refine Goes.rn 2 [] Jyo ?_
 refine Op_.box 28 (.tmp 0) 1 0 (ag (.i x0.Kind :: U4 x0.Set [.slice u5 x0.L.length u7, .i x0.Min, .i x0.Max])) (.i x0.Kind :: U4 x0.Set [.slice u5 x0.L.length u7, .i x0.Min, .i x0.Max]) p0 Goes.v (by kernel_rfl) (by kernel_rfl) ?_
 intro b1 w2 z2 p2
 refine Goes.rn 4 [(2, .bool false)] Jyq ?_
 refine Goes.ldN 28 (.tmp 1) 11 28 ⟨b1, 0, none⟩ (.i x0.Kind :: U4 x0.Set [.slice u5 x0.L.length u7, .i x0.Min, .i x0.Max]) (p2.pa 0 0) ?_
 refine bind_some' h fun y3 e4 h => ?_
 refine Goes.cal (kc 14 [11] #[28]) 12 28 14 _ (W.z4 x0 y3 e4 u5 x0.L.length u7 p2 um (un.ext z2) rfl) ?_
 rintro _ w3 ⟨S3, uq0, ujh, uji, uq1, rfl, z3, p3, ujj, ujk, rfl⟩
 refine Op_.st 28 (.tmp 1) (.tmp 12) 0 1 b1 0 (ag (.i y3.Kind :: U4 y3.Set [.slice (Gp uq0) y3.L.length uji, .i y3.Min, .i y3.Max])) (.i y3.Kind :: U4 y3.Set [.slice (Gp uq0) y3.L.length uji, .i y3.Min, .i y3.Max]) p3 rfl Goes.s (by kernel_rfl) (by kernel_rfl) (by kernel_rfl) (by kernel_rfl) (Nat.zero_le _) (by simp only [List.length_cons, List.length_nil]; omega) (by simp [Value.oneCell']) ?_
 intro w4 z4 p4
 have p4 : Hp nz wz S3 w4 ((uq0, .row 28 uq1 (uji * kT27.size) 0) :: (some b1, .row 28 (.i y3.Kind :: U4 y3.Set [.slice (Gp uq0) y3.L.length uji, .i y3.Min, .i y3.Max]) 8 0) :: Lr) := p4
 refine Goes.rn 3 [] Jys ?_
 refine Goes.ldN 28 (.tmp 1) 14 28 ⟨b1, 0, none⟩ (.i y3.Kind :: U4 y3.Set [.slice (Gp uq0) y3.L.length uji, .i y3.Min, .i y3.Max]) (p4.pa 1 0) ?_
 obtain ⟨S5, z5, p5, f6⟩ := p4.freezeRd 0 rfl (ujk.ext z4) (by decide)
 refine bind_some' h fun y7 e8 h => ?_
 refine Goes.cal (kc 15 [14] #[28]) 15 38 15 _ (W.z1c y3 y7 e8 (Gp uq0) y3.L.length uji p5 ujj f6 rfl) ?_
 rintro _ w6 ⟨S6, uq2, uq3, uq4, uq5, rfl, z6, p6, uq6, rfl⟩
 refine Goes.rn 8 [(13, .tuple #[.slice (Gp uq2) y7.1.length uq4, .i y7.2]), (16, .slice (Gp uq2) y7.1.length uq4), (17, .i y7.2), (3, .slice (Gp uq2) y7.1.length uq4), (4, .i y7.2)] Jyu ?_
 refine Goes.ldN 28 (.tmp 1) 19 28 ⟨b1, 0, none⟩ (.i y3.Kind :: U4 y3.Set [.slice (Gp uq0) y3.L.length uji, .i y3.Min, .i y3.Max]) (p6.pa 2 0) ?_
 refine bind_some' h fun y10 e11 h => ?_
 refine Goes.cal (kc 16 [19] #[28]) 20 38 16 _ (W.z2a y3 y10 e11 (Gp uq0) y3.L.length uji p6 ujj (f6.ext z6) rfl) ?_
 rintro _ w7 ⟨S7, uq7, uq8, uq9, uqa, rfl, z7, p7, uqb, rfl⟩
 refine Goes.rn 8 [(18, .tuple #[.slice (Gp uq7) y10.1.length uq9, .i y10.2]), (21, .slice (Gp uq7) y10.1.length uq9), (22, .i y10.2), (5, .slice (Gp uq7) y10.1.length uq9), (6, .i y10.2)] Jyw ?_
 refine Goes.ldN 28 (.tmp 1) 24 28 ⟨b1, 0, none⟩ (.i y3.Kind :: U4 y3.Set [.slice (Gp uq0) y3.L.length uji, .i y3.Min, .i y3.Max]) (p7.pa 3 0) ?_
 refine bind_some' h fun y13 e14 h => ?_
 refine Goes.cal (kc 17 [24] #[28]) 25 40 17 _ (W.zm y3 y13 e14 (Gp uq0) y3.L.length uji p7 ujj (f6.ext (z6.trans z7)) rfl) ?_
 rintro _ w8 ⟨S8, rfl, z8, p8⟩
 refine Goes.rn 8 [(23, .tuple #[.i y13.1, .i y13.2]), (26, .i y13.1), (27, .i y13.2), (7, .i y13.1), (8, .i y13.2)] Jyy ?_
 refine Goes.ldN 28 (.tmp 1) 29 28 ⟨b1, 0, none⟩ (.i y3.Kind :: U4 y3.Set [.slice (Gp uq0) y3.L.length uji, .i y3.Min, .i y3.Max]) (p8.pa 3 0) ?_
 refine bind_some' h fun y15 e16 h => ?_
 refine Goes.cal (kc 18 [29] #[28]) 30 40 18 _ (W.z1v y3 y15 e16 (Gp uq0) y3.L.length uji p8 ujj (f6.ext ((z6.trans z7).trans z8)) rfl) ?_
 rintro _ w9 ⟨S9, rfl, z9, p9⟩
 have p9 := (p9.dp 2).dp 2
 refine Goes.rn 10 [(28, .tuple #[.i y15.1, .i y15.2]), (31, .i y15.1), (32, .i y15.2), (9, .i y15.1), (10, .i y15.2), (33, .slice (Gp uq2) y7.1.length uq4), (34, .slice (Gp uq7) y10.1.length uq9)] Jz0 ?_
 obtain ⟨S10, z10, p10, f17⟩ := p9.freezeRd 1 rfl (uq6.ext ((z7.trans z8).trans z9)) (by decide)
 obtain ⟨S11, z11, p11, f18⟩ := p10.freezeRd 0 rfl (uqb.ext ((z8.trans z9).trans z10)) (by decide)
 refine bind_some' h fun y19 e20 h => ?_
 refine Goes.cal (kc 19 [33, 34] #[37, 37]) 35 4 19 _ (W.z2b y7.1 y10.1 y19 e20 (Gp uq2) y7.1.length uq4 (Gp uq7) y10.1.length uq9 p11 (f17.ext z11) rfl f18 rfl) ?_
 rintro _ w12 ⟨S12, rfl, z12, p12⟩
 have p12 := (p12.dp 0).dp 0
 refine Goes.rn 1 [(36, .bool y19)] Jz1 ?_
 refine ite_some h (fun h21 h => ?_) (fun h21 h => ?_)
 ·
  rw [h21]
  refine Goes.rn 5 [(37, .i y7.2), (38, .i y10.2), (39, .bool (decide (y7.2 = y10.2))), (40, .bool (decide (y7.2 = y10.2))), (41, .bool (decide (y7.2 = y10.2)))] Jz2 ?_
  refine ite_some h (fun h22 h => ?_) (fun h22 h => ?_)
  ·
   rw [decide_eq_true h22]
   refine Goes.rn 5 [(42, .i y13.1), (43, .i y15.1), (44, .bool (decide (y13.1 = y15.1))), (45, .bool (decide (y13.1 = y15.1))), (46, .bool (decide (y13.1 = y15.1)))] Jz3 ?_
   refine ite_some h (fun h23 h => ?_) (fun h23 h => ?_)
   ·
    rw [decide_eq_true h23]
    refine Goes.rn 5 [(47, .i y13.2), (48, .i y15.2), (49, .bool (decide (y13.2 = y15.2))), (50, .bool (decide (y13.2 = y15.2))), (51, .bool (decide (y13.2 = y15.2)))] Jz4 ?_
    refine ite_some h (fun h24 h => ?_) (fun h24 h => ?_)
    ·
     rw [decide_eq_true h24]
     refine bind_some' h fun y25 e26 h => ?_
     refine Goes.cal (kc 20 [] #[]) 52 4 20 _ (W.z4k y25 e26  p12 ) ?_
     rintro _ w13 ⟨S13, rfl, z13, p13⟩
     refine Goes.rn 3 [(53, .bool y25), (2, .bool y25)] Jyz ?_
     obtain rfl := Option.some.inj h
     exact Goes.rt Tryd.f4 (.bool y25) ⟨S13, rfl, (((((((((((((Ext.refl S0 w0).trans z2).trans z3).trans z4).trans z5).trans z6).trans z7).trans z8).trans z9).trans z10).trans z11).trans z12).trans z13), p13⟩
    ·
     rw [decide_eq_false h24]
     refine Goes.rn 4 [(52, undef), (53, .bool false), (2, .bool false)] Jyz ?_
     obtain rfl := Option.some.inj h
     exact Goes.rt Tryd.f4 (.bool false) ⟨S12, rfl, ((((((((((((Ext.refl S0 w0).trans z2).trans z3).trans z4).trans z5).trans z6).trans z7).trans z8).trans z9).trans z10).trans z11).trans z12), p12⟩
   ·
    rw [decide_eq_false h23]
    refine Goes.rn 9 [(47, undef), (48, undef), (49, undef), (50, .bool false), (51, .bool false), (52, undef), (53, .bool false), (2, .bool false)] Jyz ?_
    obtain rfl := Option.some.inj h
    exact Goes.rt Tryd.f4 (.bool false) ⟨S12, rfl, ((((((((((((Ext.refl S0 w0).trans z2).trans z3).trans z4).trans z5).trans z6).trans z7).trans z8).trans z9).trans z10).trans z11).trans z12), p12⟩
  ·
   rw [decide_eq_false h22]
   refine Goes.rn 14 [(42, undef), (43, undef), (44, undef), (45, .bool false), (46, .bool false), (47, undef), (48, undef), (49, undef), (50, .bool false), (51, .bool false), (52, undef), (53, .bool false), (2, .bool false)] Jyz ?_
   obtain rfl := Option.some.inj h
   exact Goes.rt Tryd.f4 (.bool false) ⟨S12, rfl, ((((((((((((Ext.refl S0 w0).trans z2).trans z3).trans z4).trans z5).trans z6).trans z7).trans z8).trans z9).trans z10).trans z11).trans z12), p12⟩
 ·
  have ul0 : y19 = false := by simpa using h21
  rw [ul0]
  refine Goes.rn 14 [(37, undef), (38, undef), (39, undef), (40, .bool false), (41, .bool false), (42, undef), (43, undef), (44, undef), (45, .bool false), (46, .bool false), (47, undef), (48, undef), (49, undef), (50, .bool false)] Jz5 ?_
  refine Goes.rn 5 [(51, .bool false), (52, undef), (53, .bool false), (2, .bool false)] Jyz ?_
  obtain rfl := Option.some.inj h
  exact Goes.rt Tryd.f4 (.bool false) ⟨S12, rfl, ((((((((((((Ext.refl S0 w0).trans z2).trans z3).trans z4).trans z5).trans z6).trans z7).trans z8).trans z9).trans z10).trans z11).trans z12), p12⟩

end

end Go.Gx
