import Derived.Test.YtemokppdnkiejaaWSimd

set_option linter.unusedVariables false

set_option maxRecDepth 100000

set_option maxHeartbeats 4000000

namespace Go.Gx

open Go.RowKit Go.Proofs

variable (nz : Nat) (wz : World) (S0 : Fz) (w0 : World) (Lr : List Ent)

noncomputable section

def Post.z4a (lx0 : Nat) (rx0 : Nat) (u4q : Nat → Value) (u4r : Nat) (utj : Nat) (utk : Nat) (utm : Nat) (utn : Int) (uto : ByteArray) (r : List Int) (v : Value) (w' : World) : Prop :=
 ∃ S' ugs ugt ugu ugv, v = .tuple #[] ∧ Ext S0 w0 S' w' ∧ Hp nz wz S' w' ((some lx0, .obj (lpst 61 (lfr 13 [(2, (pt u4r 0)), (6, .func (.func 62) #[] #[(pt utj 0), (pt utk 0), (pt utm 0)])] u4q) #[7] (rfAssign (Qn9)) (rfBody (Qn9)) rx0 .ready none)) :: (some u4r, .row 58 [.slice (Gp ugs) ugt ugu] 1 0) :: (ugs, .row 3 ugv (ugu * (kInt .i64).size) 0) :: (some utj, .row 3 [.i utn] 1 0) :: (some utk, .row 63 [.pointer none] 1 0) :: (some utm, .row 9 [.string uto] 1 0) :: Lr) ∧ Els (kInt .i64) S' w' ugv r ∧ r.length = ugt

def L.z4b (lx0 : Nat) (rx0 : Nat) (u4q : Nat → Value) (u4r : Nat) (utj : Nat) (utk : Nat) (utm : Nat) : Int × (List Int) × Int × ByteArray → (List Int) → Prop := fun ⟨x5, uu7, utn, uto⟩ r => ∀ S1 w1, Ext S0 w0 S1 w1 → ∀ ugs ugt ugu ugv (_ : Hp nz wz S1 w1 ((some lx0, .obj (lpst 61 (lfr 13 [(2, (pt u4r 0)), (6, .func (.func 62) #[] #[(pt utj 0), (pt utk 0), (pt utm 0)])] u4q) #[7] (rfAssign (Qn9)) (rfBody (Qn9)) rx0 .ready none)) :: (some u4r, .row 58 [.slice (Gp ugs) ugt ugu] 1 0) :: (ugs, .row 3 ugv (ugu * (kInt .i64).size) 0) :: (some utj, .row 3 [.i utn] 1 0) :: (some utk, .row 63 [.pointer none] 1 0) :: (some utm, .row 9 [.string uto] 1 0) :: Lr)) (_ : Els (kInt .i64) S1 w1 ugv uu7) (_ : uu7.length = ugt) (junk : Nat → Value),
 Goes Try.prog (base 62) Jtg ⟨lfr 29 [(0, yieldV lx0), (2, (pt utk 0)), (3, (pt utm 0)), (5, .i x5)] junk, []⟩ w1 (Done Try.prog 62 (Rets (Post.z4a nz wz S0 w0 Lr lx0 rx0 u4q u4r utj utk utm utn uto r)))

def L.z4c (lx0 : Nat) (rx0 : Nat) (u4q : Nat → Value) (u4r : Nat) (utj : Nat) (utk : Nat) (utm : Nat) : Int × Bool × (List Int) × Int × ByteArray → (List Int) → Prop := fun ⟨x5, x16, uu7, utn, uto⟩ r => ∀ S1 w1, Ext S0 w0 S1 w1 → ∀ ugs ugt ugu ugv (_ : Hp nz wz S1 w1 ((some lx0, .obj (lpst 61 (lfr 13 [(2, (pt u4r 0)), (6, .func (.func 62) #[] #[(pt utj 0), (pt utk 0), (pt utm 0)])] u4q) #[7] (rfAssign (Qn9)) (rfBody (Qn9)) rx0 .ready none)) :: (some u4r, .row 58 [.slice (Gp ugs) ugt ugu] 1 0) :: (ugs, .row 3 ugv (ugu * (kInt .i64).size) 0) :: (some utj, .row 3 [.i utn] 1 0) :: (some utk, .row 63 [.pointer none] 1 0) :: (some utm, .row 9 [.string uto] 1 0) :: Lr)) (_ : Els (kInt .i64) S1 w1 ugv uu7) (_ : uu7.length = ugt) (junk : Nat → Value),
 Goes Try.prog (base 62) Jtk ⟨lfr 29 [(0, yieldV lx0), (2, (pt utk 0)), (3, (pt utm 0)), (5, .i x5), (16, .bool x16)] junk, []⟩ w1 (Done Try.prog 62 (Rets (Post.z4a nz wz S0 w0 Lr lx0 rx0 u4q u4r utj utk utm utn uto r)))

def L.z4d (lx0 : Nat) (rx0 : Nat) (u4q : Nat → Value) (u4r : Nat) (utj : Nat) (utk : Nat) (utm : Nat) : Int × Bool × (List Int) × Int × ByteArray → (List Int) → Prop := fun ⟨x5, x28, uu7, utn, uto⟩ r => ∀ S1 w1, Ext S0 w0 S1 w1 → ∀ ugs ugt ugu ugv (_ : Hp nz wz S1 w1 ((some lx0, .obj (lpst 61 (lfr 13 [(2, (pt u4r 0)), (6, .func (.func 62) #[] #[(pt utj 0), (pt utk 0), (pt utm 0)])] u4q) #[7] (rfAssign (Qn9)) (rfBody (Qn9)) rx0 .ready none)) :: (some u4r, .row 58 [.slice (Gp ugs) ugt ugu] 1 0) :: (ugs, .row 3 ugv (ugu * (kInt .i64).size) 0) :: (some utj, .row 3 [.i utn] 1 0) :: (some utk, .row 63 [.pointer none] 1 0) :: (some utm, .row 9 [.string uto] 1 0) :: Lr)) (_ : Els (kInt .i64) S1 w1 ugv uu7) (_ : uu7.length = ugt) (junk : Nat → Value),
 Goes Try.prog (base 62) Jtl ⟨lfr 29 [(0, yieldV lx0), (2, (pt utk 0)), (3, (pt utm 0)), (5, .i x5), (28, .bool x28)] junk, []⟩ w1 (Done Try.prog 62 (Rets (Post.z4a nz wz S0 w0 Lr lx0 rx0 u4q u4r utj utk utm utn uto r)))

theorem W.z4e {nz wz S0 w0 Lr} (lx0 : Nat) (rx0 : Nat) (u4q : Nat → Value) (u4r : Nat) (utj : Nat) (utk : Nat) (utm : Nat) : (∀ a r, M.sim_Runner_ends_1_4_l0 a = some r → (L.z4b nz wz S0 w0 Lr lx0 rx0 u4q u4r utj utk utm) a r) ∧ (∀ a r, M.sim_Runner_ends_1_4_l1 a = some r → (L.z4c nz wz S0 w0 Lr lx0 rx0 u4q u4r utj utk utm) a r) ∧ (∀ a r, M.sim_Runner_ends_1_4_l2 a = some r → (L.z4d nz wz S0 w0 Lr lx0 rx0 u4q u4r utj utk utm) a r) := by
 refine M.sim_Runner_ends_1_4_l0.mutual_partial_correctness (L.z4b nz wz S0 w0 Lr lx0 rx0 u4q u4r utj utk utm) (L.z4c nz wz S0 w0 Lr lx0 rx0 u4q u4r utj utk utm) (L.z4d nz wz S0 w0 Lr lx0 rx0 u4q u4r utj utk utm) ?_ ?_ ?_
 ·
  intro u12l u12m ⟨x5, uu7, utn, uto⟩ r h S1 w1 hx ugs ugt ugu ugv p1 uh2 uh3 junk
  try dsimp only at h
  subst uh3
  refine Goes.rn 5 [] Jtm ?_
  refine Goes.ld 63 (.tmp 2) 9 63 ⟨utk, 0, none⟩ (.pointer none) (p1.c 4 0) ?_
  refine bind_some' h fun y8 e9 h => ?_
  refine Goes.cal (kc 28 [9] #[63]) 10 4 28 _ (W.z3u y8 e9  p1 ) ?_
  rintro _ w2 ⟨S2, rfl, z2, p2⟩
  refine Goes.rn 1 [(11, .bool y8)] Jtn ?_
  refine ite_some h (fun h10 h => ?_) (fun h10 h => ?_)
  ·
   rw [h10]
   refine Goes.rn 2 [(12, yieldV lx0), (13, .i x5)] Jto ?_
   refine bind_some' h fun y11 e12 h => ?_
   refine Goes.yieldAt (.call { callee := .value (.tmp 12), args := #[(.tmp 13)], argTypes := #[3] }) 14 4 0 lx0 #[.i x5] p2 rfl (by kernel_rfl) rfl (fun _ => by kernel_rfl) rfl (W.z49 uu7 utn uto x5 y11 e12 lx0 rx0 u4q u4r ugs uu7.length ugu ugv utj utk utm p2 (uh2.ext z2) rfl) ?_
   rintro _ w3 ⟨S3, uui, uuj, uuk, uul, rfl, z3, p3, uum, rfl⟩
   refine Goes.rn 3 [(15, .bool (!true)), (16, .bool (!true))] Jtk ?_
   exact Goes.jp 29 [(0, yieldV lx0), (2, (pt utk 0)), (3, (pt utm 0)), (5, .i x5), (16, .bool (!true))] (u12m _ _ h _ _ ((hx.trans z2).trans z3) uui y11.length uuk uul p3 uum rfl)
  ·
   have u7f : y8 = false := by simpa using h10
   rw [u7f]
   refine Goes.rn 6 [(12, undef), (13, undef), (14, undef), (15, undef), (16, .bool false)] Jtk ?_
   exact Goes.jp 29 [(0, yieldV lx0), (2, (pt utk 0)), (3, (pt utm 0)), (5, .i x5), (16, .bool false)] (u12m _ _ h _ _ (hx.trans z2) ugs uu7.length ugu ugv p2 (uh2.ext z2) rfl)
 ·
  intro u12n u12o ⟨x5, x16, uu7, utn, uto⟩ r h S1 w1 hx ugs ugt ugu ugv p1 uh2 uh3 junk
  try dsimp only at h
  subst uh3
  refine ite_some h (fun h15 h => ?_) (fun h15 h => ?_)
  ·
   rw [h15]
   refine Goes.rn 1 [] Jtp ?_
   obtain rfl := Option.some.inj h
   exact Goes.rt Try.f62 (.tuple #[]) ⟨S1, ugs, uu7.length, ugu, ugv, rfl, hx, p1, uh2, rfl⟩
  ·
   have u73 : x16 = false := by simpa using h15
   rw [u73]
   refine Goes.rn 3 [] Jtq ?_
   have z4 : Ext S1 w1 S1 (w1).drew := Ext.draw
   have p4 := p1.draw
   refine Goes.drawn (s := [9]) (F := Fc S1 (w1).drew [(⟨utm, 0, none⟩, .string uto), (⟨utk, 0, none⟩, .pointer none)]) 3 12 (by kernel_rfl) (by kernel_rfl) (by kernel_rfl) (by kernel_rfl) ?_
   generalize (w1).drew = w4 at z4 p4 ⊢
   refine AnyG.pu 0 (.move (.tmp 5)) 17 3 (.i x5) (Fc.here (p4.cs [(5, 0, 1), (4, 0, 1)])) ?_
   refine AnyG.ld1 (i := 1) 9 (.tmp 3) 18 9 ⟨utm, 0, none⟩ (.string uto) (by kernel_rfl) (by kernel_rfl) (Fc.here (p4.cs [(5, 0, 1), (4, 0, 1)])) (by kernel_rfl) (by kernel_rfl) (fun _ h => h.2.at_ 0 rfl) ?_
   refine AnyG.pu 2 (.call { callee := .builtin .len, args := #[(.tmp 18)], argTypes := #[9] }) 19 3 (.i (uto.size : Int)) (Fc.here (p4.cs [(5, 0, 1), (4, 0, 1)])) ?_
   refine AnyG.pu 3 (.binOp .eql 3 (.tmp 17) (.tmp 19) 3) 20 4 (.bool (decide (x5 = (uto.size : Int)))) (Fc.here (p4.cs [(5, 0, 1), (4, 0, 1)])) ?_
   refine AnyG.pu 4 (.move (.tmp 20)) 21 4 (.bool (decide (x5 = (uto.size : Int)))) (Fc.here (p4.cs [(5, 0, 1), (4, 0, 1)])) ?_
   refine ite_some h (fun h16 h => ?_) (fun h16 h => ?_)
   ·
    rw [decide_eq_true h16]
    refine AnyG.s1 5 22 (Fc.here (p4.cs [(5, 0, 1), (4, 0, 1)])) ?_
    refine AnyG.s1 6 23 (Fc.here (p4.cs [(5, 0, 1), (4, 0, 1)])) ?_
    refine AnyG.s1 7 24 (Fc.here (p4.cs [(5, 0, 1), (4, 0, 1)])) ?_
    refine AnyG.s1 8 25 (Fc.here (p4.cs [(5, 0, 1), (4, 0, 1)])) ?_
    refine AnyG.skipL1 (i := 9) 26 (by kernel_rfl) (by kernel_rfl) (.inl (by decide)) ?_
    refine AnyG.s1 10 27 (Fc.here (p4.cs [(5, 0, 1), (4, 0, 1)])) ?_
    refine AnyG.pu 11 (.pick (.tmp 21) (.const (.bool true)) (.tmp 27)) 28 4 (.bool true) (Fc.here (p4.cs [(5, 0, 1), (4, 0, 1)])) ?_
    refine AnyG.done (by kernel_rfl) ?_ _
    exact Goes.jp 29 [(0, yieldV lx0), (2, (pt utk 0)), (3, (pt utm 0)), (5, .i x5), (28, .bool true)] (u12o _ _ h _ _ (hx.trans z4) ugs uu7.length ugu ugv p4 (uh2.ext z4) rfl)
   ·
    rw [decide_eq_false h16]
    refine AnyG.ld1 (i := 5) 63 (.tmp 2) 22 63 ⟨utk, 0, none⟩ (.pointer none) (by kernel_rfl) (by kernel_rfl) (Fc.here (p4.cs [(5, 0, 1), (4, 0, 1)])) (by kernel_rfl) (by kernel_rfl) (fun _ h => h.2.at_ 1 rfl) ?_
    refine AnyG.ld1 (i := 6) 9 (.tmp 3) 23 9 ⟨utm, 0, none⟩ (.string uto) (by kernel_rfl) (by kernel_rfl) (Fc.here (p4.cs [(5, 0, 1), (4, 0, 1)])) (by kernel_rfl) (by kernel_rfl) (fun _ h => h.2.at_ 0 rfl) ?_
    refine AnyG.pu 7 (.move (.tmp 5)) 24 3 (.i x5) (Fc.here (p4.cs [(5, 0, 1), (4, 0, 1)])) ?_
    refine guard_some' h fun g18 h => ?_
    refine guard_some' h fun g19 h => ?_
    refine AnyG.ixS (i := 8) 9 (.tmp 23) (.tmp 24) 25 5 .i64 uto x5 (by kernel_rfl) (by kernel_rfl) (Fc.here (p4.cs [(5, 0, 1), (4, 0, 1)])) (by kernel_rfl) (by kernel_rfl) (by kernel_rfl) g18 g19 ?_
    refine bind_some' h fun y20 e21 h => ?_
    refine Op_.call (kc 27 [22, 25] #[63, 5]) 26 4 27 #[.pointer none, .int .u8 (bt uto x5)] (AnyG.cs (i := 9) (by kernel_rfl) (by kernel_rfl)) (by kernel_rfl) (W.z3t (bt uto x5) y20 e21  p4 ) ?_
    rintro _ w5 ⟨S5, rfl, z5, p5⟩
    refine AnyG.last [] (Fc S5 w5 []) (by decide) ?_
    refine AnyG.pu 10 (.unOp .not 4 (.tmp 26)) 27 4 (.bool (!y20)) (Fc.here trivial) ?_
    refine AnyG.pu 11 (.pick (.tmp 21) (.const (.bool true)) (.tmp 27)) 28 4 (.bool (!y20)) (Fc.here trivial) ?_
    refine AnyG.done (by kernel_rfl) ?_ _
    exact Goes.jp 29 [(0, yieldV lx0), (2, (pt utk 0)), (3, (pt utm 0)), (5, .i x5), (28, .bool (!y20))] (u12o _ _ h _ _ ((hx.trans z4).trans z5) ugs uu7.length ugu ugv p5 (uh2.ext (z4.trans z5)) rfl)
 ·
  intro u12p u12q ⟨x5, x28, uu7, utn, uto⟩ r h S1 w1 hx ugs ugt ugu ugv p1 uh2 uh3 junk
  try dsimp only at h
  subst uh3
  refine ite_some h (fun h22 h => ?_) (fun h22 h => ?_)
  ·
   rw [h22]
   refine Goes.rn 1 [] Jtr ?_
   obtain rfl := Option.some.inj h
   exact Goes.rt Try.f62 (.tuple #[]) ⟨S1, ugs, uu7.length, ugu, ugv, rfl, hx, p1, uh2, rfl⟩
  ·
   have u12r : x28 = false := by simpa using h22
   rw [u12r]
   refine Goes.rn 9 [(7, .i x5), (8, .i (wr .i64 (x5 + 1))), (5, .i (wr .i64 (x5 + 1)))] Jtg ?_
   exact Goes.jp 29 [(0, yieldV lx0), (2, (pt utk 0)), (3, (pt utm 0)), (5, .i (wr .i64 (x5 + 1)))] (u12q _ _ h _ _ hx ugs uu7.length ugu ugv p1 uh2 rfl)

theorem W.z4b {nz wz S0 w0 Lr} (lx0 : Nat) (rx0 : Nat) (u4q : Nat → Value) (u4r : Nat) (utj : Nat) (utk : Nat) (utm : Nat) : ∀ a r, M.sim_Runner_ends_1_4_l0 a = some r → (L.z4b nz wz S0 w0 Lr lx0 rx0 u4q u4r utj utk utm) a r := (W.z4e lx0 rx0 u4q u4r utj utk utm).1

theorem W.z4c {nz wz S0 w0 Lr} (lx0 : Nat) (rx0 : Nat) (u4q : Nat → Value) (u4r : Nat) (utj : Nat) (utk : Nat) (utm : Nat) : ∀ a r, M.sim_Runner_ends_1_4_l1 a = some r → (L.z4c nz wz S0 w0 Lr lx0 rx0 u4q u4r utj utk utm) a r := (W.z4e lx0 rx0 u4q u4r utj utk utm).2.1

theorem W.z4d {nz wz S0 w0 Lr} (lx0 : Nat) (rx0 : Nat) (u4q : Nat → Value) (u4r : Nat) (utj : Nat) (utk : Nat) (utm : Nat) : ∀ a r, M.sim_Runner_ends_1_4_l2 a = some r → (L.z4d nz wz S0 w0 Lr lx0 rx0 u4q u4r utj utk utm) a r := (W.z4e lx0 rx0 u4q u4r utj utk utm).2.2

theorem W.z4a (uvf : List Int) (utn : Int) (uto : ByteArray) (r : List Int) (h : M.sim_Runner_ends_1_4 uvf utn uto = some r) {nz wz S0 w0 Lr} (lx0 rx0 u4q u4r uvh uvi uvj uvk utj utk utm) (p0 : Hp nz wz S0 w0 ((some lx0, .obj (lpst 61 (lfr 13 [(2, (pt u4r 0)), (6, .func (.func 62) #[] #[(pt utj 0), (pt utk 0), (pt utm 0)])] u4q) #[7] (rfAssign (Qn9)) (rfBody (Qn9)) rx0 .ready none)) :: (some u4r, .row 58 [.slice (Gp uvh) uvi uvj] 1 0) :: (uvh, .row 3 uvk (uvj * (kInt .i64).size) 0) :: (some utj, .row 3 [.i utn] 1 0) :: (some utk, .row 63 [.pointer none] 1 0) :: (some utm, .row 9 [.string uto] 1 0) :: Lr)) (uw7 : Els (kInt .i64) S0 w0 uvk uvf) (uw8 : uvf.length = uvi) :
  Calls Try.prog 62 #[yieldV lx0, (pt utj 0), (pt utk 0), (pt utm 0)] w0 (Rets (Post.z4a nz wz S0 w0 Lr lx0 rx0 u4q u4r utj utk utm utn uto r)) := by
 subst uw8
 refine calls_of_goes (fn := Try.f62) (c := B62) (by kernel_rfl) (by kernel_rfl) 25 (by kernel_rfl) ?_
 refine Goes.jp 29 [(0, yieldV lx0), (1, (pt utj 0)), (2, (pt utk 0)), (3, (pt utm 0))] (fun junk => ?_)
 delta M.sim_Runner_ends_1_4 at h
 refine Goes.rn 2 [] Jtt ?_
 refine Goes.ld 3 (.tmp 1) 6 3 ⟨utj, 0, none⟩ (.i utn) (p0.c 3 0) ?_
 refine Goes.rn 4 [(5, .i utn)] Jtg ?_
 exact Goes.jp 29 [(0, yieldV lx0), (2, (pt utk 0)), (3, (pt utm 0)), (5, .i utn)] (W.z4b lx0 rx0 u4q u4r utj utk utm _ _ h _ _ (Ext.refl S0 w0) uvh uvf.length uvj uvk p0 uw7 rfl)

def Post.z4f (upe : Nat) (uwj : Nat) (uwl : Nat) (uwm : Int) (uwn : ByteArray) (r : List Int) (v : Value) (w' : World) : Prop :=
 ∃ S' Gq nq cq csq, v = .slice (Gp Gq) nq cq ∧ Ext S0 w0 S' w' ∧ Hp nz wz S' w' ((Gq, .row 3 csq (cq * (kInt .i64).size) 0) :: (some upe, .row 3 [.i uwm] 1 0) :: (some uwj, .row 63 [.pointer none] 1 0) :: (some uwl, .row 9 [.string uwn] 1 0) :: Lr) ∧ Els (kInt .i64) S' w' csq r ∧ r.length = nq

theorem W.z4f (uwm : Int) (uwn : ByteArray) (r : List Int) (h : M.slices_AppendSeq_int_int_4 uwm uwn = some r) {nz wz S0 w0 Lr} (upe uwj uwl) (p0 : Hp nz wz S0 w0 ((some upe, .row 3 [.i uwm] 1 0) :: (some uwj, .row 63 [.pointer none] 1 0) :: (some uwl, .row 9 [.string uwn] 1 0) :: Lr)) :
  Calls Try.prog 61 #[.slice none 0 0, .func (.func 62) #[] #[(pt upe 0), (pt uwj 0), (pt uwl 0)]] w0 (Rets (Post.z4f nz wz S0 w0 Lr upe uwj uwl uwm uwn r)) := by
 refine calls_of_goes (fn := Try.f61) (c := B61) (by kernel_rfl) (by kernel_rfl) 11 (by kernel_rfl) ?_
 refine Goes.jp 13 [(0, .slice none 0 0), (1, .func (.func 62) #[] #[(pt upe 0), (pt uwj 0), (pt uwl 0)])] (fun junk => ?_)
 delta M.slices_AppendSeq_int_int_4 at h
 refine Goes.rn 2 [] Jtv ?_
 refine Op_.box 58 (.tmp 0) 2 0 (.slice none 0 0) [.slice none 0 0] p0 Goes.v (by kernel_rfl) (by kernel_rfl) ?_
 intro b4 w2 z2 p2
 refine Goes.rn 8 [(4, .slice none 0 0), (6, .func (.func 62) #[] #[(pt upe 0), (pt uwj 0), (pt uwl 0)])] Jty ?_
 refine Goes.jp 13 [(2, (pt b4 0)), (6, .func (.func 62) #[] #[(pt upe 0), (pt uwj 0), (pt uwl 0)])] (fun u12s => ?_)
 refine Goes.rangeF (f := 61) (.tmp 6) #[7] 62 #[] #[(pt upe 0), (pt uwj 0), (pt uwl 0)] (by kernel_rfl) (by kernel_rfl) (fun _ => by kernel_rfl) p2 ?_
 intro r7 l8 w3 z3 p3
 have p3 : Hp nz wz S0 w3 ((none, .row 3 [] (0 * (kInt .i64).size) 0) :: (some l8, .obj (lpst 61 (lfr 13 [(2, (pt b4 0)), (6, .func (.func 62) #[] #[(pt upe 0), (pt uwj 0), (pt uwl 0)])] u12s) #[7] (rfAssign (Qn9)) (rfBody (Qn9)) r7 .ready none)) :: (some r7, .obj (.deferred (some []))) :: (some b4, .row 58 [.slice none 0 0] 1 0) :: (some upe, .row 3 [.i uwm] 1 0) :: (some uwj, .row 63 [.pointer none] 1 0) :: (some uwl, .row 9 [.string uwn] 1 0) :: Lr) := p3.nilRow' 3
 have p3 := (((((p3.fr 6).fr 6).fr 6).fr 3).fr 6).fr 5
 refine bind_some' h fun y12 e13 h => ?_
 refine ⟨_, W.z4a ([] : List Int) uwm uwn y12 e13 l8 r7 u12s b4 none 0 0 [] upe uwj uwl p3 (Els.nil (K := (kInt .i64))) rfl, ?_⟩
 rintro _ w4 ⟨S4, uhf, uhg, uhh, uhi, rfl, z4, p4, uhn, rfl⟩
 refine Goes.endF 0 p4 rfl rfl ?_
 intro w5 z5 p5
 replace p5 : Hp nz wz S4 w5 ((some b4, .row 58 [.slice (Gp uhf) y12.length uhh] 1 0) :: (uhf, .row 3 uhi (uhh * (kInt .i64).size) 0) :: (some upe, .row 3 [.i uwm] 1 0) :: (some uwj, .row 63 [.pointer none] 1 0) :: (some uwl, .row 9 [.string uwn] 1 0) :: (some r7, .obj (.deferred (some []))) :: Lr) := (p5.front 0 _ rfl).drop
 show Goes _ _ Jtx _ _ _
 refine Goes.rn 3 [] Ju0 ?_
 refine Goes.ld 58 (.tmp 2) 12 58 ⟨b4, 0, none⟩ (.slice (Gp uhf) y12.length uhh) (p5.c 0 0) ?_
 refine Goes.rn 2 [(4, .slice (Gp uhf) y12.length uhh)] Jtz ?_
 obtain rfl := Option.some.inj h
 have p5 := p5.dp 0
 have p5 := ((((p5.fr 3).fr 3).fr 3).fr 3).fr 4
 refine Goes.retL ?_
 refine lvs_mark 0 rfl rfl p5 rfl ?_
 intro w6 z6 p6
 replace p6 : Hp nz wz S4 w6 ((uhf, .row 3 uhi (uhh * (kInt .i64).size) 0) :: (some upe, .row 3 [.i uwm] 1 0) :: (some uwj, .row 63 [.pointer none] 1 0) :: (some uwl, .row 9 [.string uwn] 1 0) :: Lr) := p6.drop
 exact lvs_done (fn := Try.f61) rfl rfl rfl rfl (by kernel_rfl) (v := .slice (Gp uhf) y12.length uhh) (by kernel_rfl) ⟨S4, uhf, y12.length, uhh, uhi, rfl, ((((((Ext.refl S0 w0).trans z2).trans z3).trans z4).trans z5).trans z6), p6, (uhn.ext (z5.trans z6)), rfl⟩

def Post.z4g (uyv : Nat) (uyw : Nat) (uyy : Nat) (uyz : Int) (uz0 : ByteArray) (r : List Int) (v : Value) (w' : World) : Prop :=
 ∃ S' Gq nq cq csq, v = .slice (Gp Gq) nq cq ∧ Ext S0 w0 S' w' ∧ Hp nz wz S' w' ((Gq, .row 3 csq (cq * (kInt .i64).size) 0) :: (some uyv, .row 3 [.i uyz] 1 0) :: (some uyw, .row 63 [.pointer none] 1 0) :: (some uyy, .row 9 [.string uz0] 1 0) :: Lr) ∧ Els (kInt .i64) S' w' csq r ∧ r.length = nq

theorem W.z4g (uyz : Int) (uz0 : ByteArray) (r : List Int) (h : M.slices_Collect_int_2 uyz uz0 = some r) {nz wz S0 w0 Lr} (uyv uyw uyy) (p0 : Hp nz wz S0 w0 ((some uyv, .row 3 [.i uyz] 1 0) :: (some uyw, .row 63 [.pointer none] 1 0) :: (some uyy, .row 9 [.string uz0] 1 0) :: Lr)) :
  Calls Try.prog 41 #[.func (.func 62) #[] #[(pt uyv 0), (pt uyw 0), (pt uyy 0)]] w0 (Rets (Post.z4g nz wz S0 w0 Lr uyv uyw uyy uyz uz0 r)) := by
 refine calls_of_goes (fn := Try.f41) (c := B41) (by kernel_rfl) (by kernel_rfl) 4 (by kernel_rfl) ?_
 refine Goes.jp 5 [(0, .func (.func 62) #[] #[(pt uyv 0), (pt uyw 0), (pt uyy 0)])] (fun junk => ?_)
 delta M.slices_Collect_int_2 at h
 refine Goes.rn 7 [(2, .slice none 0 0), (3, .func (.func 62) #[] #[(pt uyv 0), (pt uyw 0), (pt uyy 0)])] Ju2 ?_
 refine bind_some' h fun y4 e5 h => ?_
 refine Goes.cal (.call { callee := .value (.func 61), args := #[(.const (.slice none 0 0)), (.tmp 3)], argTypes := #[58, 92] }) 4 58 61 _ (W.z4f uyz uz0 y4 e5 uyv uyw uyy p0 ) ?_
 rintro _ w2 ⟨S2, uzy, uzz, u100, u101, rfl, z2, p2, u10o, rfl⟩
 refine Goes.rn 2 [(2, .slice (Gp uzy) y4.length u100)] Ju1 ?_
 obtain rfl := Option.some.inj h
 exact Goes.rt Try.f41 (.slice (Gp uzy) y4.length u100) ⟨S2, uzy, y4.length, u100, u101, rfl, ((Ext.refl S0 w0).trans z2), p2, u10o, rfl⟩

def L.z4h : ByteArray × Int × Int × Bool → ((List Int) × Int) → Prop := fun ⟨x1, x2, x9, x20⟩ r => ∀ S1 w1, Ext S0 w0 S1 w1 → ∀ (_ : Hp nz wz S1 w1 (Lr)) (junk : Nat → Value),
 Goes Try.prog (base 23) Ju5 ⟨lfr 35 [(1, .string x1), (2, .i x2), (8, .pointer none), (9, .i x9), (20, .bool x20)] junk, []⟩ w1 (Done Try.prog 23 (Rets (Post.z46 nz wz S0 w0 Lr r)))

theorem W.z4h {nz wz S0 w0 Lr} : ∀ a r, M.sim_Ends_l1 a = some r → L.z4h nz wz S0 w0 Lr a r := by
 intro ⟨x1, x2, x9, x20⟩ r h S1 w1 hx p1 junk
 rw [M.sim_Ends_l1] at h
 try dsimp only at h
 refine ite_some h (fun h42 h => ?_) (fun h42 h => ?_)
 ·
  rw [h42]
  refine Goes.rn 6 [(6, .slice none 0 0), (7, .i 2)] Ju6 ?_
  have p1 : Hp nz wz S1 w1 ((none, .row 3 [] (0 * (kInt .i64).size) 0) :: Lr) := p1.nilRow' 3
  obtain rfl := Option.some.inj h
  exact Goes.rt Try.f23 (.tuple #[.slice (Gp none) 0 0, .i 2]) ⟨S1, none, 0, 0, [], rfl, hx, p1, (Els.nil (K := (kInt .i64))), rfl⟩
 ·
  have umw : x20 = false := by simpa using h42
  rw [umw]
  refine Goes.rn 8 [(29, .pointer none), (30, .string x1), (31, .i x2)] Ju8 ?_
  refine bind_some' h fun y44 e45 h => ?_
  refine Goes.cal (kc 42 [29, 30, 31] #[63, 9, 3]) 32 92 42 _ (W.z48 x1 x2 y44 e45  p1 ) ?_
  rintro _ w6 ⟨S6, u12t, u12u, u12v, rfl, z6, p6⟩
  refine bind_some' h fun y49 e50 h => ?_
  refine Goes.cal (kc 41 [32] #[92]) 33 58 41 _ (W.z4g y44.1 y44.2 y49 e50 u12t u12u u12v p6 ) ?_
  rintro _ w7 ⟨S7, u12w, u12x, u12y, u12z, rfl, z7, p7, u13, rfl⟩
  have p7 := ((p7.dp 1).dp 1).dp 1
  refine Goes.rn 4 [(34, .i x9), (6, .slice (Gp u12w) y49.length u12y), (7, .i x9)] Ju7 ?_
  obtain rfl := Option.some.inj h
  exact Goes.rt Try.f23 (.tuple #[.slice (Gp u12w) y49.length u12y, .i x9]) ⟨S7, u12w, y49.length, u12y, u12z, rfl, ((hx.trans z6).trans z7), p7, u13, rfl⟩

def Qny := sub [1, 1] B23
def Ju9 : List Item := [.code Qny]
def Qnz := sub [1, 0] B23
def Jua : List Item := .inRegion (opsOf Qnz) [2, 3, 4, 5, 6, 7] :: Ju9
def Qo0 := sub [1, 1, 0, 0, 1] B23
def Jub : List Item := .code Qo0 :: Ju4
def Qo1 := sub [1, 1, 0, 0, 1, 1, 0] B23
def Juc : List Item := .inRegion (opsOf Qo1) [3, 4, 5, 6, 7, 8] :: Ju5
def Qo2 := sub [1, 1, 0, 0, 1, 0, 1] B23
def Jud : List Item := .code Qo2 :: Ju4

theorem W.z46 (x0 : List T88) (x1 : ByteArray) (x2 : Int) (r : (List Int) × Int) (h : M.sim_Ends x0 x1 x2 = some r) {nz wz S0 w0 Lr} (Ax0 nx0 cx0) (p0 : Hp nz wz S0 w0 (Lr)) (fx0 : Rd kT88 S0 w0 Ax0 cx0 x0) (lx0 : x0.length = nx0) :
  Calls Try.prog 23 #[.slice Ax0 nx0 cx0, .string x1, .i x2] w0 (Rets (Post.z46 nz wz S0 w0 Lr r)) := by
 subst lx0
 refine calls_of_goes (fn := Try.f23) (c := B23) (by kernel_rfl) (by kernel_rfl) 32 (by kernel_rfl) ?_
 refine Goes.jp 35 [(0, .slice Ax0 x0.length cx0), (1, .string x1), (2, .i x2)] (fun junk => ?_)
 delta M.sim_Ends at h
 refine Goes.rn 9 [(6, .slice none 0 0), (7, .i 0), (11, .slice Ax0 x0.length cx0), (12, .string x1)] Jua ?_
 refine bind_some' h fun y1 e2 h => ?_
 rcases y1 with uj2 | uj3
 ·
  try dsimp only at h
  refine Goes.cal (kc 26 [11, 12] #[35, 9]) 13 64 26 _ (W.z39 x0 x1 (Sum.inl uj2) e2 Ax0 x0.length cx0 p0 fx0 rfl) ?_
  rintro _ w2 ⟨S2, uj4, uj5, uj6, uj7, uj8, uj9, uja, ujb, ujc, ujd, uje, ujf, ujg, ujh, uji, ujj, ujk, ujl, ujm, ujn, ujo, ujp, ujq, rfl, z2, p2, ujr, rfl, ujs, rfl, ujt, rfl, uju, rfl, ujv, rfl⟩
  refine Goes.rn 14 [(10, .tuple #[(pt uj4 0), .i uj2.2]), (14, (pt uj4 0)), (15, .i uj2.2), (8, (pt uj4 0)), (9, .i uj2.2), (17, .i uj2.2), (18, .bool (!(decide (uj2.2 = 0)))), (16, .bool (!(decide (uj2.2 = 0))))] Jub ?_
  refine ite_some h (fun h11 h => ?_) (fun h11 h => ?_)
  ·
   rw [decide_eq_true h11]
   refine Goes.rn 6 [(21, .i x2), (22, .bool (decide (x2 < 0))), (23, .bool (decide (x2 < 0)))] Juc ?_
   refine ite_some h (fun h12 h => ?_) (fun h12 h => ?_)
   ·
    rw [decide_eq_true h12]
    refine Goes.rn 7 [(24, undef), (25, undef), (26, undef), (27, undef), (28, .bool true), (20, .bool true)] Ju5 ?_
    exact Goes.jp 35 [(1, .string x1), (2, .i x2), (8, (pt uj4 0)), (9, .i uj2.2), (20, .bool true)] (W.z47 _ _ h _ _ ((Ext.refl S0 w0).trans z2) uj4 uj5 uj2.1.l.length uj7 uj8 uj9 uja uj2.1.now.place.length ujc ujd uje uj2.1.now.list.length ujg ujh uji ujj uj2.1.next.place.length ujl ujm ujn uj2.1.next.list.length ujp ujq p2 ujr rfl ujs rfl ujt rfl uju rfl ujv rfl)
   ·
    rw [decide_eq_false h12]
    refine Goes.rn 7 [(24, .i x2), (25, .string x1), (26, .i (x1.size : Int)), (27, .bool (decide (x2 > (x1.size : Int)))), (28, .bool (decide (x2 > (x1.size : Int)))), (20, .bool (decide (x2 > (x1.size : Int))))] Ju5 ?_
    exact Goes.jp 35 [(1, .string x1), (2, .i x2), (8, (pt uj4 0)), (9, .i uj2.2), (20, .bool (decide (x2 > (x1.size : Int))))] (W.z47 _ _ h _ _ ((Ext.refl S0 w0).trans z2) uj4 uj5 uj2.1.l.length uj7 uj8 uj9 uja uj2.1.now.place.length ujc ujd uje uj2.1.now.list.length ujg ujh uji ujj uj2.1.next.place.length ujl ujm ujn uj2.1.next.list.length ujp ujq p2 ujr rfl ujs rfl ujt rfl uju rfl ujv rfl)
  ·
   rw [decide_eq_false h11]
   refine Goes.rn 7 [(19, .i uj2.2), (6, .slice none 0 0), (7, .i uj2.2)] Jud ?_
   have p2 : Hp nz wz S2 w2 ((none, .row 3 [] (0 * (kInt .i64).size) 0) :: (some uj4, .row 97 [.slice (Gp uj5) uj2.1.l.length uj7, (pt uj9 0), (pt uji 0)] 3 0) :: (uj5, .row 89 uj8 (uj7 * kT88.size) 0) :: (some uj9, .row 106 [.slice (Gp uja) uj2.1.now.place.length ujc, .slice (Gp uje) uj2.1.now.list.length ujg] 2 0) :: (uja, .row 3 ujd (ujc * (kInt .i64).size) 0) :: (uje, .row 98 ujh (ujg * (kInt .i64).size) 0) :: (some uji, .row 106 [.slice (Gp ujj) uj2.1.next.place.length ujl, .slice (Gp ujn) uj2.1.next.list.length ujp] 2 0) :: (ujj, .row 3 ujm (ujl * (kInt .i64).size) 0) :: (ujn, .row 98 ujq (ujp * (kInt .i64).size) 0) :: Lr) := p2.nilRow' 3
   obtain rfl := Option.some.inj h
   have p2 := (((((((p2.dp 1).dp 1).dp 1).dp 1).dp 1).dp 1).dp 1).dp 1
   exact Goes.rt Try.f23 (.tuple #[.slice (Gp none) 0 0, .i uj2.2]) ⟨S2, none, 0, 0, [], rfl, ((Ext.refl S0 w0).trans z2), p2, (Els.nil (K := (kInt .i64))), rfl⟩
 ·
  try dsimp only at h
  refine Goes.cal (kc 26 [11, 12] #[35, 9]) 13 64 26 _ (W.z39 x0 x1 (Sum.inr uj3) e2 Ax0 x0.length cx0 p0 fx0 rfl) ?_
  rintro _ w3 ⟨S3, rfl, z3, p3⟩
  refine Goes.rn 14 [(10, .tuple #[.pointer none, .i uj3]), (14, .pointer none), (15, .i uj3), (8, .pointer none), (9, .i uj3), (17, .i uj3), (18, .bool (!(decide (uj3 = 0)))), (16, .bool (!(decide (uj3 = 0))))] Jub ?_
  refine ite_some h (fun h22 h => ?_) (fun h22 h => ?_)
  ·
   rw [decide_eq_true h22]
   refine Goes.rn 6 [(21, .i x2), (22, .bool (decide (x2 < 0))), (23, .bool (decide (x2 < 0)))] Juc ?_
   refine ite_some h (fun h23 h => ?_) (fun h23 h => ?_)
   ·
    rw [decide_eq_true h23]
    refine Goes.rn 7 [(24, undef), (25, undef), (26, undef), (27, undef), (28, .bool true), (20, .bool true)] Ju5 ?_
    exact Goes.jp 35 [(1, .string x1), (2, .i x2), (8, .pointer none), (9, .i uj3), (20, .bool true)] (W.z4h _ _ h _ _ ((Ext.refl S0 w0).trans z3) p3)
   ·
    rw [decide_eq_false h23]
    refine Goes.rn 7 [(24, .i x2), (25, .string x1), (26, .i (x1.size : Int)), (27, .bool (decide (x2 > (x1.size : Int)))), (28, .bool (decide (x2 > (x1.size : Int)))), (20, .bool (decide (x2 > (x1.size : Int))))] Ju5 ?_
    exact Goes.jp 35 [(1, .string x1), (2, .i x2), (8, .pointer none), (9, .i uj3), (20, .bool (decide (x2 > (x1.size : Int))))] (W.z4h _ _ h _ _ ((Ext.refl S0 w0).trans z3) p3)
  ·
   rw [decide_eq_false h22]
   refine Goes.rn 7 [(19, .i uj3), (6, .slice none 0 0), (7, .i uj3)] Jud ?_
   have p3 : Hp nz wz S3 w3 ((none, .row 3 [] (0 * (kInt .i64).size) 0) :: Lr) := p3.nilRow' 3
   obtain rfl := Option.some.inj h
   exact Goes.rt Try.f23 (.tuple #[.slice (Gp none) 0 0, .i uj3]) ⟨S3, none, 0, 0, [], rfl, ((Ext.refl S0 w0).trans z3), p3, (Els.nil (K := (kInt .i64))), rfl⟩

def Qo3 := sub [1, 1, 1] B24
def Jue : List Item := [.code Qo3]
def Juf : List Item := .inBlock 0 :: Jue
def Qo4 := sub [1, 1, 0, 1, 0, 0] B24
def Jug : List Item := .inLoop Qo4 :: Juf
def Juh : List Item := .code Qo4 :: Jug
def Qo5 := sub [1, 1, 0, 1, 0, 0, 1] B24
def Jui : List Item := .code Qo5 :: Jug
def Qo6 := sub [1, 1, 0, 1, 0, 0, 0, 1] B24
def Juj : List Item := .code Qo6 :: Jui
def Qo7 := sub [1, 1, 0, 1, 0, 0, 1, 1] B24
def Juk : List Item := .code Qo7 :: Jug
def Jul : List Item := .inBlock 1 :: Juk
def Qo8 := sub [1, 1, 0, 1, 0, 0, 1, 0, 0, 1] B24
def Jum : List Item := .code Qo8 :: Jul
def Qo9 := sub [1, 1, 0, 1, 0, 0, 1, 0, 0, 0] B24
def Jun : List Item := .code Qo9 :: Jum
def Qoa := sub [1, 1, 0, 1, 0, 0, 1, 0, 0, 1, 0, 1] B24
def Juo : List Item := .code Qoa :: Jul
def Qob := sub [1, 1, 1, 1] B24
def Jup : List Item := [.code Qob]

def Post.z4i (r : Bool) (v : Value) (w' : World) : Prop :=
 ∃ S', v = .bool r ∧ Ext S0 w0 S' w' ∧ Hp nz wz S' w' (Lr)

def L.z4j : (List Int) × (List Int) × Int → Bool → Prop := fun ⟨x0, x1, x5⟩ r => ∀ S1 w1, Ext S0 w0 S1 w1 → ∀ Ax0 nx0 cx0 Ax1 nx1 cx1 (_ : Hp nz wz S1 w1 (Lr)) (_ : Rd (kInt .i64) S1 w1 Ax0 cx0 x0) (_ : x0.length = nx0) (_ : Rd (kInt .i64) S1 w1 Ax1 cx1 x1) (_ : x1.length = nx1) (junk : Nat → Value),
 Goes Try.prog (base 24) Juh ⟨lfr 26 [(0, .slice Ax0 nx0 cx0), (1, .slice Ax1 nx1 cx1), (5, .i x5)] junk, []⟩ w1 (Done Try.prog 24 (Rets (Post.z4i nz wz S0 w0 Lr r)))

theorem W.z4j {nz wz S0 w0 Lr} : ∀ a r, M.tidepolebase_SameInts_l0 a = some r → (L.z4j nz wz S0 w0 Lr) a r := by
 refine M.tidepolebase_SameInts_l0.partial_correctness (motive := (L.z4j nz wz S0 w0 Lr)) ?_
 intro u130 u131 ⟨x0, x1, x5⟩ r h S1 w1 hx Ax0 nx0 cx0 Ax1 nx1 cx1 p1 fx0 lx0 fx1 lx1 junk
 try dsimp only at h
 subst lx0
 subst lx1
 refine Goes.rn 8 [(11, .i x5), (12, .slice Ax0 x0.length cx0), (13, .i (x0.length : Int)), (14, .bool (decide (x5 < (x0.length : Int))))] Juj ?_
 refine ite_some h (fun h2 h => ?_) (fun h2 h => ?_)
 ·
  rw [decide_eq_true h2]
  refine Goes.rn 5 [] Jun ?_
  have z2 : Ext S1 w1 S1 (w1).drew := Ext.draw
  have p2 := p1.draw
  refine Goes.drawn (s := []) (F := Fc S1 (w1).drew []) 6 9 (by kernel_rfl) (by kernel_rfl) (by kernel_rfl) (by kernel_rfl) ?_
  generalize (w1).drew = w2 at z2 p2 ⊢
  refine AnyG.pu 0 (.move (.tmp 0)) 17 58 (.slice Ax0 x0.length cx0) (Fc.here trivial) ?_
  refine AnyG.pu 1 (.move (.tmp 5)) 18 3 (.i x5) (Fc.here trivial) ?_
  refine guard_some' h fun g3 h => ?_
  refine AnyG.ixR_n (i := 2) 58 (.tmp 17) (.tmp 18) 19 0 3 .i64 x5 (gi x0 x5) rfl rfl (fx0.ext z2) (by kernel_rfl) (by kernel_rfl) (Fc.here trivial) (by kernel_rfl) (by kernel_rfl) (by kernel_rfl) (by kernel_rfl) g3 h2 ?_
  intro a4 _ f5 q6
  obtain rfl := q6
  refine AnyG.ld1 (i := 3) 3 (.tmp 19) 20 3 a4 (.i (gi x0 x5)) (by kernel_rfl) (by kernel_rfl) (Fc.here trivial) (by kernel_rfl) (by kernel_rfl) (fun _ h => f5.fc h 0 _ rfl) ?_
  refine AnyG.pu 4 (.move (.tmp 1)) 21 58 (.slice Ax1 x1.length cx1) (Fc.here trivial) ?_
  refine AnyG.pu 5 (.move (.tmp 5)) 22 3 (.i x5) (Fc.here trivial) ?_
  refine guard_some' h fun g7 h => ?_
  refine AnyG.ixR_n (i := 6) 58 (.tmp 21) (.tmp 22) 23 0 3 .i64 x5 (gi x1 x5) rfl rfl (fx1.ext z2) (by kernel_rfl) (by kernel_rfl) (Fc.here trivial) (by kernel_rfl) (by kernel_rfl) (by kernel_rfl) (by kernel_rfl) g3 g7 ?_
  intro a8 _ f9 q10
  obtain rfl := q10
  refine AnyG.ld1 (i := 7) 3 (.tmp 23) 24 3 a8 (.i (gi x1 x5)) (by kernel_rfl) (by kernel_rfl) (Fc.here trivial) (by kernel_rfl) (by kernel_rfl) (fun _ h => f9.fc h 0 _ rfl) ?_
  refine AnyG.pu 8 (.binOp .neq 3 (.tmp 20) (.tmp 24) 3) 25 4 (.bool (!(decide (gi x0 x5 = gi x1 x5)))) (Fc.here trivial) ?_
  refine AnyG.done (by kernel_rfl) ?_ _
  refine ite_some h (fun h11 h => ?_) (fun h11 h => ?_)
  ·
   rw [decide_eq_true h11]
   refine Goes.rn 9 [(15, .i x5), (16, .i (wr .i64 (x5 + 1))), (5, .i (wr .i64 (x5 + 1)))] Juh ?_
   exact Goes.jp 26 [(0, .slice Ax0 x0.length cx0), (1, .slice Ax1 x1.length cx1), (5, .i (wr .i64 (x5 + 1)))] (u131 _ _ h _ _ (hx.trans z2) Ax0 x0.length cx0 Ax1 x1.length cx1 p2 (fx0.ext z2) rfl (fx1.ext z2) rfl)
  ·
   rw [decide_eq_false h11]
   refine Goes.rn 5 [(4, .bool false)] Juo ?_
   obtain rfl := Option.some.inj h
   exact Goes.rt Try.f24 (.bool false) ⟨S1, rfl, (hx.trans z2), p2⟩
 ·
  rw [decide_eq_false h2]
  refine Goes.rn 6 [(4, .bool true)] Jup ?_
  obtain rfl := Option.some.inj h
  exact Goes.rt Try.f24 (.bool true) ⟨S1, rfl, hx, p1⟩

def Qoc := sub [1, 1] B24
def Juq : List Item := [.code Qoc]
def Qod := sub [1, 0, 1] B24
def Jur : List Item := .code Qod :: Juq
def Qoe := sub [1, 0, 1, 0, 1] B24
def Jus : List Item := .code Qoe :: Juq

theorem W.z4i (x0 : List Int) (x1 : List Int) (r : Bool) (h : M.tidepolebase_SameInts x0 x1 = some r) {nz wz S0 w0 Lr} (Ax0 nx0 cx0 Ax1 nx1 cx1) (p0 : Hp nz wz S0 w0 (Lr)) (fx0 : Rd (kInt .i64) S0 w0 Ax0 cx0 x0) (lx0 : x0.length = nx0) (fx1 : Rd (kInt .i64) S0 w0 Ax1 cx1 x1) (lx1 : x1.length = nx1) :
  Calls Try.prog 24 #[.slice Ax0 nx0 cx0, .slice Ax1 nx1 cx1] w0 (Rets (Post.z4i nz wz S0 w0 Lr r)) := by
 subst lx0
 subst lx1
 refine calls_of_goes (fn := Try.f24) (c := B24) (by kernel_rfl) (by kernel_rfl) 24 (by kernel_rfl) ?_
 refine Goes.jp 26 [(0, .slice Ax0 x0.length cx0), (1, .slice Ax1 x1.length cx1)] (fun junk => ?_)
 delta M.tidepolebase_SameInts at h
 refine Goes.rn 13 [(4, .bool false), (6, .slice Ax0 x0.length cx0), (7, .i (x0.length : Int)), (8, .slice Ax1 x1.length cx1), (9, .i (x1.length : Int)), (10, .bool (!(decide ((x0.length : Int) = (x1.length : Int)))))] Jur ?_
 refine ite_some h (fun h1 h => ?_) (fun h1 h => ?_)
 ·
  rw [decide_eq_true h1]
  refine Goes.rn 9 [(5, .i 0)] Juh ?_
  exact Goes.jp 26 [(0, .slice Ax0 x0.length cx0), (1, .slice Ax1 x1.length cx1), (5, .i 0)] (W.z4j _ _ h _ _ (Ext.refl S0 w0) Ax0 x0.length cx0 Ax1 x1.length cx1 p0 fx0 rfl fx1 rfl)
 ·
  rw [decide_eq_false h1]
  refine Goes.rn 5 [(4, .bool false)] Jus ?_
  obtain rfl := Option.some.inj h
  exact Goes.rt Try.f24 (.bool false) ⟨S0, rfl, (Ext.refl S0 w0), p0⟩

def Qof := sub [1, 1] B11
def Jut : List Item := [.code Qof]
def Qog := sub [1, 0] B11
def Juu : List Item := .inRegion (opsOf Qog) [0, 1, 2, 3, 4, 5, 6, 7] :: Jut
def Qoh := sub [1, 1, 1] B11
def Juv : List Item := [.code Qoh]
def Qoi := sub [1, 1, 0] B11
def Juw : List Item := .inRegion (opsOf Qoi) [0, 1, 2, 3, 4, 5, 6, 7] :: Juv
def Qoj := sub [1, 1, 1, 1] B11
def Jux : List Item := [.code Qoj]
def Qok := sub [1, 1, 1, 0] B11
def Juy : List Item := .inRegion (opsOf Qok) [0, 1, 2, 3, 4, 5, 6, 7, 8] :: Jux
def Juz : List Item := .inRegion (opsOf Qok) [5, 6, 7, 8] :: Jux
def Qol := sub [1, 1, 1, 1, 1] B11
def Jv0 : List Item := [.code Qol]
def Qom := sub [1, 1, 1, 1, 0] B11
def Jv1 : List Item := .inRegion (opsOf Qom) [0, 1, 2, 3, 4, 5, 6] :: Jv0
def Qon := sub [1, 1, 1, 1, 1, 1] B11
def Jv2 : List Item := [.code Qon]
def Qoo := sub [1, 1, 1, 1, 1, 0] B11
def Jv3 : List Item := .inRegion (opsOf Qoo) [1, 2, 3, 4, 5, 6] :: Jv2
def Qop := sub [1, 1, 1, 1, 1, 1, 1] B11
def Jv4 : List Item := [.code Qop]
def Qoq := sub [1, 1, 1, 1, 1, 1, 0] B11
def Jv5 : List Item := .inRegion (opsOf Qoq) [2, 3, 4, 5, 6, 7, 8, 9, 10, 11, 12, 13, 14, 15, 16, 17, 18, 19, 20, 21, 22] :: Jv4
def Jv6 : List Item := .inRegion (opsOf Qoq) [6, 7, 8, 9, 10, 11, 12, 13, 14, 15, 16, 17, 18, 19, 20, 21, 22] :: Jv4
def Jv7 : List Item := .inRegion (opsOf Qoq) [10, 11, 12, 13, 14, 15, 16, 17, 18, 19, 20, 21, 22] :: Jv4
def Jv8 : List Item := .inRegion (opsOf Qoq) [14, 15, 16, 17, 18, 19, 20, 21, 22] :: Jv4
def Jv9 : List Item := .inRegion (opsOf Qoq) [15, 16, 17, 18, 19, 20, 21, 22] :: Jv4
def Jva : List Item := .inRegion (opsOf Qoq) [19, 20, 21, 22] :: Jv4
def Jvb : List Item := .inRegion (opsOf Qoq) [20, 21, 22] :: Jv4
def Jvc : List Item := .inRegion (opsOf Qoq) [16, 17, 18, 19, 20, 21, 22] :: Jv4

def Post.z4k (r : Bool) (v : Value) (w' : World) : Prop :=
 ∃ S', v = .bool r ∧ Ext S0 w0 S' w' ∧ Hp nz wz S' w' (Lr)

theorem W.z4k (r : Bool) (h : M.tidepolelaw12_works = some r) {nz wz S0 w0 Lr} (p0 : Hp nz wz S0 w0 (Lr)) :
  Calls Try.prog 11 #[] w0 (Rets (Post.z4k nz wz S0 w0 Lr r)) := by
 refine calls_of_goes (fn := Try.f11) (c := B11) (by kernel_rfl) (by kernel_rfl) 61 (by kernel_rfl) ?_
 refine Goes.jp 61 [] (fun junk => ?_)
 delta M.tidepolelaw12_works at h
 refine Goes.rn 6 [(0, .bool false)] Juu ?_
 refine bind_some' h fun y1 e2 h => ?_
 refine Goes.cal (.call { callee := .value (.func 16), args := #[(.const (.string ⟨#[40, 97, 124, 98, 41, 42, 99]⟩)), (.const (.string ⟨#[97, 98, 97, 99]⟩))], argTypes := #[9, 9] }) 15 42 16 _ (W.z3w (⟨#[40, 97, 124, 98, 41, 42, 99]⟩ : ByteArray) (⟨#[97, 98, 97, 99]⟩ : ByteArray) y1 e2  p0 ) ?_
 rintro _ w2 ⟨S2, rfl, z2, p2⟩
 refine Goes.rn 10 [(14, .tuple #[.bool y1.1, .i y1.2.1, .i y1.2.2]), (16, .bool y1.1), (17, .i y1.2.1), (18, .i y1.2.2), (1, .bool y1.1), (2, .i y1.2.1), (3, .i y1.2.2)] Juw ?_
 refine bind_some' h fun y3 e4 h => ?_
 refine Goes.cal (.call { callee := .value (.func 16), args := #[(.const (.string ⟨#[40, 97, 124, 98, 41, 42, 99]⟩)), (.const (.string ⟨#[97, 98]⟩))], argTypes := #[9, 9] }) 20 42 16 _ (W.z3w (⟨#[40, 97, 124, 98, 41, 42, 99]⟩ : ByteArray) (⟨#[97, 98]⟩ : ByteArray) y3 e4  p2 ) ?_
 rintro _ w3 ⟨S3, rfl, z3, p3⟩
 refine Goes.rn 10 [(19, .tuple #[.bool y3.1, .i y3.2.1, .i y3.2.2]), (21, .bool y3.1), (22, .i y3.2.1), (23, .i y3.2.2), (4, .bool y3.1), (5, .i y3.2.1), (6, .i y3.2.2)] Juy ?_
 refine bind_some' h fun y5 e6 h => ?_
 refine Goes.cal (.call { callee := .value (.func 8), args := #[(.const (.string ⟨#[97, 42]⟩))], argTypes := #[9] }) 25 30 8 _ (W.z1i (⟨#[97, 42]⟩ : ByteArray) y5 e6  p3 ) ?_
 rintro _ w4 ⟨S4, u132, u133, u134, rfl, z4, p4, u135, u136, rfl⟩
 refine Goes.rn 4 [(24, .tuple #[(ag (.i y5.1.Kind :: U4 y5.1.Set [.slice u132 y5.1.L.length u134, .i y5.1.Min, .i y5.1.Max])), .i y5.2.1, .i y5.2.2]), (26, (ag (.i y5.1.Kind :: U4 y5.1.Set [.slice u132 y5.1.L.length u134, .i y5.1.Min, .i y5.1.Max]))), (27, .i y5.2.1), (28, .i y5.2.2)] Juz ?_
 refine Op_.alloc 28 7 0 (.agg #[.i 0, .u 0, .u 0, .u 0, .u 0, .slice none 0 0, .i 0, .i 0]) [.i 0, .u 0, .u 0, .u 0, .u 0, .slice none 0 0, .i 0, .i 0] p4 Goes.v (by kernel_rfl) (by kernel_rfl) ?_
 intro b7 w5 z5 p5
 refine Op_.st 28 (.tmp 7) (.tmp 26) 0 0 b7 0 (ag (.i y5.1.Kind :: U4 y5.1.Set [.slice u132 y5.1.L.length u134, .i y5.1.Min, .i y5.1.Max])) (.i y5.1.Kind :: U4 y5.1.Set [.slice u132 y5.1.L.length u134, .i y5.1.Min, .i y5.1.Max]) p5 rfl Goes.s (by kernel_rfl) (by kernel_rfl) (by kernel_rfl) (by kernel_rfl) (Nat.zero_le _) (by simp only [List.length_cons, List.length_nil]; omega) (by simp [Value.oneCell']) ?_
 intro w6 z6 p6
 have p6 : Hp nz wz S4 w6 ((some b7, .row 28 (.i y5.1.Kind :: U4 y5.1.Set [.slice u132 y5.1.L.length u134, .i y5.1.Min, .i y5.1.Max]) 8 0) :: Lr) := p6
 refine Goes.rn 5 [(8, .i y5.2.1), (9, .i y5.2.2)] Jv1 ?_
 refine Goes.ldN 28 (.tmp 7) 30 28 ⟨b7, 0, none⟩ (.i y5.1.Kind :: U4 y5.1.Set [.slice u132 y5.1.L.length u134, .i y5.1.Min, .i y5.1.Max]) (p6.pa 0 0) ?_
 refine bind_some' h fun y9 e10 h => ?_
 refine Goes.cal (kc 22 [30] #[28]) 31 56 22 _ (W.z2t y5.1 y9 e10 u132 y5.1.L.length u134 p6 u135 (u136.ext (z5.trans z6)) rfl) ?_
 rintro _ w7 ⟨S7, u137, u138, u139, u13a, rfl, z7, p7, u13b, rfl⟩
 have p7 := p7.dp 1
 refine Goes.rn 9 [(29, .tuple #[.slice (Gp u137) y9.1.length u139, .i y9.2]), (32, .slice (Gp u137) y9.1.length u139), (33, .i y9.2), (10, .slice (Gp u137) y9.1.length u139), (11, .i y9.2), (35, .slice (Gp u137) y9.1.length u139)] Jv3 ?_
 obtain ⟨S8, z8, p8, f12⟩ := p7.freezeRd 0 rfl u13b (by decide)
 refine bind_some' h fun y13 e14 h => ?_
 refine Goes.cal (.call { callee := .value (.func 23), args := #[(.tmp 35), (.const (.string ⟨#[98, 97, 97, 98]⟩)), (.const (.int .i64 1))], argTypes := #[35, 9, 3] }) 36 59 23 _ (W.z46 y9.1 (⟨#[98, 97, 97, 98]⟩ : ByteArray) 1 y13 e14 (Gp u137) y9.1.length u139 p8 f12 rfl) ?_
 rintro _ w9 ⟨S9, u13c, u13d, u13e, u13f, rfl, z9, p9, u13g, rfl⟩
 have p9 := p9.dp 1
 refine Goes.rn 10 [(34, .tuple #[.slice (Gp u13c) y13.1.length u13e, .i y13.2]), (37, .slice (Gp u13c) y13.1.length u13e), (38, .i y13.2), (12, .slice (Gp u13c) y13.1.length u13e), (13, .i y13.2), (39, .bool y1.1), (40, .bool y1.1)] Jv5 ?_
 refine ite_some h (fun h16 h => ?_) (fun h16 h => ?_)
 ·
  rw [h16]
  refine Goes.rn 4 [(41, .i y1.2.2), (42, .bool (decide (y1.2.2 = 0))), (43, .bool (decide (y1.2.2 = 0))), (44, .bool (decide (y1.2.2 = 0)))] Jv6 ?_
  refine ite_some h (fun h17 h => ?_) (fun h17 h => ?_)
  ·
   rw [decide_eq_true h17]
   refine Goes.rn 4 [(45, .bool y3.1), (46, .bool (!y3.1)), (47, .bool (!y3.1)), (48, .bool (!y3.1))] Jv7 ?_
   refine ite_some h (fun h18 h => ?_) (fun h18 h => ?_)
   ·
    rw [h18]
    refine Goes.rn 14 [(49, undef), (50, undef), (51, .bool false), (52, .bool false), (53, undef), (54, undef), (55, undef), (56, .bool false), (57, .bool false), (58, undef), (59, undef), (60, .bool false), (0, .bool false)] Jv4 ?_
    obtain rfl := Option.some.inj h
    have p9 := p9.dp 0
    exact Goes.rt Try.f11 (.bool false) ⟨S9, rfl, (((((((((Ext.refl S0 w0).trans z2).trans z3).trans z4).trans z5).trans z6).trans z7).trans z8).trans z9), p9⟩
   ·
    have u5c : y3.1 = false := by simpa using h18
    rw [u5c]
    refine Goes.rn 4 [(49, .i y3.2.2), (50, .bool (decide (y3.2.2 = 0))), (51, .bool (decide (y3.2.2 = 0))), (52, .bool (decide (y3.2.2 = 0)))] Jv8 ?_
    refine ite_some h (fun h19 h => ?_) (fun h19 h => ?_)
    ·
     rw [decide_eq_true h19]
     refine Goes.rn 1 [(53, .slice (Gp u13c) y13.1.length u13e)] Jv9 ?_
     have f21 : Els (kInt .i64) S9 w9 ([.i 1, .i 2, .i 3] : List Value) [1, 2, 3] := by exact (Els.cons (K := (kInt .i64)) (vs := [.i 1]) (x := 1) rfl (Els.cons (K := (kInt .i64)) (vs := [.i 2]) (x := 2) rfl (Els.cons (K := (kInt .i64)) (vs := [.i 3]) (x := 3) rfl Els.nil)))
     refine Op_.made (.buildSlice 58 3 #[(0, (.const (.int .i64 1))), (1, (.const (.int .i64 2))), (2, (.const (.int .i64 3)))]) 54 58 (fun b => .slice (Gp (some b)) 3 3) 3 ([.i 1, .i 2, .i 3] : List Value) p9 Goes.v (by kernel_rfl) ?_
     intro b20 w10 z10 p10
     have p10 : Hp nz wz S9 w10 (((some b20), .row 3 ([.i 1, .i 2, .i 3] : List Value) (3 * (kInt .i64).size) 0) :: (u13c, .row 3 u13f (u13e * (kInt .i64).size) 0) :: Lr) := p10
     obtain ⟨S11, z11, p11, f23⟩ := p10.freezeRd 1 rfl (u13g.ext z10) (by decide)
     obtain ⟨S12, z12, p12, f24⟩ := p11.freezeRd 0 rfl (f21.ext (z10.trans z11)) (by decide)
     refine bind_some' h fun y25 e26 h => ?_
     refine Goes.cal (kc 24 [53, 54] #[58, 58]) 55 4 24 _ (W.z4i y13.1 [1, 2, 3] y25 e26 (Gp u13c) y13.1.length u13e (Gp (some b20)) 3 3 p12 (f23.ext z12) rfl f24 rfl) ?_
     rintro _ w13 ⟨S13, rfl, z13, p13⟩
     have p13 := (p13.dp 0).dp 0
     refine Goes.rn 2 [(56, .bool y25), (57, .bool y25)] Jva ?_
     refine ite_some h (fun h27 h => ?_) (fun h27 h => ?_)
     ·
      rw [h27]
      refine Goes.rn 5 [(58, .i y13.2), (59, .bool (decide (y13.2 = 0))), (60, .bool (decide (y13.2 = 0))), (0, .bool (decide (y13.2 = 0)))] Jv4 ?_
      obtain rfl := Option.some.inj h
      exact Goes.rt Try.f11 (.bool (decide (y13.2 = 0))) ⟨S13, rfl, (((((((((((((Ext.refl S0 w0).trans z2).trans z3).trans z4).trans z5).trans z6).trans z7).trans z8).trans z9).trans z10).trans z11).trans z12).trans z13), p13⟩
     ·
      have u13h : y25 = false := by simpa using h27
      rw [u13h]
      refine Goes.rn 5 [(58, undef), (59, undef), (60, .bool false), (0, .bool false)] Jv4 ?_
      obtain rfl := Option.some.inj h
      exact Goes.rt Try.f11 (.bool false) ⟨S13, rfl, (((((((((((((Ext.refl S0 w0).trans z2).trans z3).trans z4).trans z5).trans z6).trans z7).trans z8).trans z9).trans z10).trans z11).trans z12).trans z13), p13⟩
    ·
     rw [decide_eq_false h19]
     refine Goes.rn 10 [(53, undef), (54, undef), (55, undef), (56, .bool false), (57, .bool false), (58, undef), (59, undef), (60, .bool false), (0, .bool false)] Jv4 ?_
     obtain rfl := Option.some.inj h
     have p9 := p9.dp 0
     exact Goes.rt Try.f11 (.bool false) ⟨S9, rfl, (((((((((Ext.refl S0 w0).trans z2).trans z3).trans z4).trans z5).trans z6).trans z7).trans z8).trans z9), p9⟩
  ·
   rw [decide_eq_false h17]
   refine Goes.rn 14 [(45, undef), (46, undef), (47, .bool false), (48, .bool false), (49, undef), (50, undef), (51, .bool false), (52, .bool false), (53, undef), (54, undef), (55, undef), (56, .bool false), (57, .bool false), (58, undef)] Jvb ?_
   refine Goes.rn 4 [(59, undef), (60, .bool false), (0, .bool false)] Jv4 ?_
   obtain rfl := Option.some.inj h
   have p9 := p9.dp 0
   exact Goes.rt Try.f11 (.bool false) ⟨S9, rfl, (((((((((Ext.refl S0 w0).trans z2).trans z3).trans z4).trans z5).trans z6).trans z7).trans z8).trans z9), p9⟩
 ·
  have u38 : y1.1 = false := by simpa using h16
  rw [u38]
  refine Goes.rn 14 [(41, undef), (42, undef), (43, .bool false), (44, .bool false), (45, undef), (46, undef), (47, .bool false), (48, .bool false), (49, undef), (50, undef), (51, .bool false), (52, .bool false), (53, undef), (54, undef)] Jvc ?_
  refine Goes.rn 8 [(55, undef), (56, .bool false), (57, .bool false), (58, undef), (59, undef), (60, .bool false), (0, .bool false)] Jv4 ?_
  obtain rfl := Option.some.inj h
  have p9 := p9.dp 0
  exact Goes.rt Try.f11 (.bool false) ⟨S9, rfl, (((((((((Ext.refl S0 w0).trans z2).trans z3).trans z4).trans z5).trans z6).trans z7).trans z8).trans z9), p9⟩

def Qor := sub [1, 1, 1, 1, 1] B25
def Jvd : List Item := [.code Qor]
def Jve : List Item := .inBlock 0 :: Jvd
def Qos := sub [1, 1, 1, 1, 0, 1, 0, 0] B25
def Jvf : List Item := .inLoop Qos :: Jve
def Jvg : List Item := .code Qos :: Jvf
def Qot := sub [1, 1, 1, 1, 0, 1, 0, 0, 1] B25
def Jvh : List Item := .code Qot :: Jvf
def Qou := sub [1, 1, 1, 1, 0, 1, 0, 0, 0, 1] B25
def Jvi : List Item := .code Qou :: Jvh
def Qov := sub [1] B25
def Jvj : List Item := [.code Qov]
def Qow := sub [0] B25
def Jvk : List Item := .inRegion (opsOf Qow) [0, 1] :: Jvj
def Qox := sub [1, 1] B25
def Jvl : List Item := [.code Qox]
def Qoy := sub [1, 0] B25
def Jvm : List Item := .inRegion (opsOf Qoy) [2, 3, 4, 5] :: Jvl
def Jvn : List Item := .inRegion (opsOf Qoy) [5] :: Jvl
def Qoz := sub [1, 1, 1] B25
def Jvo : List Item := [.code Qoz]
def Qp0 := sub [1, 1, 0] B25
def Jvp : List Item := .inRegion (opsOf Qp0) [0, 1, 2] :: Jvo
def Qp1 := sub [1, 1, 1, 1] B25
def Jvq : List Item := [.code Qp1]
def Qp2 := sub [1, 1, 1, 0] B25
def Jvr : List Item := .inRegion (opsOf Qp2) [1] :: Jvq
def Qp3 := sub [1, 1, 1, 1, 0, 1, 0, 0, 0, 0] B25
def Jvs : List Item := .inRegion (opsOf Qp3) [2, 3, 4, 5, 6, 7, 8, 9, 10, 11, 12, 13, 14] :: Jvi
def Jvt : List Item := .inRegion (opsOf Qp3) [6, 7, 8, 9, 10, 11, 12, 13, 14] :: Jvi
def Jvu : List Item := .inRegion (opsOf Qp3) [10, 11, 12, 13, 14] :: Jvi
def Jvv : List Item := .inRegion (opsOf Qp3) [12, 13, 14] :: Jvi
def Qp4 := sub [1, 1, 1, 1, 0, 1, 0, 0, 1, 1] B25
def Jvw : List Item := .code Qp4 :: Jvf
def Jvx : List Item := .inBlock 1 :: Jvw
def Qp5 := sub [1, 1, 1, 1, 0, 1, 0, 0, 1, 0, 0] B25
def Jvy : List Item := .code Qp5 :: Jvx
def Qp6 := sub [1, 1, 1, 1, 1, 1] B25
def Jvz : List Item := [.code Qp6]
def Qp7 := sub [1, 1, 1, 1, 1, 0] B25
def Jw0 : List Item := .inRegion (opsOf Qp7) [0, 1] :: Jvz

def Post.z4l (gx2 : Nat) (r : T27 × Int) (v : Value) (w' : World) : Prop :=
 ∃ S' u13i u5 u6 u13j, v = (ag (.i r.1.Kind :: U4 r.1.Set [.slice (Gp u13i) u5 u6, .i r.1.Min, .i r.1.Max])) ∧ Ext S0 w0 S' w' ∧ Hp nz wz S' w' ((u13i, .row 28 u13j (u6 * kT27.size) 0) :: (some gx2, .row 3 [.i r.2] 1 0) :: Lr) ∧ r.1.Set.length = 4 ∧ Els kT27 S' w' u13j r.1.L ∧ r.1.L.length = u5

def LF.z4l : T27 × Int × Int → (T27 × Int) → Prop := fun ⟨x0, x1, ua⟩ r => ∀ {nz wz S0 w0 Lr} u92 u93 u94 gx2 (_ : Hp nz wz S0 w0 ((some gx2, .row 3 [.i ua] 1 0) :: Lr)) (_ : x0.Set.length = 4) (_ : Rd kT27 S0 w0 u92 u94 x0.L) (_ : x0.L.length = u93),
 Calls Try.prog 25 #[(ag (.i x0.Kind :: U4 x0.Set [.slice u92 u93 u94, .i x0.Min, .i x0.Max])), .i x1, (pt gx2 0)] w0 (Rets (Post.z4l nz wz S0 w0 Lr gx2 r))

def L.z4m (gx2 : Nat) : Int × T27 × T27 × T27 × Int × Int → (T27 × Int) → Prop := fun ⟨x1, x3v, x6v, x7v, x8, u95⟩ r => ∀ S1 w1, Ext S0 w0 S1 w1 → ∀ gx3 u96 u97 u98 gx6 u13k u8u u8v u13l gx7 u13m ubx uby u13n (_ : Hp nz wz S1 w1 ((some gx3, .row 28 (.i x3v.Kind :: U4 x3v.Set [.slice u96 u97 u98, .i x3v.Min, .i x3v.Max]) 8 0) :: (some gx6, .row 28 (.i x6v.Kind :: U4 x6v.Set [.slice (Gp u13k) u8u u8v, .i x6v.Min, .i x6v.Max]) 8 0) :: (u13k, .row 28 u13l (u8v * kT27.size) 0) :: (some gx7, .row 28 (.i x7v.Kind :: U4 x7v.Set [.slice (Gp u13m) ubx uby, .i x7v.Min, .i x7v.Max]) 8 0) :: (u13m, .row 28 u13n (uby * kT27.size) 0) :: (some gx2, .row 3 [.i u95] 1 0) :: Lr)) (_ : x3v.Set.length = 4) (_ : Rd kT27 S1 w1 u96 u98 x3v.L) (_ : x3v.L.length = u97) (_ : x6v.Set.length = 4) (_ : Els kT27 S1 w1 u13l x6v.L) (_ : x6v.L.length = u8u) (_ : x7v.Set.length = 4) (_ : Els kT27 S1 w1 u13n x7v.L) (_ : x7v.L.length = ubx) (junk : Nat → Value),
 Goes Try.prog (base 25) Jvg ⟨lfr 48 [(1, .i x1), (2, (pt gx2 0)), (3, (pt gx3 0)), (6, (pt gx6 0)), (7, (pt gx7 0)), (8, .i x8)] junk, []⟩ w1 (Done Try.prog 25 (Rets (Post.z4l nz wz S0 w0 Lr gx2 r)))

def LL.z4m : Int × T27 × T27 × T27 × Int × Int → (T27 × Int) → Prop := fun a r => ∀ {nz wz S0 w0 Lr} (gx2 : Nat), L.z4m nz wz S0 w0 Lr gx2 a r

def L.z4n (gx2 : Nat) : Int × T27 × T27 × T27 × Int × Bool × Int → (T27 × Int) → Prop := fun ⟨x1, x3v, x6v, x7v, x8, x30, u95⟩ r => ∀ S1 w1, Ext S0 w0 S1 w1 → ∀ gx3 u96 u97 u98 gx6 u13k u8u u8v u13l gx7 u13m ubx uby u13n (_ : Hp nz wz S1 w1 ((some gx3, .row 28 (.i x3v.Kind :: U4 x3v.Set [.slice u96 u97 u98, .i x3v.Min, .i x3v.Max]) 8 0) :: (some gx6, .row 28 (.i x6v.Kind :: U4 x6v.Set [.slice (Gp u13k) u8u u8v, .i x6v.Min, .i x6v.Max]) 8 0) :: (u13k, .row 28 u13l (u8v * kT27.size) 0) :: (some gx7, .row 28 (.i x7v.Kind :: U4 x7v.Set [.slice (Gp u13m) ubx uby, .i x7v.Min, .i x7v.Max]) 8 0) :: (u13m, .row 28 u13n (uby * kT27.size) 0) :: (some gx2, .row 3 [.i u95] 1 0) :: Lr)) (_ : x3v.Set.length = 4) (_ : Rd kT27 S1 w1 u96 u98 x3v.L) (_ : x3v.L.length = u97) (_ : x6v.Set.length = 4) (_ : Els kT27 S1 w1 u13l x6v.L) (_ : x6v.L.length = u8u) (_ : x7v.Set.length = 4) (_ : Els kT27 S1 w1 u13n x7v.L) (_ : x7v.L.length = ubx) (junk : Nat → Value),
 Goes Try.prog (base 25) Jvi ⟨lfr 48 [(1, .i x1), (2, (pt gx2 0)), (3, (pt gx3 0)), (6, (pt gx6 0)), (7, (pt gx7 0)), (8, .i x8), (30, .bool x30)] junk, []⟩ w1 (Done Try.prog 25 (Rets (Post.z4l nz wz S0 w0 Lr gx2 r)))

def LL.z4n : Int × T27 × T27 × T27 × Int × Bool × Int → (T27 × Int) → Prop := fun a r => ∀ {nz wz S0 w0 Lr} (gx2 : Nat), L.z4n nz wz S0 w0 Lr gx2 a r

theorem W.z4o : (∀ a r, M.tidepolelaw12_cut a = some r → LF.z4l a r) ∧ (∀ a r, M.tidepolelaw12_cut_l0 a = some r → LL.z4m a r) ∧ (∀ a r, M.tidepolelaw12_cut_l1 a = some r → LL.z4n a r) := by
 refine M.tidepolelaw12_cut.mutual_partial_correctness LF.z4l LL.z4m LL.z4n ?_ ?_ ?_
 ·
  intro u13o u13p ⟨x0, x1, ua⟩ r h nz wz S0 w0 Lr u92 u93 u94 gx2 p0 u9e u9f u9g
  try dsimp only at h
  subst u9g
  refine calls_of_goes (fn := Try.f25) (c := B25) (by kernel_rfl) (by kernel_rfl) 45 (by kernel_rfl) ?_
  refine Goes.jp 48 [(0, (ag (.i x0.Kind :: U4 x0.Set [.slice u92 x0.L.length u94, .i x0.Min, .i x0.Max]))), (1, .i x1), (2, (pt gx2 0))] (fun junk => ?_)
  refine Goes.rn 2 [] Jvk ?_
  refine Op_.box 28 (.tmp 0) 3 0 (ag (.i x0.Kind :: U4 x0.Set [.slice u92 x0.L.length u94, .i x0.Min, .i x0.Max])) (.i x0.Kind :: U4 x0.Set [.slice u92 x0.L.length u94, .i x0.Min, .i x0.Max]) p0 Goes.v (by kernel_rfl) (by kernel_rfl) ?_
  intro b2 w2 z2 p2
  refine Op_.alloc 28 6 0 (.agg #[.i 0, .u 0, .u 0, .u 0, .u 0, .slice none 0 0, .i 0, .i 0]) [.i 0, .u 0, .u 0, .u 0, .u 0, .slice none 0 0, .i 0, .i 0] p2 Goes.v (by kernel_rfl) (by kernel_rfl) ?_
  intro b4 w3 z3 p3
  refine Goes.rn 5 [(9, (pt gx2 0)), (10, (pt gx2 0))] Jvm ?_
  refine Goes.ld 3 (.tmp 10) 11 3 ⟨gx2, 0, none⟩ (.i ua) (p3.c 2 0) ?_
  refine Goes.rn 2 [(12, .i (wr .i64 (ua - 1))), (13, (pt gx2 0))] Jvn ?_
  refine Op_.st 3 (.tmp 13) (.tmp 12) 0 2 gx2 0 (.i (wr .i64 (ua - 1))) [.i (wr .i64 (ua - 1))] p3 rfl Goes.s (by kernel_rfl) (by kernel_rfl) (by kernel_rfl) (by kernel_rfl) (Nat.zero_le _) (by simp only [List.length_cons, List.length_nil]; omega) (by simp [Value.oneCell']) ?_
  intro w4 z4 p4
  have p4 : Hp nz wz S0 w4 ((some b4, .row 28 [.i 0, .u 0, .u 0, .u 0, .u 0, .slice none 0 0, .i 0, .i 0] 8 0) :: (some b2, .row 28 (.i x0.Kind :: U4 x0.Set [.slice u92 x0.L.length u94, .i x0.Min, .i x0.Max]) 8 0) :: (some gx2, .row 3 [.i (wr .i64 (ua - 1))] 1 0) :: Lr) := p4
  refine Goes.rn 3 [] Jvp ?_
  refine Goes.ldN 28 (.tmp 3) 14 28 ⟨b2, 0, none⟩ (.i x0.Kind :: U4 x0.Set [.slice u92 x0.L.length u94, .i x0.Min, .i x0.Max]) (p4.pa 1 0) ?_
  refine Op_.alloc 28 7 0 (.agg #[.i 0, .u 0, .u 0, .u 0, .u 0, .slice none 0 0, .i 0, .i 0]) [.i 0, .u 0, .u 0, .u 0, .u 0, .slice none 0 0, .i 0, .i 0] p4 Goes.v (by kernel_rfl) (by kernel_rfl) ?_
  intro b6 w5 z5 p5
  refine Op_.st 28 (.tmp 7) (.tmp 14) 0 0 b6 0 (ag (.i x0.Kind :: U4 x0.Set [.slice u92 x0.L.length u94, .i x0.Min, .i x0.Max])) (.i x0.Kind :: U4 x0.Set [.slice u92 x0.L.length u94, .i x0.Min, .i x0.Max]) p5 rfl Goes.s (by kernel_rfl) (by kernel_rfl) (by kernel_rfl) (by kernel_rfl) (Nat.zero_le _) (by simp only [List.length_cons, List.length_nil]; omega) (by simp [Value.oneCell']) ?_
  intro w6 z6 p6
  have p6 : Hp nz wz S0 w6 ((some b6, .row 28 (.i x0.Kind :: U4 x0.Set [.slice u92 x0.L.length u94, .i x0.Min, .i x0.Max]) 8 0) :: (some b4, .row 28 [.i 0, .u 0, .u 0, .u 0, .u 0, .slice none 0 0, .i 0, .i 0] 8 0) :: (some b2, .row 28 (.i x0.Kind :: U4 x0.Set [.slice u92 x0.L.length u94, .i x0.Min, .i x0.Max]) 8 0) :: (some gx2, .row 3 [.i (wr .i64 (ua - 1))] 1 0) :: Lr) := p6
  refine Goes.rn 4 [(15, (pt b6 5))] Jvr ?_
  refine Op_.st 26 (.tmp 15) (.const (.slice none 0 0)) 0 0 b6 5 (.slice none 0 0) [.slice none 0 0] p6 rfl Goes.s (by kernel_rfl) (by kernel_rfl) (by kernel_rfl) (by kernel_rfl) (Nat.zero_le _) (by simp only [List.length_cons, List.length_nil]; omega) (by simp [Value.oneCell']) ?_
  intro w7 z7 p7
  have p7 : Hp nz wz S0 w7 ((some b6, .row 28 (.i x0.Kind :: U4 x0.Set [.slice none 0 0, .i x0.Min, .i x0.Max]) 8 0) :: (some b4, .row 28 [.i 0, .u 0, .u 0, .u 0, .u 0, .slice none 0 0, .i 0, .i 0] 8 0) :: (some b2, .row 28 (.i x0.Kind :: U4 x0.Set [.slice u92 x0.L.length u94, .i x0.Min, .i x0.Max]) 8 0) :: (some gx2, .row 3 [.i (wr .i64 (ua - 1))] 1 0) :: Lr) := p7
  refine Goes.rn 8 [(8, .i 0)] Jvg ?_
  have p7 : Hp nz wz S0 w7 ((none, .row 28 [] (0 * kT27.size) 0) :: (some b6, .row 28 (.i x0.Kind :: U4 x0.Set [.slice none 0 0, .i x0.Min, .i x0.Max]) 8 0) :: (some b4, .row 28 [.i 0, .u 0, .u 0, .u 0, .u 0, .slice none 0 0, .i 0, .i 0] 8 0) :: (some b2, .row 28 (.i x0.Kind :: U4 x0.Set [.slice u92 x0.L.length u94, .i x0.Min, .i x0.Max]) 8 0) :: (some gx2, .row 3 [.i (wr .i64 (ua - 1))] 1 0) :: Lr) := p7.nilRow' 28
  have p7 : Hp nz wz S0 w7 ((none, .row 28 [] (0 * kT27.size) 0) :: (none, .row 28 [] (0 * kT27.size) 0) :: (some b6, .row 28 (.i x0.Kind :: U4 x0.Set [.slice none 0 0, .i x0.Min, .i x0.Max]) 8 0) :: (some b4, .row 28 [.i 0, .u 0, .u 0, .u 0, .u 0, .slice (Gp none) 0 0, .i 0, .i 0] 8 0) :: (some b2, .row 28 (.i x0.Kind :: U4 x0.Set [.slice u92 x0.L.length u94, .i x0.Min, .i x0.Max]) 8 0) :: (some gx2, .row 3 [.i (wr .i64 (ua - 1))] 1 0) :: Lr) := p7.nilRow' 28
  have p7 := (((((p7.fr 5).fr 1).fr 3).fr 3).fr 4).fr 5
  exact Goes.jp 48 [(1, .i x1), (2, (pt gx2 0)), (3, (pt b2 0)), (6, (pt b4 0)), (7, (pt b6 0)), (8, .i 0)] (u13p _ _ h gx2 _ _ (((((((Ext.refl S0 w0).trans z2).trans z3).trans z4).trans z5).trans z6).trans z7) b2 u92 x0.L.length u94 b4 none 0 0 [] b6 none 0 0 [] p7 u9e (u9f.ext (((((z2.trans z3).trans z4).trans z5).trans z6).trans z7)) rfl rfl (Els.nil (K := kT27)) rfl u9e (Els.nil (K := kT27)) rfl)
 ·
  intro u13q u13r ⟨x1, x3v, x6v, x7v, x8, u95⟩ r h nz wz S0 w0 Lr gx2 S1 w1 hx gx3 u96 u97 u98 gx6 u13k u8u u8v u13l gx7 u13m ubx uby u13n p1 u9j u9k u9l u8x u8y u8z uf8 uf9 ufa junk
  try dsimp only at h
  subst u9l
  subst u8z
  subst ufa
  refine Goes.rn 5 [(16, .i x8), (17, (pt gx3 5))] Jvs ?_
  refine Goes.ld 26 (.tmp 17) 18 26 ⟨gx3, 5, none⟩ (.slice u96 x3v.L.length u98) (p1.c 0 5) ?_
  refine Goes.rn 3 [(19, .i (x3v.L.length : Int)), (20, .bool (decide (x8 < (x3v.L.length : Int)))), (21, .bool (decide (x8 < (x3v.L.length : Int))))] Jvt ?_
  refine ite_some h (fun h15 h => ?_) (fun h15 h => ?_)
  ·
   rw [decide_eq_true h15]
   refine Goes.rn 4 [(22, .i x1), (23, .bool (decide (x1 > 0))), (24, .bool (decide (x1 > 0))), (25, .bool (decide (x1 > 0)))] Jvu ?_
   refine ite_some h (fun h16 h => ?_) (fun h16 h => ?_)
   ·
    rw [decide_eq_true h16]
    refine Goes.rn 2 [(26, (pt gx2 0)), (27, (pt gx2 0))] Jvv ?_
    refine Goes.ld 3 (.tmp 27) 28 3 ⟨gx2, 0, none⟩ (.i u95) (p1.c 5 0) ?_
    refine Goes.rn 3 [(29, .bool (decide (u95 > 0))), (30, .bool (decide (u95 > 0)))] Jvi ?_
    exact Goes.jp 48 [(1, .i x1), (2, (pt gx2 0)), (3, (pt gx3 0)), (6, (pt gx6 0)), (7, (pt gx7 0)), (8, .i x8), (30, .bool (decide (u95 > 0)))] (u13r _ _ h gx2 _ _ hx gx3 u96 x3v.L.length u98 gx6 u13k x6v.L.length u8v u13l gx7 u13m x7v.L.length uby u13n p1 u9j u9k rfl u8x u8y rfl uf8 uf9 rfl)
   ·
    rw [decide_eq_false h16]
    refine Goes.rn 6 [(26, undef), (27, undef), (28, undef), (29, undef), (30, .bool false)] Jvi ?_
    exact Goes.jp 48 [(1, .i x1), (2, (pt gx2 0)), (3, (pt gx3 0)), (6, (pt gx6 0)), (7, (pt gx7 0)), (8, .i x8), (30, .bool false)] (u13r _ _ h gx2 _ _ hx gx3 u96 x3v.L.length u98 gx6 u13k x6v.L.length u8v u13l gx7 u13m x7v.L.length uby u13n p1 u9j u9k rfl u8x u8y rfl uf8 uf9 rfl)
  ·
   rw [decide_eq_false h15]
   refine Goes.rn 10 [(22, undef), (23, undef), (24, .bool false), (25, .bool false), (26, undef), (27, undef), (28, undef), (29, undef), (30, .bool false)] Jvi ?_
   exact Goes.jp 48 [(1, .i x1), (2, (pt gx2 0)), (3, (pt gx3 0)), (6, (pt gx6 0)), (7, (pt gx7 0)), (8, .i x8), (30, .bool false)] (u13r _ _ h gx2 _ _ hx gx3 u96 x3v.L.length u98 gx6 u13k x6v.L.length u8v u13l gx7 u13m x7v.L.length uby u13n p1 u9j u9k rfl u8x u8y rfl uf8 uf9 rfl)
 ·
  intro u13s u13o u13t u13p ⟨x1, x3v, x6v, x7v, x8, x30, u95⟩ r h nz wz S0 w0 Lr gx2 S1 w1 hx gx3 u96 u97 u98 gx6 u13k u8u u8v u13l gx7 u13m ubx uby u13n p1 u9j u9k u9l u8x u8y u8z uf8 uf9 ufa junk
  try dsimp only at h
  subst u9l
  subst u8z
  subst ufa
  refine ite_some h (fun h22 h => ?_) (fun h22 h => ?_)
  ·
   rw [h22]
   refine Goes.rn 4 [] Jvy ?_
   have z8 : Ext S1 w1 S1 (w1).drew := Ext.draw
   have p8 := p1.draw
   refine Goes.drawn (s := [12, 14]) (F := Fc S1 (w1).drew [(⟨gx7, 5, none⟩, .slice (Gp u13m) x7v.L.length uby), (⟨gx3, 5, none⟩, .slice u96 x3v.L.length u98)]) 7 15 (by kernel_rfl) (by kernel_rfl) (by kernel_rfl) (by kernel_rfl) ?_
   generalize (w1).drew = w8 at z8 p8 ⊢
   refine AnyG.pu 0 (.fieldAddr 28 (.tmp 7) 2) 33 0 ((pt gx7 5)) (Fc.here (p8.cs [(3, 5, 1), (0, 5, 1)])) ?_
   refine AnyG.ld1 (i := 1) 26 (.tmp 33) 34 26 ⟨gx7, 5, none⟩ (.slice (Gp u13m) x7v.L.length uby) (by kernel_rfl) (by kernel_rfl) (Fc.here (p8.cs [(3, 5, 1), (0, 5, 1)])) (by kernel_rfl) (by kernel_rfl) (fun _ h => h.2.at_ 0 rfl) ?_
   refine AnyG.pu 2 (.fieldAddr 28 (.tmp 3) 2) 35 0 ((pt gx3 5)) (Fc.here (p8.cs [(3, 5, 1), (0, 5, 1)])) ?_
   refine AnyG.ld1 (i := 3) 26 (.tmp 35) 36 26 ⟨gx3, 5, none⟩ (.slice u96 x3v.L.length u98) (by kernel_rfl) (by kernel_rfl) (Fc.here (p8.cs [(3, 5, 1), (0, 5, 1)])) (by kernel_rfl) (by kernel_rfl) (fun _ h => h.2.at_ 1 rfl) ?_
   refine AnyG.pu 4 (.move (.tmp 8)) 37 3 (.i x8) (Fc.here (p8.cs [(3, 5, 1), (0, 5, 1)])) ?_
   refine guard_some' h fun g23 h => ?_
   refine guard_some' h fun g24 h => ?_
   refine AnyG.ixR_n (i := 5) 26 (.tmp 36) (.tmp 37) 38 0 28 .i64 x8 (gi x3v.L x8) rfl rfl (u9k.ext z8) (by kernel_rfl) (by kernel_rfl) (Fc.here (p8.cs [(3, 5, 1), (0, 5, 1)])) (by kernel_rfl) (by kernel_rfl) (by kernel_rfl) (by kernel_rfl) g23 g24 ?_
   intro a25 _ f26 q27
   have q28 := q27
   obtain ⟨_, _, rfl, rfl, ⟨_, _, rfl, ⟨l29, f30⟩, ⟨_, _, rfl, ⟨A31, c32, rfl, f33⟩, ⟨_, _, rfl, rfl, rfl⟩⟩⟩⟩ := kT27_open q28
   obtain rfl := els_lit4' f30 l29
   refine AnyG.ldN (i := 6) 28 (.tmp 38) 39 28 a25 ([.i ((gi x3v.L x8).Kind)] ++ ((U4 ((gi x3v.L x8).Set) []) ++ ([.slice A31 (((gi x3v.L x8).L).length) c32] ++ ([.i ((gi x3v.L x8).Min)] ++ [.i ((gi x3v.L x8).Max)])))) (by kernel_rfl) (by kernel_rfl) (Fc.here (p8.cs [(3, 5, 1), (0, 5, 1)])) (by kernel_rfl) (by kernel_rfl) (by kernel_rfl) (fun _ h => f26.fc h) ?_
   refine AnyG.pu 7 (.move (.tmp 1)) 40 3 (.i x1) (Fc.here (p8.cs [(3, 5, 1), (0, 5, 1)])) ?_
   refine AnyG.pu 8 (.binOp .sub 3 (.tmp 40) (.const (.int .i64 1)) 3) 41 3 (.i (wr .i64 (x1 - 1))) (Fc.here (p8.cs [(3, 5, 1), (0, 5, 1)])) ?_
   refine AnyG.pu 9 (.move (.tmp 2)) 42 55 ((pt gx2 0)) (Fc.here (p8.cs [(3, 5, 1), (0, 5, 1)])) ?_
   have p8 := p8.fr 5
   refine bind_some' h fun y34 e35 h => ?_
   refine Op_.call (kc 25 [39, 41, 42] #[28, 3, 55]) 43 28 25 #[(ag (.i ((gi x3v.L x8).Kind) :: U4 ((gi x3v.L x8).Set) [.slice A31 (((gi x3v.L x8).L).length) c32, .i ((gi x3v.L x8).Min), .i ((gi x3v.L x8).Max)])), .i (wr .i64 (x1 - 1)), (pt gx2 0)] (AnyG.cs (i := 10) (by kernel_rfl) (by kernel_rfl)) (by kernel_rfl) (u13t ((⟨(gi x3v.L x8).Kind, ((gi x3v.L x8).Set), (gi x3v.L x8).L, (gi x3v.L x8).Min, (gi x3v.L x8).Max⟩ : T27), wr .i64 (x1 - 1), u95) y34 e35 A31 (((gi x3v.L x8).L).length) c32 gx2 p8 l29 f33 rfl) ?_
   rintro _ w9 ⟨S9, u13u, u6i, u6j, u13v, rfl, z9, p9, u6l, u6m, rfl⟩
   refine AnyG.next z9 ⟨(p9.c 5 5), (p9.c 2 5), trivial⟩ ?_
   obtain ⟨S10, z10, p10, f37⟩ := p9.freezeRd 0 rfl u6m (by decide)
   refine AnyG.refz z10 ?_
   have f39 : Els kT27 S10 w9 ((.i y34.1.Kind :: U4 y34.1.Set [.slice (Gp u13u) y34.1.L.length u6j, .i y34.1.Min, .i y34.1.Max]) : List Value) [y34.1] := by exact (Els.cons (K := kT27) (vs := (.i y34.1.Kind :: U4 y34.1.Set [.slice (Gp u13u) y34.1.L.length u6j, .i y34.1.Min, .i y34.1.Max])) (x := y34.1) (kT27_close ⟨[.i y34.1.Kind], (U4 y34.1.Set [.slice (Gp u13u) y34.1.L.length u6j, .i y34.1.Min, .i y34.1.Max]), rfl, rfl, ⟨(U4 y34.1.Set []), [.slice (Gp u13u) y34.1.L.length u6j, .i y34.1.Min, .i y34.1.Max], rfl, ⟨u6l, els_mk4 u6l⟩, ⟨[.slice (Gp u13u) y34.1.L.length u6j], [.i y34.1.Min, .i y34.1.Max], rfl, ⟨_, _, rfl, f37⟩, ⟨[.i y34.1.Min], [.i y34.1.Max], rfl, rfl, rfl⟩⟩⟩⟩) Els.nil)
   refine Op_.made (.buildSlice 26 1 #[(0, (.tmp 43))]) 44 26 (fun b => .slice (Gp (some b)) 1 1) 28 ((.i y34.1.Kind :: U4 y34.1.Set [.slice (Gp u13u) y34.1.L.length u6j, .i y34.1.Min, .i y34.1.Max]) : List Value) p10 (AnyG.vs (i := 11) (by kernel_rfl) (by kernel_rfl)) (by kernel_rfl) ?_
   intro b38 w11 z11 p11
   have p11 : Hp nz wz S10 w11 (((some b38), .row 28 ((.i y34.1.Kind :: U4 y34.1.Set [.slice (Gp u13u) y34.1.L.length u6j, .i y34.1.Min, .i y34.1.Max]) : List Value) (1 * kT27.size) 0) :: (u13u, .row 28 u13v (u6j * kT27.size) u13v.length) :: (some gx2, .row 3 [.i y34.2] 1 0) :: (some gx3, .row 28 (.i x3v.Kind :: U4 x3v.Set [.slice u96 x3v.L.length u98, .i x3v.Min, .i x3v.Max]) 8 0) :: (some gx6, .row 28 (.i x6v.Kind :: U4 x6v.Set [.slice (Gp u13k) x6v.L.length u8v, .i x6v.Min, .i x6v.Max]) 8 0) :: (u13k, .row 28 u13l (u8v * kT27.size) 0) :: (some gx7, .row 28 (.i x7v.Kind :: U4 x7v.Set [.slice (Gp u13m) x7v.L.length uby, .i x7v.Min, .i x7v.Max]) 8 0) :: (u13m, .row 28 u13n (uby * kT27.size) 0) :: Lr) := p11
   refine AnyG.next z11 ⟨(p11.c 6 5), (p11.c 3 5), trivial⟩ ?_
   refine guard_some' h fun g44 h => ?_
   refine Op_.ap_n (K := kT27) 26 (.tmp 34) (.tmp 44) 45 26 28 7 (.agg #[.i 0, .u 0, .u 0, .u 0, .u 0, .slice none 0 0, .i 0, .i 0]) 80 x7v.L.length uby 1 x7v.L [y34.1] (x7v.L ++ [y34.1]) (Gp (some b38)) 1 rfl rfl rfl p11 rfl (uf9.ext (((z8.trans z9).trans z10).trans z11)) (AnyG.vs (i := 12) (by kernel_rfl) (by kernel_rfl)) (by kernel_rfl) (by kernel_rfl) (by kernel_rfl) (by kernel_rfl) rfl (by decide) (f39.ext z11) (src_own p11 (q := 0) rfl) (by have := g44; omega) (by have := g44; omega) ?_
   intro w12 G45 c46 u13w z12 p12 f48
   refine AnyG.last [14] (Fc S10 w12 []) (by decide) ?_
   refine AnyG.pu 13 (.fieldAddr 28 (.tmp 7) 2) 46 0 ((pt gx7 5)) (Fc.here trivial) ?_
   refine Op_.st 26 (.tmp 46) (.tmp 45) 0 6 gx7 5 (.slice (Gp G45) ((x7v.L ++ [y34.1]).length) c46) [.slice (Gp G45) ((x7v.L ++ [y34.1]).length) c46] p12 rfl (AnyG.ss (i := 14) (by kernel_rfl) (by kernel_rfl)) (by kernel_rfl) (by kernel_rfl) (by kernel_rfl) (by kernel_rfl) (Nat.zero_le _) (by simp only [List.length_cons, List.length_nil]; omega) (by simp [Value.oneCell']) ?_
   intro w13 z13 p13
   have p13 : Hp nz wz S10 w13 (((some b38), .row 28 ((.i y34.1.Kind :: U4 y34.1.Set [.slice (Gp u13u) y34.1.L.length u6j, .i y34.1.Min, .i y34.1.Max]) : List Value) (1 * kT27.size) 0) :: (u13u, .row 28 u13v (u6j * kT27.size) u13v.length) :: (some gx2, .row 3 [.i y34.2] 1 0) :: (some gx3, .row 28 (.i x3v.Kind :: U4 x3v.Set [.slice u96 x3v.L.length u98, .i x3v.Min, .i x3v.Max]) 8 0) :: (some gx6, .row 28 (.i x6v.Kind :: U4 x6v.Set [.slice (Gp u13k) x6v.L.length u8v, .i x6v.Min, .i x6v.Max]) 8 0) :: (u13k, .row 28 u13l (u8v * kT27.size) 0) :: (some gx7, .row 28 (.i x7v.Kind :: U4 x7v.Set [.slice (Gp G45) ((x7v.L ++ [y34.1]).length) c46, .i x7v.Min, .i x7v.Max]) 8 0) :: (G45, .row 28 u13w (c46 * kT27.size) 0) :: Lr) := p13
   refine AnyG.last [] (Fc S10 w13 []) (by decide) ?_
   refine AnyG.done (by kernel_rfl) ?_ _
   have p13 := (p13.dp 0).dp 0
   refine Goes.rn 7 [(31, .i x8), (32, .i (wr .i64 (x8 + 1))), (8, .i (wr .i64 (x8 + 1)))] Jvg ?_
   have p13 := (((((p13.fr 0).fr 5).fr 5).fr 5).fr 5).fr 5
   exact Goes.jp 48 [(1, .i x1), (2, (pt gx2 0)), (3, (pt gx3 0)), (6, (pt gx6 0)), (7, (pt gx7 0)), (8, .i (wr .i64 (x8 + 1)))] (u13p _ _ h gx2 _ _ ((((((hx.trans z8).trans z9).trans z10).trans z11).trans z12).trans z13) gx3 u96 x3v.L.length u98 gx6 u13k x6v.L.length u8v u13l gx7 G45 ((x7v.L ++ [y34.1]).length) c46 u13w p13 u9j (u9k.ext (((((z8.trans z9).trans z10).trans z11).trans z12).trans z13)) rfl u8x (u8y.ext (((((z8.trans z9).trans z10).trans z11).trans z12).trans z13)) rfl uf8 (f48.ext z13) rfl)
  ·
   have u12r : x30 = false := by simpa using h22
   rw [u12r]
   refine Goes.rn 4 [] Jw0 ?_
   refine Goes.ldN 28 (.tmp 7) 47 28 ⟨gx7, 0, none⟩ (.i x7v.Kind :: U4 x7v.Set [.slice (Gp u13m) x7v.L.length uby, .i x7v.Min, .i x7v.Max]) (p1.pa 3 0) ?_
   refine Op_.st 28 (.tmp 6) (.tmp 47) 0 1 gx6 0 (ag (.i x7v.Kind :: U4 x7v.Set [.slice (Gp u13m) x7v.L.length uby, .i x7v.Min, .i x7v.Max])) (.i x7v.Kind :: U4 x7v.Set [.slice (Gp u13m) x7v.L.length uby, .i x7v.Min, .i x7v.Max]) p1 rfl Goes.s (by kernel_rfl) (by kernel_rfl) (by kernel_rfl) (by kernel_rfl) (Nat.zero_le _) (by simp only [List.length_cons, List.length_nil]; omega) (by simp [Value.oneCell']) ?_
   intro w14 z14 p14
   have p14 : Hp nz wz S1 w14 ((some gx3, .row 28 (.i x3v.Kind :: U4 x3v.Set [.slice u96 x3v.L.length u98, .i x3v.Min, .i x3v.Max]) 8 0) :: (some gx6, .row 28 (.i x7v.Kind :: U4 x7v.Set [.slice (Gp u13m) x7v.L.length uby, .i x7v.Min, .i x7v.Max]) 8 0) :: (u13k, .row 28 u13l (u8v * kT27.size) 0) :: (some gx7, .row 28 (.i x7v.Kind :: U4 x7v.Set [.slice (Gp u13m) x7v.L.length uby, .i x7v.Min, .i x7v.Max]) 8 0) :: (u13m, .row 28 u13n (uby * kT27.size) 0) :: (some gx2, .row 3 [.i u95] 1 0) :: Lr) := p14
   refine Goes.rn 1 [] Jvz ?_
   obtain rfl := Option.some.inj h
   have p14 := ((p14.dp 0).dp 1).dp 1
   exact Goes.ret (fn := Try.f25) (by kernel_rfl) (v := (ag (.i x7v.Kind :: U4 x7v.Set [.slice (Gp u13m) x7v.L.length uby, .i x7v.Min, .i x7v.Max]))) (results_n1 (fn := Try.f25) (a := .cell 6 28) (by kernel_rfl) (resV_cell ⟨gx6, 0, none⟩ (by kernel_rfl) (run_loadN (.i x7v.Kind :: U4 x7v.Set [.slice (Gp u13m) x7v.L.length uby, .i x7v.Min, .i x7v.Max]) (by kernel_rfl) (by kernel_rfl) (p14.pa 0 0)))) ⟨S1, u13m, x7v.L.length, uby, u13n, rfl, (hx.trans z14), p14.drop, uf8, (uf9.ext z14), rfl⟩

theorem W.z4l : ∀ a r, M.tidepolelaw12_cut a = some r → LF.z4l a r := (W.z4o).1

theorem W.z4m : ∀ a r, M.tidepolelaw12_cut_l0 a = some r → LL.z4m a r := (W.z4o).2.1

theorem W.z4n : ∀ a r, M.tidepolelaw12_cut_l1 a = some r → LL.z4n a r := (W.z4o).2.2

def Qp8 := sub [1] B12
def Jw1 : List Item := [.code Qp8]
def Qp9 := sub [0] B12
def Jw2 : List Item := .inRegion (opsOf Qp9) [0, 1, 2, 3] :: Jw1
def Qpa := sub [1, 1] B12
def Jw3 : List Item := [.code Qpa]
def Qpb := sub [1, 0] B12
def Jw4 : List Item := .inRegion (opsOf Qpb) [0, 1] :: Jw3
def Qpc := sub [1, 1, 1] B12
def Jw5 : List Item := [.code Qpc]
def Qpd := sub [1, 1, 0] B12
def Jw6 : List Item := .inRegion (opsOf Qpd) [0, 1, 2] :: Jw5
def Qpe := sub [1, 1, 1, 1] B12
def Jw7 : List Item := [.code Qpe]
def Qpf := sub [1, 1, 1, 0] B12
def Jw8 : List Item := .inRegion (opsOf Qpf) [0, 1, 2, 3, 4, 5, 6] :: Jw7
def Qpg := sub [1, 1, 1, 1, 1] B12
def Jw9 : List Item := [.code Qpg]
def Qph := sub [1, 1, 1, 1, 0] B12
def Jwa : List Item := .inRegion (opsOf Qph) [0, 1, 2, 3, 4, 5, 6, 7, 8, 9, 10, 11] :: Jw9
def Jwb : List Item := .inRegion (opsOf Qph) [5, 6, 7, 8, 9, 10, 11] :: Jw9
def Jwc : List Item := .inRegion (opsOf Qph) [9, 10, 11] :: Jw9

def Post.z4p (r : T27 × (List T88) × Bool) (v : Value) (w' : World) : Prop :=
 ∃ S' u13x u8q u8r u13y u13z u140 u141 u142 u143, v = .tuple #[(ag (.i r.1.Kind :: U4 r.1.Set [.slice (Gp u13x) u8q u8r, .i r.1.Min, .i r.1.Max])), .slice (Gp u140) u141 u142, .bool r.2.2] ∧ Ext S0 w0 S' w' ∧ Hp nz wz S' w' ((u13x, .row 28 u13y (u8r * kT27.size) u13z) :: (u140, .row 89 u143 (u142 * kT88.size) 0) :: Lr) ∧ r.1.Set.length = 4 ∧ Els kT27 S' w' u13y r.1.L ∧ r.1.L.length = u8q ∧ Els kT88 S' w' u143 r.2.1 ∧ r.2.1.length = u141

theorem W.z4p (x0 : T27) (r : T27 × (List T88) × Bool) (h : M.tidepolelaw12_some x0 = some r) {nz wz S0 w0 Lr} (u92 u93 u94) (p0 : Hp nz wz S0 w0 (Lr)) (u9e : x0.Set.length = 4) (u9f : Rd kT27 S0 w0 u92 u94 x0.L) (u9g : x0.L.length = u93) :
  Calls Try.prog 12 #[(ag (.i x0.Kind :: U4 x0.Set [.slice u92 u93 u94, .i x0.Min, .i x0.Max]))] w0 (Rets (Post.z4p nz wz S0 w0 Lr r)) := by
 subst u9g
 refine calls_of_goes (fn := Try.f12) (c := B12) (by kernel_rfl) (by kernel_rfl) 23 (by kernel_rfl) ?_
 refine Goes.jp 24 [(0, (ag (.i x0.Kind :: U4 x0.Set [.slice u92 x0.L.length u94, .i x0.Min, .i x0.Max])))] (fun junk => ?_)
 delta M.tidepolelaw12_some at h
 refine Goes.rn 2 [] Jw2 ?_
 refine Op_.box 28 (.tmp 0) 1 0 (ag (.i x0.Kind :: U4 x0.Set [.slice u92 x0.L.length u94, .i x0.Min, .i x0.Max])) (.i x0.Kind :: U4 x0.Set [.slice u92 x0.L.length u94, .i x0.Min, .i x0.Max]) p0 Goes.v (by kernel_rfl) (by kernel_rfl) ?_
 intro b1 w2 z2 p2
 refine Op_.alloc 28 2 0 (.agg #[.i 0, .u 0, .u 0, .u 0, .u 0, .slice none 0 0, .i 0, .i 0]) [.i 0, .u 0, .u 0, .u 0, .u 0, .slice none 0 0, .i 0, .i 0] p2 Goes.v (by kernel_rfl) (by kernel_rfl) ?_
 intro b3 w3 z3 p3
 refine Goes.rn 5 [(3, .slice none 0 0), (4, .bool false)] Jw4 ?_
 refine Op_.alloc 3 5 0 (.i 0) [.i 0] p3 Goes.v (by kernel_rfl) (by kernel_rfl) ?_
 intro b5 w4 z4 p4
 refine Op_.st 3 (.tmp 5) (.const (.int .i64 40)) 0 0 b5 0 (.i 40) [.i 40] p4 rfl Goes.s (by kernel_rfl) (by kernel_rfl) (by kernel_rfl) (by kernel_rfl) (Nat.zero_le _) (by simp only [List.length_cons, List.length_nil]; omega) (by simp [Value.oneCell']) ?_
 intro w5 z5 p5
 have p5 : Hp nz wz S0 w5 ((some b5, .row 3 [.i 40] 1 0) :: (some b3, .row 28 [.i 0, .u 0, .u 0, .u 0, .u 0, .slice none 0 0, .i 0, .i 0] 8 0) :: (some b1, .row 28 (.i x0.Kind :: U4 x0.Set [.slice u92 x0.L.length u94, .i x0.Min, .i x0.Max]) 8 0) :: Lr) := p5
 refine Goes.rn 3 [] Jw6 ?_
 refine Goes.ldN 28 (.tmp 1) 8 28 ⟨b1, 0, none⟩ (.i x0.Kind :: U4 x0.Set [.slice u92 x0.L.length u94, .i x0.Min, .i x0.Max]) (p5.pa 2 0) ?_
 refine bind_some' h fun y7 e8 h => ?_
 refine Goes.cal (.call { callee := .value (.func 25), args := #[(.tmp 8), (.const (.int .i64 8)), (.tmp 5)], argTypes := #[28, 3, 55] }) 9 28 25 _ (W.z4l (x0, 8, 40) y7 e8 u92 x0.L.length u94 b5 p5 u9e (u9f.ext (((z2.trans z3).trans z4).trans z5)) rfl) ?_
 rintro _ w6 ⟨S6, u144, u6y, u6z, u145, rfl, z6, p6, u70, u71, rfl⟩
 have p6 := p6.dp 1
 refine Op_.st 28 (.tmp 1) (.tmp 9) 0 2 b1 0 (ag (.i y7.1.Kind :: U4 y7.1.Set [.slice (Gp u144) y7.1.L.length u6z, .i y7.1.Min, .i y7.1.Max])) (.i y7.1.Kind :: U4 y7.1.Set [.slice (Gp u144) y7.1.L.length u6z, .i y7.1.Min, .i y7.1.Max]) p6 rfl Goes.s (by kernel_rfl) (by kernel_rfl) (by kernel_rfl) (by kernel_rfl) (Nat.zero_le _) (by simp only [List.length_cons, List.length_nil]; omega) (by simp [Value.oneCell']) ?_
 intro w7 z7 p7
 have p7 : Hp nz wz S6 w7 ((u144, .row 28 u145 (u6z * kT27.size) 0) :: (some b3, .row 28 [.i 0, .u 0, .u 0, .u 0, .u 0, .slice none 0 0, .i 0, .i 0] 8 0) :: (some b1, .row 28 (.i y7.1.Kind :: U4 y7.1.Set [.slice (Gp u144) y7.1.L.length u6z, .i y7.1.Min, .i y7.1.Max]) 8 0) :: Lr) := p7
 refine Goes.rn 3 [] Jw8 ?_
 refine Goes.ldN 28 (.tmp 1) 11 28 ⟨b1, 0, none⟩ (.i y7.1.Kind :: U4 y7.1.Set [.slice (Gp u144) y7.1.L.length u6z, .i y7.1.Min, .i y7.1.Max]) (p7.pa 2 0) ?_
 obtain ⟨S8, z8, p8, f10⟩ := p7.freezeRd 0 rfl (u71.ext z7) (by decide)
 refine bind_some' h fun y11 e12 h => ?_
 refine Goes.cal (kc 22 [11] #[28]) 12 56 22 _ (W.z2t y7.1 y11 e12 (Gp u144) y7.1.L.length u6z p8 u70 f10 rfl) ?_
 rintro _ w9 ⟨S9, u13c, u13d, u13e, u13f, rfl, z9, p9, u13g, rfl⟩
 refine Goes.rn 8 [(10, .tuple #[.slice (Gp u13c) y11.1.length u13e, .i y11.2]), (13, .slice (Gp u13c) y11.1.length u13e), (14, .i y11.2), (6, .slice (Gp u13c) y11.1.length u13e), (7, .i y11.2)] Jwa ?_
 refine Goes.ldN 28 (.tmp 1) 15 28 ⟨b1, 0, none⟩ (.i y7.1.Kind :: U4 y7.1.Set [.slice (Gp u144) y7.1.L.length u6z, .i y7.1.Min, .i y7.1.Max]) (p9.pa 3 0) ?_
 refine Goes.rn 4 [(16, .slice (Gp u13c) y11.1.length u13e), (17, .i y11.2), (18, .bool (decide (y11.2 = 0))), (19, .bool (decide (y11.2 = 0)))] Jwb ?_
 refine ite_some h (fun h14 h => ?_) (fun h14 h => ?_)
 ·
  rw [decide_eq_true h14]
  refine Goes.rn 4 [(20, .slice (Gp u13c) y11.1.length u13e), (21, .i (y11.1.length : Int)), (22, .bool (decide ((y11.1.length : Int) ≤ 150))), (23, .bool (decide ((y11.1.length : Int) ≤ 150)))] Jwc ?_
  refine Op_.st 28 (.tmp 2) (.tmp 15) 0 2 b3 0 (ag (.i y7.1.Kind :: U4 y7.1.Set [.slice (Gp u144) y7.1.L.length u6z, .i y7.1.Min, .i y7.1.Max])) (.i y7.1.Kind :: U4 y7.1.Set [.slice (Gp u144) y7.1.L.length u6z, .i y7.1.Min, .i y7.1.Max]) p9 rfl Goes.s (by kernel_rfl) (by kernel_rfl) (by kernel_rfl) (by kernel_rfl) (Nat.zero_le _) (by simp only [List.length_cons, List.length_nil]; omega) (by simp [Value.oneCell']) ?_
  intro w10 z10 p10
  have p10 : Hp nz wz S9 w10 ((u13c, .row 89 u13f (u13e * kT88.size) 0) :: (u144, .row 28 u145 (u6z * kT27.size) u145.length) :: (some b3, .row 28 (.i y7.1.Kind :: U4 y7.1.Set [.slice (Gp u144) y7.1.L.length u6z, .i y7.1.Min, .i y7.1.Max]) 8 0) :: (some b1, .row 28 (.i y7.1.Kind :: U4 y7.1.Set [.slice (Gp u144) y7.1.L.length u6z, .i y7.1.Min, .i y7.1.Max]) 8 0) :: Lr) := p10
  refine Goes.rn 3 [(3, .slice (Gp u13c) y11.1.length u13e), (4, .bool (decide ((y11.1.length : Int) ≤ 150)))] Jw9 ?_
  obtain rfl := Option.some.inj h
  have p10 := p10.dp 3
  have p10 := ((p10.fr 0).fr 1).fr 2
  exact Goes.ret (fn := Try.f12) (by kernel_rfl) (v := .tuple #[(ag (.i y7.1.Kind :: U4 y7.1.Set [.slice (Gp u144) y7.1.L.length u6z, .i y7.1.Min, .i y7.1.Max])), .slice (Gp u13c) y11.1.length u13e, .bool (decide ((y11.1.length : Int) ≤ 150))]) (results_n3 (fn := Try.f12) (a := .cell 2 28) (b := .tmp 3) (c := .tmp 4) (by kernel_rfl) (resV_cell ⟨b3, 0, none⟩ (by kernel_rfl) (run_loadN (.i y7.1.Kind :: U4 y7.1.Set [.slice (Gp u144) y7.1.L.length u6z, .i y7.1.Min, .i y7.1.Max]) (by kernel_rfl) (by kernel_rfl) (p10.pa 0 0))) (resV_tmp (by kernel_rfl)) (resV_tmp (by kernel_rfl))) ⟨S9, u144, y7.1.L.length, u6z, u145, u145.length, u13c, y11.1.length, u13e, u13f, rfl, ((((((((((Ext.refl S0 w0).trans z2).trans z3).trans z4).trans z5).trans z6).trans z7).trans z8).trans z9).trans z10), p10.drop, u70, (u71.ext (((z7.trans z8).trans z9).trans z10)), rfl, (u13g.ext z10), rfl⟩
 ·
  rw [decide_eq_false h14]
  refine Goes.rn 4 [(20, undef), (21, undef), (22, undef), (23, .bool false)] Jwc ?_
  refine Op_.st 28 (.tmp 2) (.tmp 15) 0 2 b3 0 (ag (.i y7.1.Kind :: U4 y7.1.Set [.slice (Gp u144) y7.1.L.length u6z, .i y7.1.Min, .i y7.1.Max])) (.i y7.1.Kind :: U4 y7.1.Set [.slice (Gp u144) y7.1.L.length u6z, .i y7.1.Min, .i y7.1.Max]) p9 rfl Goes.s (by kernel_rfl) (by kernel_rfl) (by kernel_rfl) (by kernel_rfl) (Nat.zero_le _) (by simp only [List.length_cons, List.length_nil]; omega) (by simp [Value.oneCell']) ?_
  intro w11 z11 p11
  have p11 : Hp nz wz S9 w11 ((u13c, .row 89 u13f (u13e * kT88.size) 0) :: (u144, .row 28 u145 (u6z * kT27.size) u145.length) :: (some b3, .row 28 (.i y7.1.Kind :: U4 y7.1.Set [.slice (Gp u144) y7.1.L.length u6z, .i y7.1.Min, .i y7.1.Max]) 8 0) :: (some b1, .row 28 (.i y7.1.Kind :: U4 y7.1.Set [.slice (Gp u144) y7.1.L.length u6z, .i y7.1.Min, .i y7.1.Max]) 8 0) :: Lr) := p11
  refine Goes.rn 3 [(3, .slice (Gp u13c) y11.1.length u13e), (4, .bool false)] Jw9 ?_
  obtain rfl := Option.some.inj h
  have p11 := p11.dp 3
  have p11 := ((p11.fr 0).fr 1).fr 2
  exact Goes.ret (fn := Try.f12) (by kernel_rfl) (v := .tuple #[(ag (.i y7.1.Kind :: U4 y7.1.Set [.slice (Gp u144) y7.1.L.length u6z, .i y7.1.Min, .i y7.1.Max])), .slice (Gp u13c) y11.1.length u13e, .bool false]) (results_n3 (fn := Try.f12) (a := .cell 2 28) (b := .tmp 3) (c := .tmp 4) (by kernel_rfl) (resV_cell ⟨b3, 0, none⟩ (by kernel_rfl) (run_loadN (.i y7.1.Kind :: U4 y7.1.Set [.slice (Gp u144) y7.1.L.length u6z, .i y7.1.Min, .i y7.1.Max]) (by kernel_rfl) (by kernel_rfl) (p11.pa 0 0))) (resV_tmp (by kernel_rfl)) (resV_tmp (by kernel_rfl))) ⟨S9, u144, y7.1.L.length, u6z, u145, u145.length, u13c, y11.1.length, u13e, u13f, rfl, ((((((((((Ext.refl S0 w0).trans z2).trans z3).trans z4).trans z5).trans z6).trans z7).trans z8).trans z9).trans z11), p11.drop, u70, (u71.ext (((z7.trans z8).trans z9).trans z11)), rfl, (u13g.ext z11), rfl⟩

def Qpi := sub [1] B51
def Jwd : List Item := [.code Qpi]
def Qpj := sub [0] B51
def Jwe : List Item := .inRegion (opsOf Qpj) [0, 1] :: Jwd
def Qpk := sub [1, 1] B51
def Jwf : List Item := [.code Qpk]
def Qpl := sub [1, 0] B51
def Jwg : List Item := .inRegion (opsOf Qpl) [2, 3, 4, 5, 6, 7, 8, 9] :: Jwf
def Jwh : List Item := .inRegion (opsOf Qpl) [6, 7, 8, 9] :: Jwf

def Post.z4q (r : Bool) (v : Value) (w' : World) : Prop :=
 ∃ S', v = .bool r ∧ Ext S0 w0 S' w' ∧ Hp nz wz S' w' (Lr)

theorem W.z4q (x0 : List Int) (x1 : Int) (r : Bool) (h : M.tidepoleref10_Has x0 x1 = some r) {nz wz S0 w0 Lr} (ug) (p0 : Hp nz wz S0 w0 (Lr)) (fx0 : Els (kInt .u64) S0 w0 ug x0) (lx0 : ug.length = 4) :
  Calls Try.prog 51 #[.agg ug.toArray, .int .u8 x1] w0 (Rets (Post.z4q nz wz S0 w0 Lr r)) := by
 refine calls_of_goes (fn := Try.f51) (c := B51) (by kernel_rfl) (by kernel_rfl) 12 (by kernel_rfl) ?_
 refine Goes.jp 14 [(0, .agg ug.toArray), (1, .int .u8 x1)] (fun junk => ?_)
 delta M.tidepoleref10_Has at h
 refine Goes.rn 2 [] Jwe ?_
 refine Op_.box 25 (.tmp 0) 2 0 (.agg ug.toArray) ug p0 Goes.v (by kernel_rfl) rfl ?_
 intro b1 w2 z2 p2
 replace p2 : Hp nz wz S0 w2 ((some b1, .row 25 ug 4 0) :: Lr) := by rw [show (ug).length = 4 from lx0] at p2; exact p2
 refine Goes.rn 6 [(4, .bool false), (5, .int .u8 x1), (6, .int .u8 (iquo .u8 x1 64))] Jwg ?_
 refine guard_some' h fun g3 h => ?_
 refine guard_some' h fun g4 h => ?_
 refine Op_.ixA_n (K := (kInt .u64)) 25 (.tmp 2) (.tmp 6) 7 0 23 4 .u8 (iquo .u8 x1 64) 0 (gi x0 (iquo .u8 x1 64)) rfl p2 rfl (fx0.ext z2) (Els.len1 (fx0.ext z2) lx0 rfl) Goes.v (by kernel_rfl) (by kernel_rfl) (by kernel_rfl) (by kernel_rfl) g3 g4 ?_
 intro _ q6 f5
 obtain rfl := q6
 refine Goes.ld 23 (.tmp 7) 8 23 ⟨b1, (iquo .u8 x1 64 : Int).toNat * (kInt .u64).size, none⟩ (.u (gi x0 (iquo .u8 x1 64))) (f5 0 _ rfl) ?_
 refine Goes.rn 2 [(9, .int .u8 x1), (10, .int .u8 (irem .u8 x1 64))] Jwh ?_
 refine guard_some' h fun g7 h => ?_
 refine Op_.binshr 23 (.tmp 8) (.tmp 10) 5 11 23 .u64 .u8 (gi x0 (iquo .u8 x1 64)) (irem .u8 x1 64) Goes.v (by kernel_rfl) (by kernel_rfl) g7 ?_
 refine Goes.rn 4 [(12, .u (irem .u64 (ishr .u64 (gi x0 (iquo .u8 x1 64)) (irem .u8 x1 64)) 2)), (13, .bool (decide (irem .u64 (ishr .u64 (gi x0 (iquo .u8 x1 64)) (irem .u8 x1 64)) 2 = 1))), (4, .bool (decide (irem .u64 (ishr .u64 (gi x0 (iquo .u8 x1 64)) (irem .u8 x1 64)) 2 = 1)))] Jwf ?_
 obtain rfl := Option.some.inj h
 have p2 := p2.dp 0
 exact Goes.rt Try.f51 (.bool (decide (irem .u64 (ishr .u64 (gi x0 (iquo .u8 x1 64)) (irem .u8 x1 64)) 2 = 1))) ⟨S0, rfl, ((Ext.refl S0 w0).trans z2), p2⟩

def Qpm := sub [1, 1, 1] B29
def Jwi : List Item := [.code Qpm]
def Jwj : List Item := .inBlock 0 :: Jwi
def Jwk : List Item := .inBlock 1 :: Jwj
def Qpn := sub [1, 1, 0, 1, 0, 1, 0, 1, 0, 0] B29
def Jwl : List Item := .inLoop Qpn :: Jwk
def Jwm : List Item := .code Qpn :: Jwl
def Qpo := sub [1, 1, 0, 1, 0, 1, 0, 1, 0, 0, 1, 1] B29
def Jwn : List Item := .code Qpo :: Jwl
def Jwo : List Item := .inBlock 2 :: Jwn
def Qpp := sub [1, 1, 0, 1, 0, 1, 0, 1, 0, 0, 1] B29
def Jwp : List Item := .code Qpp :: Jwl
def Qpq := sub [1, 1, 0, 1, 0, 1, 0, 1, 0, 0, 0, 1] B29
def Jwq : List Item := .code Qpq :: Jwp
def Qpr := sub [1, 1, 0, 1, 0, 1, 0, 1, 0, 0, 1, 0, 0] B29
def Jwr : List Item := .code Qpr :: Jwo
def Qps := sub [1, 1, 1, 1] B29
def Jws : List Item := [.code Qps]

def Post.z4r (r : List Bool) (v : Value) (w' : World) : Prop :=
 ∃ S' Aq nq cq, v = .slice Aq nq cq ∧ Ext S0 w0 S' w' ∧ Hp nz wz S' w' (Lr) ∧ Rd kBool S' w' Aq cq r ∧ r.length = nq

def L.z4s : ByteArray × (List Bool) × T27 × (List Bool) × Int → (List Bool) → Prop := fun ⟨x1, x2, x3v, x7, x8⟩ r => ∀ S1 w1, Ext S0 w0 S1 w1 → ∀ Ax2 nx2 cx2 gx3 u96 u97 u98 Gx7 nx7 cx7 uap (_ : Hp nz wz S1 w1 ((some gx3, .row 28 (.i x3v.Kind :: U4 x3v.Set [.slice u96 u97 u98, .i x3v.Min, .i x3v.Max]) 8 0) :: (Gx7, .row 4 uap (cx7 * kBool.size) 0) :: Lr)) (_ : Rd kBool S1 w1 Ax2 cx2 x2) (_ : x2.length = nx2) (_ : x3v.Set.length = 4) (_ : Rd kT27 S1 w1 u96 u98 x3v.L) (_ : x3v.L.length = u97) (_ : Els kBool S1 w1 uap x7) (_ : x7.length = nx7) (junk : Nat → Value),
 Goes Try.prog (base 29) Jwm ⟨lfr 181 [(1, .string x1), (2, .slice Ax2 nx2 cx2), (3, (pt gx3 0)), (7, .slice (Gp Gx7) nx7 cx7), (8, .i x8)] junk, []⟩ w1 (Done Try.prog 29 (Rets (Post.z4r nz wz S0 w0 Lr r)))

def L.z4t : ByteArray × (List Bool) × T27 × (List Bool) × Int → (List Bool) → Prop := fun ⟨x1, x2, x3v, x7, x8⟩ r => ∀ S1 w1, Ext S0 w0 S1 w1 → ∀ Ax2 nx2 cx2 gx3 u96 u97 u98 Gx7 nx7 cx7 uap (_ : Hp nz wz S1 w1 ((some gx3, .row 28 (.i x3v.Kind :: U4 x3v.Set [.slice u96 u97 u98, .i x3v.Min, .i x3v.Max]) 8 0) :: (Gx7, .row 4 uap (cx7 * kBool.size) 0) :: Lr)) (_ : Rd kBool S1 w1 Ax2 cx2 x2) (_ : x2.length = nx2) (_ : x3v.Set.length = 4) (_ : Rd kT27 S1 w1 u96 u98 x3v.L) (_ : x3v.L.length = u97) (_ : Els kBool S1 w1 uap x7) (_ : x7.length = nx7) (junk : Nat → Value),
 Goes Try.prog (base 29) Jwo ⟨lfr 181 [(1, .string x1), (2, .slice Ax2 nx2 cx2), (3, (pt gx3 0)), (7, .slice (Gp Gx7) nx7 cx7), (8, .i x8)] junk, []⟩ w1 (Done Try.prog 29 (Rets (Post.z4r nz wz S0 w0 Lr r)))

theorem W.z4u {nz wz S0 w0 Lr} : (∀ a r, M.tidepoleref12_Reach_l0 a = some r → (L.z4s nz wz S0 w0 Lr) a r) ∧ (∀ a r, M.tidepoleref12_Reach_l4 a = some r → (L.z4t nz wz S0 w0 Lr) a r) := by
 refine M.tidepoleref12_Reach_l0.mutual_partial_correctness (L.z4s nz wz S0 w0 Lr) (L.z4t nz wz S0 w0 Lr) ?_ ?_
 ·
  intro u146 u147 ⟨x1, x2, x3v, x7, x8⟩ r h S1 w1 hx Ax2 nx2 cx2 gx3 u96 u97 u98 Gx7 nx7 cx7 uap p1 fx2 lx2 u9j u9k u9l fx7 lx7 junk
  try dsimp only at h
  subst lx2
  subst u9l
  subst lx7
  refine Goes.rn 8 [(27, .i x8), (28, .string x1), (29, .i (x1.size : Int)), (30, .bool (decide (x8 < (x1.size : Int))))] Jwq ?_
  refine ite_some h (fun h22 h => ?_) (fun h22 h => ?_)
  ·
   rw [decide_eq_true h22]
   refine Goes.rn 4 [] Jwr ?_
   have z5 : Ext S1 w1 S1 (w1).drew := Ext.draw
   have p5 := p1.draw
   refine Goes.drawn (s := [16]) (F := Fc S1 (w1).drew [(⟨gx3, 1, none⟩, .u (gi x3v.Set 0)), (⟨gx3, 2, none⟩, .u (gi x3v.Set 1)), (⟨gx3, 3, none⟩, .u (gi x3v.Set 2)), (⟨gx3, 4, none⟩, .u (gi x3v.Set 3))]) 7 17 (by kernel_rfl) (by kernel_rfl) (by kernel_rfl) (by kernel_rfl) ?_
   generalize (w1).drew = w5 at z5 p5 ⊢
   refine AnyG.pu 0 (.move (.tmp 7)) 33 67 (.slice (Gp Gx7) x7.length cx7) (Fc.here (p5.cs [(0, 1, 4)])) ?_
   refine AnyG.pu 1 (.move (.tmp 8)) 34 3 (.i x8) (Fc.here (p5.cs [(0, 1, 4)])) ?_
   refine AnyG.pu 2 (.binOp .add 3 (.tmp 34) (.const (.int .i64 1)) 3) 35 3 (.i (wr .i64 (x8 + 1))) (Fc.here (p5.cs [(0, 1, 4)])) ?_
   refine AnyG.pu 3 (.move (.tmp 2)) 36 67 (.slice Ax2 x2.length cx2) (Fc.here (p5.cs [(0, 1, 4)])) ?_
   refine AnyG.pu 4 (.move (.tmp 8)) 37 3 (.i x8) (Fc.here (p5.cs [(0, 1, 4)])) ?_
   refine guard_some' h fun g23 h => ?_
   refine guard_some' h fun g24 h => ?_
   refine AnyG.ixR_n (i := 5) 67 (.tmp 36) (.tmp 37) 38 0 4 .i64 x8 (gi x2 x8) rfl rfl (fx2.ext z5) (by kernel_rfl) (by kernel_rfl) (Fc.here (p5.cs [(0, 1, 4)])) (by kernel_rfl) (by kernel_rfl) (by kernel_rfl) (by kernel_rfl) g23 g24 ?_
   intro a25 _ f26 q27
   obtain rfl := q27
   refine AnyG.ld1 (i := 6) 4 (.tmp 38) 39 4 a25 (.bool (gi x2 x8)) (by kernel_rfl) (by kernel_rfl) (Fc.here (p5.cs [(0, 1, 4)])) (by kernel_rfl) (by kernel_rfl) (fun _ h => f26.fc h 0 _ rfl) ?_
   refine AnyG.pu 7 (.move (.tmp 39)) 40 4 (.bool (gi x2 x8)) (Fc.here (p5.cs [(0, 1, 4)])) ?_
   refine ite_some h (fun h28 h => ?_) (fun h28 h => ?_)
   ·
    rw [h28]
    refine AnyG.pu 8 (.fieldAddr 28 (.tmp 3) 1) 41 0 ((pt gx3 1)) (Fc.here (p5.cs [(0, 1, 4)])) ?_
    refine AnyG.ldN (i := 9) 25 (.tmp 41) 42 25 ⟨gx3, 1, none⟩ (U4 x3v.Set []) (by kernel_rfl) (by kernel_rfl) (Fc.here (p5.cs [(0, 1, 4)])) (by kernel_rfl) (by kernel_rfl) (by kernel_rfl) (fun _ h j v hj => by match j, hj with | 0, rfl => exact h.2.at_ 0 rfl | 1, rfl => exact h.2.at_ 1 rfl | 2, rfl => exact h.2.at_ 2 rfl | 3, rfl => exact h.2.at_ 3 rfl | (j + 4), hj => simp at hj) ?_
    refine AnyG.pu 10 (.move (.tmp 1)) 43 9 (.string x1) (Fc.here (p5.cs [(0, 1, 4)])) ?_
    refine AnyG.pu 11 (.move (.tmp 8)) 44 3 (.i x8) (Fc.here (p5.cs [(0, 1, 4)])) ?_
    refine AnyG.ixS (i := 12) 9 (.tmp 43) (.tmp 44) 45 5 .i64 x1 x8 (by kernel_rfl) (by kernel_rfl) (Fc.here (p5.cs [(0, 1, 4)])) (by kernel_rfl) (by kernel_rfl) (by kernel_rfl) g23 h22 ?_
    refine bind_some' h fun y29 e30 h => ?_
    refine Op_.call (kc 51 [42, 45] #[25, 5]) 46 4 51 #[(ag (U4 x3v.Set [])), .int .u8 (bt x1 x8)] (AnyG.cs (i := 13) (by kernel_rfl) (by kernel_rfl)) (by kernel_rfl) (W.z4q x3v.Set (bt x1 x8) y29 e30 ((U4 x3v.Set []) : List Value) p5 (els_mk4 (S := S1) (w := w5) (k := .u64) u9j) rfl) ?_
    rintro _ w6 ⟨S6, rfl, z6, p6⟩
    refine AnyG.next z6 ⟨(p6.c 0 1), (p6.c 0 2), (p6.c 0 3), (p6.c 0 4), trivial⟩ ?_
    refine AnyG.pu 14 (.pick (.tmp 40) (.tmp 46) (.const (.bool false))) 47 4 (.bool y29) (Fc.here (p6.cs [(0, 1, 4)])) ?_
    refine guard_some' h fun g31 h => ?_
    refine guard_some' h fun g32 h => ?_
    refine AnyG.ixO_n (i := 15) 67 (.tmp 33) (.tmp 35) 48 0 4 .i64 (wr .i64 (x8 + 1)) 1 x7.length cx7 (gi x7 (wr .i64 (x8 + 1))) rfl rfl p6 rfl (fx7.ext (z5.trans z6)) (by kernel_rfl) (by kernel_rfl) (Fc.here (p6.cs [(0, 1, 4)])) (by kernel_rfl) (by kernel_rfl) (by kernel_rfl) (by kernel_rfl) (by decide) g31 g32 ?_
    rintro b33 _ rfl q35 f37 f34
    obtain rfl := q35
    refine Op_.stE_n (K := kBool) 4 (.tmp 48) (.tmp 47) 0 1 (wr .i64 (x8 + 1)) (.bool y29) [.bool y29] y29 (si x7 (wr .i64 (x8 + 1)) y29) x7.length rfl rfl p6 rfl (fx7.ext (z5.trans z6)) (AnyG.ss (i := 16) (by kernel_rfl) (by kernel_rfl)) (by kernel_rfl) (by kernel_rfl) (by kernel_rfl) rfl (by kernel_rfl) g31 g32 (Nat.zero_le _) ?_
    intro w7 u148 z7 p7 f39 l40
    refine AnyG.last [] (Fc S6 w7 []) (by decide) ?_
    refine AnyG.done (by kernel_rfl) ?_ _
    exact Goes.jp 181 [(1, .string x1), (2, .slice Ax2 x2.length cx2), (3, (pt gx3 0)), (7, .slice (Gp (some b33)) x7.length cx7), (8, .i x8)] (u147 _ _ h _ _ (((hx.trans z5).trans z6).trans z7) Ax2 x2.length cx2 gx3 u96 x3v.L.length u98 (some b33) x7.length cx7 u148 p7 (fx2.ext ((z5.trans z6).trans z7)) rfl u9j (u9k.ext ((z5.trans z6).trans z7)) rfl f39 l40)
   ·
    have u3e : (gi x2 x8) = false := by simpa using h28
    rw [u3e]
    refine AnyG.s1 8 41 (Fc.here (p5.cs [(0, 1, 4)])) ?_
    refine AnyG.s1 9 42 (Fc.here (p5.cs [(0, 1, 4)])) ?_
    refine AnyG.s1 10 43 (Fc.here (p5.cs [(0, 1, 4)])) ?_
    refine AnyG.s1 11 44 (Fc.here (p5.cs [(0, 1, 4)])) ?_
    refine AnyG.s1 12 45 (Fc.here (p5.cs [(0, 1, 4)])) ?_
    refine AnyG.s1 13 46 (Fc.here (p5.cs [(0, 1, 4)])) ?_
    refine AnyG.pu 14 (.pick (.tmp 40) (.tmp 46) (.const (.bool false))) 47 4 (.bool false) (Fc.here (p5.cs [(0, 1, 4)])) ?_
    refine guard_some' h fun g43 h => ?_
    refine guard_some' h fun g44 h => ?_
    refine AnyG.ixO_n (i := 15) 67 (.tmp 33) (.tmp 35) 48 0 4 .i64 (wr .i64 (x8 + 1)) 1 x7.length cx7 (gi x7 (wr .i64 (x8 + 1))) rfl rfl p5 rfl (fx7.ext z5) (by kernel_rfl) (by kernel_rfl) (Fc.here (p5.cs [(0, 1, 4)])) (by kernel_rfl) (by kernel_rfl) (by kernel_rfl) (by kernel_rfl) (by decide) g43 g44 ?_
    rintro b45 _ rfl q47 f49 f46
    obtain rfl := q47
    refine Op_.stE_n (K := kBool) 4 (.tmp 48) (.tmp 47) 0 1 (wr .i64 (x8 + 1)) (.bool false) [.bool false] false (si x7 (wr .i64 (x8 + 1)) false) x7.length rfl rfl p5 rfl (fx7.ext z5) (AnyG.ss (i := 16) (by kernel_rfl) (by kernel_rfl)) (by kernel_rfl) (by kernel_rfl) (by kernel_rfl) rfl (by kernel_rfl) g43 g44 (Nat.zero_le _) ?_
    intro w8 ubv z8 p8 f51 l52
    refine AnyG.last [] (Fc S1 w8 []) (by decide) ?_
    refine AnyG.done (by kernel_rfl) ?_ _
    exact Goes.jp 181 [(1, .string x1), (2, .slice Ax2 x2.length cx2), (3, (pt gx3 0)), (7, .slice (Gp (some b45)) x7.length cx7), (8, .i x8)] (u147 _ _ h _ _ ((hx.trans z5).trans z8) Ax2 x2.length cx2 gx3 u96 x3v.L.length u98 (some b45) x7.length cx7 ubv p8 (fx2.ext (z5.trans z8)) rfl u9j (u9k.ext (z5.trans z8)) rfl f51 l52)
  ·
   rw [decide_eq_false h22]
   refine Goes.rn 8 [(180, .slice (Gp Gx7) x7.length cx7), (6, .slice (Gp Gx7) x7.length cx7)] Jws ?_
   obtain ⟨S9, z9, p9, f53⟩ := p1.freezeRd 1 rfl fx7 (by decide)
   obtain rfl := Option.some.inj h
   have p9 := (p9.dp 0).dp 0
   exact Goes.rt Try.f29 (.slice (Gp Gx7) x7.length cx7) ⟨S9, (Gp Gx7), x7.length, cx7, rfl, (hx.trans z9), p9, f53, rfl⟩
 ·
  intro u149 u14a ⟨x1, x2, x3v, x7, x8⟩ r h S1 w1 hx Ax2 nx2 cx2 gx3 u96 u97 u98 Gx7 nx7 cx7 uap p1 fx2 lx2 u9j u9k u9l fx7 lx7 junk
  try dsimp only at h
  subst lx2
  subst u9l
  subst lx7
  refine Goes.rn 7 [(31, .i x8), (32, .i (wr .i64 (x8 + 1))), (8, .i (wr .i64 (x8 + 1)))] Jwm ?_
  exact Goes.jp 181 [(1, .string x1), (2, .slice Ax2 x2.length cx2), (3, (pt gx3 0)), (7, .slice (Gp Gx7) x7.length cx7), (8, .i (wr .i64 (x8 + 1)))] (u14a _ _ h _ _ hx Ax2 x2.length cx2 gx3 u96 x3v.L.length u98 Gx7 x7.length cx7 uap p1 fx2 rfl u9j u9k rfl fx7 rfl)

theorem W.z4s {nz wz S0 w0 Lr} : ∀ a r, M.tidepoleref12_Reach_l0 a = some r → (L.z4s nz wz S0 w0 Lr) a r := (W.z4u).1

theorem W.z4t {nz wz S0 w0 Lr} : ∀ a r, M.tidepoleref12_Reach_l4 a = some r → (L.z4t nz wz S0 w0 Lr) a r := (W.z4u).2

def Jwt : List Item := .inBlock 3 :: Jwj
def Qpt := sub [1, 1, 0, 1, 0, 1, 1, 1, 0, 1, 1, 0, 0] B29
def Jwu : List Item := .inLoop Qpt :: Jwt
def Jwv : List Item := .code Qpt :: Jwu
def Jww : List Item := .inBlock 5 :: Jwj
def Qpu := sub [1, 1, 0, 1, 0, 1, 1, 1, 1, 1, 0, 1, 0, 0] B29
def Jwx : List Item := .inLoop Qpu :: Jww
def Jwy : List Item := .code Qpu :: Jwx
def Qpv := sub [1, 1, 0, 1, 0, 1, 1, 1, 1, 1, 0, 1, 0, 0, 1, 1] B29
def Jwz : List Item := .code Qpv :: Jwx
def Jx0 : List Item := .inBlock 6 :: Jwz
def Jx1 : List Item := .inBlock 7 :: Jx0
def Qpw := sub [1, 1, 0, 1, 0, 1, 1, 1, 1, 1, 0, 1, 0, 0, 1, 0, 0, 1, 1, 0, 0] B29
def Jx2 : List Item := .inLoop Qpw :: Jx1
def Jx3 : List Item := .code Qpw :: Jx2
def Qpx := sub [1, 1, 0, 1, 0, 1, 1, 1, 1, 1, 0, 1, 0, 0, 1, 0, 0, 1, 1, 0, 0, 1, 1] B29
def Jx4 : List Item := .code Qpx :: Jx2
def Jx5 : List Item := .inBlock 8 :: Jx4
def Qpy := sub [1, 1, 0, 1, 0, 1, 1, 1, 1, 1, 1, 1, 0, 1, 1] B29
def Jx6 : List Item := .code Qpy :: Jwj
def Jx7 : List Item := .inBlock 9 :: Jx6
def Qpz := sub [1, 1, 0, 1, 0, 1, 1, 1, 1, 1, 1, 1, 0, 1, 0, 1, 0, 0] B29
def Jx8 : List Item := .inLoop Qpz :: Jx7
def Jx9 : List Item := .code Qpz :: Jx8
def Qq0 := sub [1, 1, 0, 1, 0, 1, 1, 1, 1, 1, 1, 1, 0, 1, 1, 1, 1, 1] B29
def Jxa : List Item := .code Qq0 :: Jwj
def Jxb : List Item := .inBlock 11 :: Jwj
def Qq1 := sub [1, 1, 0, 1, 0, 1, 1, 1, 1, 1, 1, 1, 0, 1, 1, 1, 1, 1, 1, 0, 0] B29
def Jxc : List Item := .inLoop Qq1 :: Jxb
def Jxd : List Item := .code Qq1 :: Jxc
def Qq2 := sub [1, 1, 0, 1, 0, 1, 1, 1, 1, 1, 1, 1, 0, 1, 1, 1, 1, 1, 1, 0, 0, 1, 1] B29
def Jxe : List Item := .code Qq2 :: Jxc
def Jxf : List Item := .inBlock 12 :: Jxe
def Qq3 := sub [1, 1, 0, 1, 0, 1, 1, 1, 1, 1, 1, 1, 0, 1, 1, 1, 1, 1, 1, 0, 0, 1, 0, 0, 1, 1, 1] B29
def Jxg : List Item := .code Qq3 :: Jxf
def Jxh : List Item := .inBlock 13 :: Jxg
def Qq4 := sub [1, 1, 0, 1, 0, 1, 1, 1, 1, 1, 1, 1, 0, 1, 1, 1, 1, 1, 1, 0, 0, 1, 0, 0, 1, 1, 0, 1, 0, 0] B29
def Jxi : List Item := .inLoop Qq4 :: Jxh
def Jxj : List Item := .code Qq4 :: Jxi
def Qq5 := sub [1, 1, 0, 1, 0, 1, 1, 1, 1, 1, 1, 1, 0, 1, 1, 1, 1, 1, 1, 0, 0, 1, 0, 0, 1, 1, 0, 1, 0, 0, 1, 1] B29
def Jxk : List Item := .code Qq5 :: Jxi
def Jxl : List Item := .inBlock 14 :: Jxk
def Qq6 := sub [1, 1, 0, 1, 0, 1, 1, 1, 1, 1, 1, 1, 0, 1, 1, 1, 1, 1, 1, 0, 0, 1, 0, 0, 1, 1, 0, 1, 0, 0, 1, 0, 0, 1] B29
def Jxm : List Item := .code Qq6 :: Jxl
def Qq7 := sub [1] B29
def Jxn : List Item := [.code Qq7]
def Qq8 := sub [0] B29
def Jxo : List Item := .inRegion (opsOf Qq8) [0, 1] :: Jxn
def Qq9 := sub [1, 1] B29
def Jxp : List Item := [.code Qq9]
def Qqa := sub [1, 0] B29
def Jxq : List Item := .inRegion (opsOf Qqa) [3, 4] :: Jxp
def Qqb := sub [1, 1, 0, 1] B29
def Jxr : List Item := .code Qqb :: Jwi
def Qqc := sub [1, 1, 0, 0] B29
def Jxs : List Item := .inRegion (opsOf Qqc) [1] :: Jxr
def Qqd := sub [1, 1, 0, 1, 0, 1] B29
def Jxt : List Item := .code Qqd :: Jwj
def Qqe := sub [1, 1, 0, 1, 0, 1, 1, 1] B29
def Jxu : List Item := .code Qqe :: Jwj
def Qqf := sub [1, 1, 0, 1, 0, 1, 1, 1, 1, 1] B29
def Jxv : List Item := .code Qqf :: Jwj
def Qqg := sub [1, 1, 0, 1, 0, 1, 1, 1, 1, 1, 1, 1] B29
def Jxw : List Item := .code Qqg :: Jwj
def Qqh := sub [1, 1, 0, 1, 0, 1, 1, 1, 1, 1, 1, 1, 0, 1, 0, 1, 0, 0, 1] B29
def Jxx : List Item := .code Qqh :: Jx8
def Qqi := sub [1, 1, 0, 1, 0, 1, 1, 1, 1, 1, 1, 1, 0, 1, 0, 1, 0, 0, 0, 1] B29
def Jxy : List Item := .code Qqi :: Jxx
def Qqj := sub [1, 1, 0, 1, 0, 1, 1, 1, 1, 1, 1, 1, 0, 1, 0, 1, 0, 0, 0, 0] B29
def Jxz : List Item := .inRegion (opsOf Qqj) [2, 3] :: Jxy
def Qqk := sub [1, 1, 0, 1, 0, 1, 1, 1, 1, 1, 1, 1, 0, 1, 0, 1, 0, 0, 1, 1] B29
def Jy0 : List Item := .code Qqk :: Jx8
def Jy1 : List Item := .inBlock 10 :: Jy0
def Qql := sub [1, 1, 0, 1, 0, 1, 1, 1, 1, 1, 1, 1, 0, 1, 0, 1, 0, 0, 1, 0, 0] B29
def Jy2 : List Item := .inRegion (opsOf Qql) [1, 2, 3, 4, 5, 6, 7] :: Jy1
def Jy3 : List Item := .inRegion (opsOf Qql) [6, 7] :: Jy1
def Qqm := sub [1, 1, 0, 1, 0, 1, 1, 1, 1, 1, 1, 1, 0, 1, 1, 1] B29
def Jy4 : List Item := .code Qqm :: Jwj
def Qqn := sub [1, 1, 0, 1, 0, 1, 1, 1, 1, 1, 1, 1, 0, 1, 1, 0] B29
def Jy5 : List Item := .inRegion (opsOf Qqn) [0, 1, 2, 3] :: Jy4
def Jy6 : List Item := .inRegion (opsOf Qqn) [2, 3] :: Jy4
def Qqo := sub [1, 1, 0, 1, 0, 1, 1, 1, 1, 1, 1, 1, 0, 1, 1, 1, 1] B29
def Jy7 : List Item := .code Qqo :: Jwj
def Qqp := sub [1, 1, 0, 1, 0, 1, 1, 1, 1, 1, 1, 1, 0, 1, 1, 1, 0] B29
def Jy8 : List Item := .inRegion (opsOf Qqp) [1, 2, 3, 4, 5] :: Jy7
def Jy9 : List Item := .inRegion (opsOf Qqp) [3, 4, 5] :: Jy7
def Qqq := sub [1, 1, 0, 1, 0, 1, 1, 1, 1, 1, 1, 1, 0, 1, 1, 1, 1, 0, 1] B29
def Jya : List Item := .code Qqq :: Jxa
def Qqr := sub [1, 1, 0, 1, 0, 1, 1, 1, 1, 1, 1, 1, 0, 1, 1, 1, 1, 0, 0] B29
def Jyb : List Item := .inRegion (opsOf Qqr) [1, 2] :: Jya
def Qqs := sub [1, 1, 0, 1, 0, 1, 1, 1, 1, 1, 1, 1, 0, 1, 1, 1, 1, 1, 1, 0, 0, 1] B29
def Jyc : List Item := .code Qqs :: Jxc
def Qqt := sub [1, 1, 0, 1, 0, 1, 1, 1, 1, 1, 1, 1, 0, 1, 1, 1, 1, 1, 1, 0, 0, 0, 1] B29
def Jyd : List Item := .code Qqt :: Jyc
def Qqu := sub [1, 1, 0, 1, 0, 1, 1, 1, 1, 1, 1, 1, 0, 1, 1, 1, 1, 1, 1, 0, 0, 1, 0, 0, 1] B29
def Jye : List Item := .code Qqu :: Jxf
def Qqv := sub [1, 1, 0, 1, 0, 1, 1, 1, 1, 1, 1, 1, 0, 1, 1, 1, 1, 1, 1, 0, 0, 1, 0, 0, 0] B29
def Jyf : List Item := .inRegion (opsOf Qqv) [1, 2, 3, 4, 5, 6, 7] :: Jye
def Jyg : List Item := .inRegion (opsOf Qqv) [6, 7] :: Jye
def Qqw := sub [1, 1, 0, 1, 0, 1, 1, 1, 1, 1, 1, 1, 0, 1, 1, 1, 1, 1, 1, 0, 0, 1, 0, 0, 1, 1, 0, 1, 0, 0, 1] B29
def Jyh : List Item := .code Qqw :: Jxi
def Qqx := sub [1, 1, 0, 1, 0, 1, 1, 1, 1, 1, 1, 1, 0, 1, 1, 1, 1, 1, 1, 0, 0, 1, 0, 0, 1, 1, 0, 1, 0, 0, 0, 1] B29
def Jyi : List Item := .code Qqx :: Jyh
def Qqy := sub [1, 1, 0, 1, 0, 1, 1, 1, 1, 1, 1, 1, 0, 1, 1, 1, 1, 1, 1, 0, 0, 1, 0, 0, 1, 1, 0, 1, 0, 0, 1, 0, 0, 0] B29
def Jyj : List Item := .inRegion (opsOf Qqy) [2, 3, 4, 5, 6, 7, 8, 9, 10, 11, 12, 13, 14] :: Jxm
def Jyk : List Item := .inRegion (opsOf Qqy) [4, 5, 6, 7, 8, 9, 10, 11, 12, 13, 14] :: Jxm
def Jyl : List Item := .inRegion (opsOf Qqy) [7, 8, 9, 10, 11, 12, 13, 14] :: Jxm
def Jym : List Item := .inRegion (opsOf Qqy) [9, 10, 11, 12, 13, 14] :: Jxm
def Qqz := sub [1, 1, 0, 1, 0, 1, 1, 1, 1, 1, 1, 1, 0, 1, 1, 1, 1, 1, 1, 0, 0, 1, 0, 0, 1, 1, 1, 1] B29
def Jyn : List Item := .code Qqz :: Jxf
def Jyo : List Item := .inRegion (opsOf Qq6) [4, 5, 6, 7, 8, 9, 10, 11, 12, 13] :: Jxl
def Jyp : List Item := .inRegion (opsOf Qq6) [7, 8, 9, 10, 11, 12, 13] :: Jxl
def Jyq : List Item := .inRegion (opsOf Qq6) [12, 13] :: Jxl
def Jyr : List Item := .inRegion (opsOf Qq6) [9, 10, 11, 12, 13] :: Jxl
def Qr0 := sub [1, 1, 0, 1, 0, 1, 1, 1, 1, 1, 0, 1, 0, 0, 1] B29
def Jys : List Item := .code Qr0 :: Jwx
def Qr1 := sub [1, 1, 0, 1, 0, 1, 1, 1, 1, 1, 0, 1, 0, 0, 0, 1] B29
def Jyt : List Item := .code Qr1 :: Jys
def Qr2 := sub [1, 1, 0, 1, 0, 1, 1, 1, 1, 1, 0, 1, 0, 0, 0, 0] B29
def Jyu : List Item := .inRegion (opsOf Qr2) [2, 3, 4] :: Jyt
def Qr3 := sub [1, 1, 0, 1, 0, 1, 1, 1, 1, 1, 0, 1, 0, 0, 1, 0, 0, 1] B29
def Jyv : List Item := .code Qr3 :: Jx0
def Qr4 := sub [1, 1, 0, 1, 0, 1, 1, 1, 1, 1, 0, 1, 0, 0, 1, 0, 0, 0] B29
def Jyw : List Item := .inRegion (opsOf Qr4) [1, 2, 3, 4, 5, 6, 7, 8] :: Jyv
def Jyx : List Item := .inRegion (opsOf Qr4) [3, 4, 5, 6, 7, 8] :: Jyv
def Jyy : List Item := .inRegion (opsOf Qr4) [7, 8] :: Jyv
def Qr5 := sub [1, 1, 0, 1, 0, 1, 1, 1, 1, 1, 0, 1, 0, 0, 1, 0, 0, 1, 1, 0, 0, 1] B29
def Jyz : List Item := .code Qr5 :: Jx2
def Qr6 := sub [1, 1, 0, 1, 0, 1, 1, 1, 1, 1, 0, 1, 0, 0, 1, 0, 0, 1, 1, 0, 0, 0, 1] B29
def Jz0 : List Item := .code Qr6 :: Jyz
def Qr7 := sub [1, 1, 0, 1, 0, 1, 1, 1, 1, 1, 0, 1, 0, 0, 1, 0, 0, 1, 1, 0, 0, 1, 0, 0] B29
def Jz1 : List Item := .inRegion (opsOf Qr7) [4, 5, 6, 7, 8, 9, 10, 11, 12, 13] :: Jx5
def Jz2 : List Item := .inRegion (opsOf Qr7) [7, 8, 9, 10, 11, 12, 13] :: Jx5
def Jz3 : List Item := .inRegion (opsOf Qr7) [12, 13] :: Jx5
def Jz4 : List Item := .inRegion (opsOf Qr7) [9, 10, 11, 12, 13] :: Jx5
def Qr8 := sub [1, 1, 0, 1, 0, 1, 1, 1, 0, 1, 1, 0, 0, 1] B29
def Jz5 : List Item := .code Qr8 :: Jwu
def Qr9 := sub [1, 1, 0, 1, 0, 1, 1, 1, 0, 1, 1, 0, 0, 0, 1] B29
def Jz6 : List Item := .code Qr9 :: Jz5
def Qra := sub [1, 1, 0, 1, 0, 1, 1, 1, 0, 1, 1, 0, 0, 0, 0] B29
def Jz7 : List Item := .inRegion (opsOf Qra) [2, 3, 4] :: Jz6
def Qrb := sub [1, 1, 0, 1, 0, 1, 1, 1, 0, 1, 1, 0, 0, 1, 1] B29
def Jz8 : List Item := .code Qrb :: Jwu
def Jz9 : List Item := .inBlock 4 :: Jz8
def Qrc := sub [1, 1, 0, 1, 0, 1, 1, 1, 0, 1, 1, 0, 0, 1, 0, 0] B29
def Jza : List Item := .inRegion (opsOf Qrc) [1, 2, 3, 4, 5, 6, 7, 8] :: Jz9
def Jzb : List Item := .inRegion (opsOf Qrc) [3, 4, 5, 6, 7, 8] :: Jz9
def Jzc : List Item := .inRegion (opsOf Qrc) [7, 8] :: Jz9

def LF.z4r : T27 × ByteArray × (List Bool) → (List Bool) → Prop := fun ⟨x0, x1, x2⟩ r => ∀ {nz wz S0 w0 Lr} u92 u93 u94 Ax2 nx2 cx2 (_ : Hp nz wz S0 w0 (Lr)) (_ : x0.Set.length = 4) (_ : Rd kT27 S0 w0 u92 u94 x0.L) (_ : x0.L.length = u93) (_ : Rd kBool S0 w0 Ax2 cx2 x2) (_ : x2.length = nx2),
 Calls Try.prog 29 #[(ag (.i x0.Kind :: U4 x0.Set [.slice u92 u93 u94, .i x0.Min, .i x0.Max])), .string x1, .slice Ax2 nx2 cx2] w0 (Rets (Post.z4r nz wz S0 w0 Lr r))

def L.z4v : ByteArray × T27 × (List Bool) × Int → (List Bool) → Prop := fun ⟨x1, x3v, x7, x9⟩ r => ∀ S1 w1, Ext S0 w0 S1 w1 → ∀ gx3 u96 u97 u98 Ax7 nx7 cx7 (_ : Hp nz wz S1 w1 ((some gx3, .row 28 (.i x3v.Kind :: U4 x3v.Set [.slice u96 u97 u98, .i x3v.Min, .i x3v.Max]) 8 0) :: Lr)) (_ : x3v.Set.length = 4) (_ : Rd kT27 S1 w1 u96 u98 x3v.L) (_ : x3v.L.length = u97) (_ : Rd kBool S1 w1 Ax7 cx7 x7) (_ : x7.length = nx7) (junk : Nat → Value),
 Goes Try.prog (base 29) Jwv ⟨lfr 181 [(1, .string x1), (3, (pt gx3 0)), (7, .slice Ax7 nx7 cx7), (9, .i x9)] junk, []⟩ w1 (Done Try.prog 29 (Rets (Post.z4r nz wz S0 w0 Lr r)))

def LL.z4v : ByteArray × T27 × (List Bool) × Int → (List Bool) → Prop := fun a r => ∀ {nz wz S0 w0 Lr}, L.z4v nz wz S0 w0 Lr a r

def L.z4w : ByteArray × (List Bool) × T27 × (List Bool) × Int → (List Bool) → Prop := fun ⟨x1, x2, x3v, x7, x10⟩ r => ∀ S1 w1, Ext S0 w0 S1 w1 → ∀ Ax2 nx2 cx2 gx3 u96 u97 u98 Gx7 nx7 cx7 uap (_ : Hp nz wz S1 w1 ((some gx3, .row 28 (.i x3v.Kind :: U4 x3v.Set [.slice u96 u97 u98, .i x3v.Min, .i x3v.Max]) 8 0) :: (Gx7, .row 4 uap (cx7 * kBool.size) 0) :: Lr)) (_ : Rd kBool S1 w1 Ax2 cx2 x2) (_ : x2.length = nx2) (_ : x3v.Set.length = 4) (_ : Rd kT27 S1 w1 u96 u98 x3v.L) (_ : x3v.L.length = u97) (_ : Els kBool S1 w1 uap x7) (_ : x7.length = nx7) (junk : Nat → Value),
 Goes Try.prog (base 29) Jwy ⟨lfr 181 [(1, .string x1), (2, .slice Ax2 nx2 cx2), (3, (pt gx3 0)), (7, .slice (Gp Gx7) nx7 cx7), (10, .i x10)] junk, []⟩ w1 (Done Try.prog 29 (Rets (Post.z4r nz wz S0 w0 Lr r)))

def LL.z4w : ByteArray × (List Bool) × T27 × (List Bool) × Int → (List Bool) → Prop := fun a r => ∀ {nz wz S0 w0 Lr}, L.z4w nz wz S0 w0 Lr a r

def L.z4x : ByteArray × (List Bool) × T27 × (List Bool) × Int × (List Bool) × Int → (List Bool) → Prop := fun ⟨x1, x2, x3v, x7, x10, x11, x12⟩ r => ∀ S1 w1, Ext S0 w0 S1 w1 → ∀ Ax2 nx2 cx2 gx3 u96 u97 u98 Gx7 nx7 cx7 uap u14b u14c u14d (_ : Hp nz wz S1 w1 ((some gx3, .row 28 (.i x3v.Kind :: U4 x3v.Set [.slice u96 u97 u98, .i x3v.Min, .i x3v.Max]) 8 0) :: (Gx7, .row 4 uap (cx7 * kBool.size) 0) :: Lr)) (_ : Rd kBool S1 w1 Ax2 cx2 x2) (_ : x2.length = nx2) (_ : x3v.Set.length = 4) (_ : Rd kT27 S1 w1 u96 u98 x3v.L) (_ : x3v.L.length = u97) (_ : Els kBool S1 w1 uap x7) (_ : x7.length = nx7) (_ : Rd kBool S1 w1 u14b u14d x11) (_ : x11.length = u14c) (junk : Nat → Value),
 Goes Try.prog (base 29) Jx3 ⟨lfr 181 [(1, .string x1), (2, .slice Ax2 nx2 cx2), (3, (pt gx3 0)), (7, .slice (Gp Gx7) nx7 cx7), (10, .i x10), (11, .slice u14b u14c u14d), (12, .i x12)] junk, []⟩ w1 (Done Try.prog 29 (Rets (Post.z4r nz wz S0 w0 Lr r)))

def LL.z4x : ByteArray × (List Bool) × T27 × (List Bool) × Int × (List Bool) × Int → (List Bool) → Prop := fun a r => ∀ {nz wz S0 w0 Lr}, L.z4x nz wz S0 w0 Lr a r

def L.z4y : ByteArray × (List Bool) × T27 × (List Bool) × Int × (List Bool) × Int → (List Bool) → Prop := fun ⟨x1, x2, x3v, x7, x10, x11, x12⟩ r => ∀ S1 w1, Ext S0 w0 S1 w1 → ∀ Ax2 nx2 cx2 gx3 u96 u97 u98 Gx7 nx7 cx7 uap u14b u14c u14d (_ : Hp nz wz S1 w1 ((some gx3, .row 28 (.i x3v.Kind :: U4 x3v.Set [.slice u96 u97 u98, .i x3v.Min, .i x3v.Max]) 8 0) :: (Gx7, .row 4 uap (cx7 * kBool.size) 0) :: Lr)) (_ : Rd kBool S1 w1 Ax2 cx2 x2) (_ : x2.length = nx2) (_ : x3v.Set.length = 4) (_ : Rd kT27 S1 w1 u96 u98 x3v.L) (_ : x3v.L.length = u97) (_ : Els kBool S1 w1 uap x7) (_ : x7.length = nx7) (_ : Rd kBool S1 w1 u14b u14d x11) (_ : x11.length = u14c) (junk : Nat → Value),
 Goes Try.prog (base 29) Jx5 ⟨lfr 181 [(1, .string x1), (2, .slice Ax2 nx2 cx2), (3, (pt gx3 0)), (7, .slice (Gp Gx7) nx7 cx7), (10, .i x10), (11, .slice u14b u14c u14d), (12, .i x12)] junk, []⟩ w1 (Done Try.prog 29 (Rets (Post.z4r nz wz S0 w0 Lr r)))

def LL.z4y : ByteArray × (List Bool) × T27 × (List Bool) × Int × (List Bool) × Int → (List Bool) → Prop := fun a r => ∀ {nz wz S0 w0 Lr}, L.z4y nz wz S0 w0 Lr a r

def L.z4z : ByteArray × T27 × (List Bool) × Int → (List Bool) → Prop := fun ⟨x1, x3v, x13, x14⟩ r => ∀ S1 w1, Ext S0 w0 S1 w1 → ∀ gx3 u96 u97 u98 uff ufg ufh (_ : Hp nz wz S1 w1 ((some gx3, .row 28 (.i x3v.Kind :: U4 x3v.Set [.slice u96 u97 u98, .i x3v.Min, .i x3v.Max]) 8 0) :: Lr)) (_ : x3v.Set.length = 4) (_ : Rd kT27 S1 w1 u96 u98 x3v.L) (_ : x3v.L.length = u97) (_ : Rd kBool S1 w1 uff ufh x13) (_ : x13.length = ufg) (junk : Nat → Value),
 Goes Try.prog (base 29) Jx9 ⟨lfr 181 [(1, .string x1), (3, (pt gx3 0)), (13, .slice uff ufg ufh), (14, .i x14)] junk, []⟩ w1 (Done Try.prog 29 (Rets (Post.z4r nz wz S0 w0 Lr r)))

def LL.z4z : ByteArray × T27 × (List Bool) × Int → (List Bool) → Prop := fun a r => ∀ {nz wz S0 w0 Lr}, L.z4z nz wz S0 w0 Lr a r

def L.z50 : ByteArray × T27 × (List Bool) × (List Bool) × Int → (List Bool) → Prop := fun ⟨x1, x3v, x7, x13, x15⟩ r => ∀ S1 w1, Ext S0 w0 S1 w1 → ∀ gx3 u96 u97 u98 Gx7 nx7 cx7 uap uff ufg ufh (_ : Hp nz wz S1 w1 ((some gx3, .row 28 (.i x3v.Kind :: U4 x3v.Set [.slice u96 u97 u98, .i x3v.Min, .i x3v.Max]) 8 0) :: (Gx7, .row 4 uap (cx7 * kBool.size) 0) :: Lr)) (_ : x3v.Set.length = 4) (_ : Rd kT27 S1 w1 u96 u98 x3v.L) (_ : x3v.L.length = u97) (_ : Els kBool S1 w1 uap x7) (_ : x7.length = nx7) (_ : Rd kBool S1 w1 uff ufh x13) (_ : x13.length = ufg) (junk : Nat → Value),
 Goes Try.prog (base 29) Jxa ⟨lfr 181 [(1, .string x1), (3, (pt gx3 0)), (7, .slice (Gp Gx7) nx7 cx7), (13, .slice uff ufg ufh), (15, .i x15)] junk, []⟩ w1 (Done Try.prog 29 (Rets (Post.z4r nz wz S0 w0 Lr r)))

def LL.z50 : ByteArray × T27 × (List Bool) × (List Bool) × Int → (List Bool) → Prop := fun a r => ∀ {nz wz S0 w0 Lr}, L.z50 nz wz S0 w0 Lr a r

def L.z51 : ByteArray × T27 × (List Bool) × (List Bool) × Int × Int → (List Bool) → Prop := fun ⟨x1, x3v, x7, x13, x15, x16⟩ r => ∀ S1 w1, Ext S0 w0 S1 w1 → ∀ gx3 u96 u97 u98 Gx7 nx7 cx7 uap uff ufg ufh (_ : Hp nz wz S1 w1 ((some gx3, .row 28 (.i x3v.Kind :: U4 x3v.Set [.slice u96 u97 u98, .i x3v.Min, .i x3v.Max]) 8 0) :: (Gx7, .row 4 uap (cx7 * kBool.size) 0) :: Lr)) (_ : x3v.Set.length = 4) (_ : Rd kT27 S1 w1 u96 u98 x3v.L) (_ : x3v.L.length = u97) (_ : Els kBool S1 w1 uap x7) (_ : x7.length = nx7) (_ : Rd kBool S1 w1 uff ufh x13) (_ : x13.length = ufg) (junk : Nat → Value),
 Goes Try.prog (base 29) Jxd ⟨lfr 181 [(1, .string x1), (3, (pt gx3 0)), (7, .slice (Gp Gx7) nx7 cx7), (13, .slice uff ufg ufh), (15, .i x15), (16, .i x16)] junk, []⟩ w1 (Done Try.prog 29 (Rets (Post.z4r nz wz S0 w0 Lr r)))

def LL.z51 : ByteArray × T27 × (List Bool) × (List Bool) × Int × Int → (List Bool) → Prop := fun a r => ∀ {nz wz S0 w0 Lr}, L.z51 nz wz S0 w0 Lr a r

def L.z52 : ByteArray × T27 × (List Bool) × (List Bool) × Int × Int × Bool × Int → (List Bool) → Prop := fun ⟨x1, x3v, x7, x13, x15, x16, x17, x18⟩ r => ∀ S1 w1, Ext S0 w0 S1 w1 → ∀ gx3 u96 u97 u98 Gx7 nx7 cx7 uap uff ufg ufh (_ : Hp nz wz S1 w1 ((some gx3, .row 28 (.i x3v.Kind :: U4 x3v.Set [.slice u96 u97 u98, .i x3v.Min, .i x3v.Max]) 8 0) :: (Gx7, .row 4 uap (cx7 * kBool.size) 0) :: Lr)) (_ : x3v.Set.length = 4) (_ : Rd kT27 S1 w1 u96 u98 x3v.L) (_ : x3v.L.length = u97) (_ : Els kBool S1 w1 uap x7) (_ : x7.length = nx7) (_ : Rd kBool S1 w1 uff ufh x13) (_ : x13.length = ufg) (junk : Nat → Value),
 Goes Try.prog (base 29) Jxj ⟨lfr 181 [(1, .string x1), (3, (pt gx3 0)), (7, .slice (Gp Gx7) nx7 cx7), (13, .slice uff ufg ufh), (15, .i x15), (16, .i x16), (17, .bool x17), (18, .i x18)] junk, []⟩ w1 (Done Try.prog 29 (Rets (Post.z4r nz wz S0 w0 Lr r)))

def LL.z52 : ByteArray × T27 × (List Bool) × (List Bool) × Int × Int × Bool × Int → (List Bool) → Prop := fun a r => ∀ {nz wz S0 w0 Lr}, L.z52 nz wz S0 w0 Lr a r

def L.z53 : ByteArray × T27 × (List Bool) × (List Bool) × Int × Int × Bool × Int → (List Bool) → Prop := fun ⟨x1, x3v, x7, x13, x15, x16, x17, x18⟩ r => ∀ S1 w1, Ext S0 w0 S1 w1 → ∀ gx3 u96 u97 u98 Gx7 nx7 cx7 uap uff ufg ufh (_ : Hp nz wz S1 w1 ((some gx3, .row 28 (.i x3v.Kind :: U4 x3v.Set [.slice u96 u97 u98, .i x3v.Min, .i x3v.Max]) 8 0) :: (Gx7, .row 4 uap (cx7 * kBool.size) 0) :: Lr)) (_ : x3v.Set.length = 4) (_ : Rd kT27 S1 w1 u96 u98 x3v.L) (_ : x3v.L.length = u97) (_ : Els kBool S1 w1 uap x7) (_ : x7.length = nx7) (_ : Rd kBool S1 w1 uff ufh x13) (_ : x13.length = ufg) (junk : Nat → Value),
 Goes Try.prog (base 29) Jxm ⟨lfr 181 [(1, .string x1), (3, (pt gx3 0)), (7, .slice (Gp Gx7) nx7 cx7), (13, .slice uff ufg ufh), (15, .i x15), (16, .i x16), (17, .bool x17), (18, .i x18)] junk, []⟩ w1 (Done Try.prog 29 (Rets (Post.z4r nz wz S0 w0 Lr r)))

def LL.z53 : ByteArray × T27 × (List Bool) × (List Bool) × Int × Int × Bool × Int → (List Bool) → Prop := fun a r => ∀ {nz wz S0 w0 Lr}, L.z53 nz wz S0 w0 Lr a r

def L.z54 : ByteArray × T27 × (List Bool) × (List Bool) × Int × Int × Bool × Int → (List Bool) → Prop := fun ⟨x1, x3v, x7, x13, x15, x16, x17, x18⟩ r => ∀ S1 w1, Ext S0 w0 S1 w1 → ∀ gx3 u96 u97 u98 Gx7 nx7 cx7 uap uff ufg ufh (_ : Hp nz wz S1 w1 ((some gx3, .row 28 (.i x3v.Kind :: U4 x3v.Set [.slice u96 u97 u98, .i x3v.Min, .i x3v.Max]) 8 0) :: (Gx7, .row 4 uap (cx7 * kBool.size) 0) :: Lr)) (_ : x3v.Set.length = 4) (_ : Rd kT27 S1 w1 u96 u98 x3v.L) (_ : x3v.L.length = u97) (_ : Els kBool S1 w1 uap x7) (_ : x7.length = nx7) (_ : Rd kBool S1 w1 uff ufh x13) (_ : x13.length = ufg) (junk : Nat → Value),
 Goes Try.prog (base 29) Jxl ⟨lfr 181 [(1, .string x1), (3, (pt gx3 0)), (7, .slice (Gp Gx7) nx7 cx7), (13, .slice uff ufg ufh), (15, .i x15), (16, .i x16), (17, .bool x17), (18, .i x18)] junk, []⟩ w1 (Done Try.prog 29 (Rets (Post.z4r nz wz S0 w0 Lr r)))

def LL.z54 : ByteArray × T27 × (List Bool) × (List Bool) × Int × Int × Bool × Int → (List Bool) → Prop := fun a r => ∀ {nz wz S0 w0 Lr}, L.z54 nz wz S0 w0 Lr a r

theorem W.z55 : (∀ a r, M.tidepoleref12_Reach a = some r → LF.z4r a r) ∧ (∀ a r, M.tidepoleref12_Reach_l3 a = some r → LL.z4z a r) ∧ (∀ a r, M.tidepoleref12_Reach_l6 a = some r → LL.z50 a r) ∧ (∀ a r, M.tidepoleref12_Reach_l8 a = some r → LL.z51 a r) ∧ (∀ a r, M.tidepoleref12_Reach_l9 a = some r → LL.z52 a r) ∧ (∀ a r, M.tidepoleref12_Reach_l10 a = some r → LL.z53 a r) ∧ (∀ a r, M.tidepoleref12_Reach_l11 a = some r → LL.z54 a r) ∧ (∀ a r, M.tidepoleref12_Reach_l2 a = some r → LL.z4w a r) ∧ (∀ a r, M.tidepoleref12_Reach_l5 a = some r → LL.z4x a r) ∧ (∀ a r, M.tidepoleref12_Reach_l7 a = some r → LL.z4y a r) ∧ (∀ a r, M.tidepoleref12_Reach_l1 a = some r → LL.z4v a r) := by
 refine M.tidepoleref12_Reach.mutual_partial_correctness LF.z4r LL.z4z LL.z50 LL.z51 LL.z52 LL.z53 LL.z54 LL.z4w LL.z4x LL.z4y LL.z4v ?_ ?_ ?_ ?_ ?_ ?_ ?_ ?_ ?_ ?_ ?_
 ·
  intro u14e u14f u14g u14h u14i u14j ⟨x0, x1, x2⟩ r h nz wz S0 w0 Lr u92 u93 u94 Ax2 nx2 cx2 p0 u9e u9f u9g fx2 lx2
  try dsimp only at h
  subst u9g
  subst lx2
  refine calls_of_goes (fn := Try.f29) (c := B29) (by kernel_rfl) (by kernel_rfl) 178 (by kernel_rfl) ?_
  refine Goes.jp 181 [(0, (ag (.i x0.Kind :: U4 x0.Set [.slice u92 x0.L.length u94, .i x0.Min, .i x0.Max]))), (1, .string x1), (2, .slice Ax2 x2.length cx2)] (fun junk => ?_)
  refine Goes.rn 2 [] Jxo ?_
  refine Op_.box 28 (.tmp 0) 3 0 (ag (.i x0.Kind :: U4 x0.Set [.slice u92 x0.L.length u94, .i x0.Min, .i x0.Max])) (.i x0.Kind :: U4 x0.Set [.slice u92 x0.L.length u94, .i x0.Min, .i x0.Max]) p0 Goes.v (by kernel_rfl) (by kernel_rfl) ?_
  intro b1 w2 z2 p2
  refine Goes.rn 7 [(6, .slice none 0 0), (19, .string x1), (20, .i (x1.size : Int)), (21, .i (wr .i64 ((x1.size : Int) + 1)))] Jxq ?_
  refine guard_some' h fun g3 h => ?_
  refine guard_some' h fun g4 h => ?_
  refine let_some h fun v5 e6 h => ?_
  refine Op_.mk_n (K := kBool) 67 (.tmp 21) (.tmp 21) 22 67 4 .i64 .i64 (wr .i64 ((x1.size : Int) + 1)) (wr .i64 ((x1.size : Int) + 1)) (.bool false) [.bool false] 1 (false : Bool) v5 e6 p2 Goes.v (by kernel_rfl) (by kernel_rfl) (by kernel_rfl) (by kernel_rfl) (by kernel_rfl) (fun _ _ => rfl) g3 (Int.le_refl _) (by have := g4; omega) (by have := g4; omega) ?_
  intro b7 w3 cs8 z3 p3 f9
  refine Goes.rn 6 [(7, .slice (Gp (some b7)) v5.length ((wr .i64 ((x1.size : Int) + 1) : Int).toNat)), (23, (pt b1 0))] Jxs ?_
  refine Goes.ld 3 (.tmp 23) 24 3 ⟨b1, 0, none⟩ (.i x0.Kind) (p3.c 1 0) ?_
  refine Goes.rn 7 [(26, .bool (decide (x0.Kind = 1))), (25, .bool (decide (x0.Kind = 1)))] Jxt ?_
  refine ite_some h (fun h11 h => ?_) (fun h11 h => ?_)
  ·
   rw [decide_eq_true h11]
   refine Goes.rn 7 [(8, .i 0)] Jwm ?_
   have p3 := (p3.fr 0).fr 1
   exact Goes.jp 181 [(1, .string x1), (2, .slice Ax2 x2.length cx2), (3, (pt b1 0)), (7, .slice (Gp (some b7)) v5.length ((wr .i64 ((x1.size : Int) + 1) : Int).toNat)), (8, .i 0)] (W.z4s _ _ h _ _ (((Ext.refl S0 w0).trans z2).trans z3) Ax2 x2.length cx2 b1 u92 x0.L.length u94 (some b7) v5.length ((wr .i64 ((x1.size : Int) + 1) : Int).toNat) cs8 p3 (fx2.ext (z2.trans z3)) rfl u9e (u9f.ext (z2.trans z3)) rfl f9 rfl)
  ·
   rw [decide_eq_false h11]
   refine Goes.rn 6 [(50, .bool (decide (x0.Kind = 2))), (49, .bool (decide (x0.Kind = 2)))] Jxu ?_
   refine ite_some h (fun h14 h => ?_) (fun h14 h => ?_)
   ·
    rw [decide_eq_true h14]
    refine Goes.rn 12 [(51, .slice Ax2 x2.length cx2), (7, .slice Ax2 x2.length cx2), (9, .i 0)] Jwv ?_
    have p3 := p3.dp 0
    exact Goes.jp 181 [(1, .string x1), (3, (pt b1 0)), (7, .slice Ax2 x2.length cx2), (9, .i 0)] (u14j _ _ h _ _ (((Ext.refl S0 w0).trans z2).trans z3) b1 u92 x0.L.length u94 Ax2 x2.length cx2 p3 u9e (u9f.ext (z2.trans z3)) rfl (fx2.ext (z2.trans z3)) rfl)
   ·
    rw [decide_eq_false h14]
    refine Goes.rn 6 [(68, .bool (decide (x0.Kind = 3))), (67, .bool (decide (x0.Kind = 3)))] Jxv ?_
    refine ite_some h (fun h16 h => ?_) (fun h16 h => ?_)
    ·
     rw [decide_eq_true h16]
     refine Goes.rn 7 [(10, .i 0)] Jwy ?_
     have p3 := (p3.fr 0).fr 1
     exact Goes.jp 181 [(1, .string x1), (2, .slice Ax2 x2.length cx2), (3, (pt b1 0)), (7, .slice (Gp (some b7)) v5.length ((wr .i64 ((x1.size : Int) + 1) : Int).toNat)), (10, .i 0)] (u14i _ _ h _ _ (((Ext.refl S0 w0).trans z2).trans z3) Ax2 x2.length cx2 b1 u92 x0.L.length u94 (some b7) v5.length ((wr .i64 ((x1.size : Int) + 1) : Int).toNat) cs8 p3 (fx2.ext (z2.trans z3)) rfl u9e (u9f.ext (z2.trans z3)) rfl f9 rfl)
    ·
     rw [decide_eq_false h16]
     refine Goes.rn 6 [(104, .bool (decide (x0.Kind = 4))), (103, .bool (decide (x0.Kind = 4)))] Jxw ?_
     refine ite_some h (fun h19 h => ?_) (fun h19 h => ?_)
     ·
      rw [decide_eq_true h19]
      refine Goes.rn 13 [(105, .slice Ax2 x2.length cx2), (13, .slice Ax2 x2.length cx2), (14, .i 0)] Jx9 ?_
      have p3 := p3.dp 0
      exact Goes.jp 181 [(1, .string x1), (3, (pt b1 0)), (13, .slice Ax2 x2.length cx2), (14, .i 0)] (u14h _ _ h _ _ (((Ext.refl S0 w0).trans z2).trans z3) b1 u92 x0.L.length u94 Ax2 x2.length cx2 p3 u9e (u9f.ext (z2.trans z3)) rfl (fx2.ext (z2.trans z3)) rfl)
     ·
      rw [decide_eq_false h19]
      refine Goes.rn 8 [(180, .slice (Gp (some b7)) v5.length ((wr .i64 ((x1.size : Int) + 1) : Int).toNat)), (6, .slice (Gp (some b7)) v5.length ((wr .i64 ((x1.size : Int) + 1) : Int).toNat))] Jws ?_
      obtain ⟨S4, z4, p4, f21⟩ := p3.freezeRd 0 rfl f9 (by decide)
      obtain rfl := Option.some.inj h
      have p4 := (p4.dp 0).dp 0
      exact Goes.rt Try.f29 (.slice (Gp (some b7)) v5.length ((wr .i64 ((x1.size : Int) + 1) : Int).toNat)) ⟨S4, (Gp (some b7)), v5.length, (wr .i64 ((x1.size : Int) + 1) : Int).toNat, rfl, ((((Ext.refl S0 w0).trans z2).trans z3).trans z4), p4, f21, rfl⟩
 ·
  intro u14k u14e u14l u14m u14h u14n ⟨x1, x3v, x13, x14⟩ r h nz wz S0 w0 Lr S1 w1 hx gx3 u96 u97 u98 uff ufg ufh p1 u9j u9k u9l ufk ufl junk
  try dsimp only at h
  subst u9l
  subst ufl
  refine Goes.rn 5 [(106, .i x14), (107, (pt gx3 6))] Jxz ?_
  refine Goes.ld 3 (.tmp 107) 108 3 ⟨gx3, 6, none⟩ (.i x3v.Min) (p1.c 0 6) ?_
  refine Goes.rn 2 [(109, .bool (decide (x14 < x3v.Min)))] Jxy ?_
  refine ite_some h (fun h83 h => ?_) (fun h83 h => ?_)
  ·
   rw [decide_eq_true h83]
   refine Goes.rn 6 [(112, (pt gx3 5))] Jy2 ?_
   refine Goes.ld 26 (.tmp 112) 113 26 ⟨gx3, 5, none⟩ (.slice u96 x3v.L.length u98) (p1.c 0 5) ?_
   refine guard_some' h fun g84 h => ?_
   refine Op_.ixR_n 26 (.tmp 113) (.const (.int .i64 0)) 114 0 28 .i64 0 (gi x3v.L 0) rfl rfl u9k Goes.v (by kernel_rfl) (by kernel_rfl) (by kernel_rfl) (by kernel_rfl) (by decide : (0 : Int) ≤ 0) g84 ?_
   intro a85 _ f86 q87
   have q88 := q87
   obtain ⟨_, _, rfl, rfl, ⟨_, _, rfl, ⟨l89, f90⟩, ⟨_, _, rfl, ⟨A91, c92, rfl, f93⟩, ⟨_, _, rfl, rfl, rfl⟩⟩⟩⟩ := kT27_open q88
   obtain rfl := els_lit4' f90 l89
   refine Goes.ldN 28 (.tmp 114) 115 28 a85 ([.i ((gi x3v.L 0).Kind)] ++ ((U4 ((gi x3v.L 0).Set) []) ++ ([.slice A91 (((gi x3v.L 0).L).length) c92] ++ ([.i ((gi x3v.L 0).Min)] ++ [.i ((gi x3v.L 0).Max)])))) (f86.cell) ?_
   refine Goes.rn 2 [(116, .string x1), (117, .slice uff x13.length ufh)] Jy3 ?_
   refine bind_some' h fun y94 e95 h => ?_
   refine Goes.cal (kc 29 [115, 116, 117] #[28, 9, 67]) 118 67 29 _ (u14m ((⟨(gi x3v.L 0).Kind, ((gi x3v.L 0).Set), (gi x3v.L 0).L, (gi x3v.L 0).Min, (gi x3v.L 0).Max⟩ : T27), x1, x13) y94 e95 A91 (((gi x3v.L 0).L).length) c92 uff x13.length ufh p1 l89 f93 rfl ufk rfl) ?_
   rintro _ w13 ⟨S13, u14o, u14p, u14q, rfl, z13, p13, u19, rfl⟩
   refine Goes.rn 9 [(13, .slice u14o y94.length u14q), (110, .i x14), (111, .i (wr .i64 (x14 + 1))), (14, .i (wr .i64 (x14 + 1)))] Jx9 ?_
   exact Goes.jp 181 [(1, .string x1), (3, (pt gx3 0)), (13, .slice u14o y94.length u14q), (14, .i (wr .i64 (x14 + 1)))] (u14h _ _ h _ _ (hx.trans z13) gx3 u96 x3v.L.length u98 u14o y94.length u14q p13 u9j (u9k.ext z13) rfl u19 rfl)
  ·
   rw [decide_eq_false h83]
   refine Goes.rn 4 [] Jy5 ?_
   have f97 : Els kBool S1 w1 ([] : List Value) ([] : List Bool) := by exact Els.nil
   refine Op_.made (.buildSlice 67 0 #[]) 119 67 (fun b => .slice (Gp (some b)) 0 0) 4 ([] : List Value) p1 Goes.v (by kernel_rfl) ?_
   intro b96 w14 z14 p14
   have p14 : Hp nz wz S1 w14 (((some b96), .row 4 ([] : List Value) (0 * kBool.size) 0) :: (some gx3, .row 28 (.i x3v.Kind :: U4 x3v.Set [.slice u96 x3v.L.length u98, .i x3v.Min, .i x3v.Max]) 8 0) :: Lr) := p14
   refine Goes.rn 1 [(120, .slice uff x13.length ufh)] Jy6 ?_
   obtain ⟨u14r, u14s, u14t⟩ := src_rd (ufk.ext z14)
   refine guard_some' h fun u14u h => ?_
   refine Op_.ap_n (K := kBool) 67 (.tmp 119) (.tmp 120) 121 67 4 0 (.bool false) 1 0 0 x13.length ([] : List Bool) x13 x13 uff ufh rfl rfl (List.nil_append _) p14 rfl (f97.ext z14) Goes.v (by kernel_rfl) (by kernel_rfl) (by kernel_rfl) (by kernel_rfl) rfl (by decide) u14s u14t (by have := u14u; omega) (by have := u14u; omega) ?_
   intro w15 u14v u14w u14x z15 p15 u14y
   refine Goes.rn 5 [(7, .slice (Gp u14v) x13.length u14w), (122, (pt gx3 7))] Jy8 ?_
   refine Goes.ld 3 (.tmp 122) 123 3 ⟨gx3, 7, none⟩ (.i x3v.Max) (p15.c 1 7) ?_
   refine Goes.rn 1 [(124, (pt gx3 6))] Jy9 ?_
   refine Goes.ld 3 (.tmp 124) 125 3 ⟨gx3, 6, none⟩ (.i x3v.Min) (p15.c 1 6) ?_
   refine Goes.rn 7 [(126, .i (wr .i64 (x3v.Max - x3v.Min))), (15, .i (wr .i64 (x3v.Max - x3v.Min))), (127, (pt gx3 7))] Jyb ?_
   refine Goes.ld 3 (.tmp 127) 128 3 ⟨gx3, 7, none⟩ (.i x3v.Max) (p15.c 1 7) ?_
   refine Goes.rn 2 [(129, .bool (decide (x3v.Max < 0)))] Jya ?_
   refine ite_some h (fun u14z h => ?_) (fun u14z h => ?_)
   ·
    rw [decide_eq_true u14z]
    refine Goes.rn 7 [(130, .string x1), (131, .i (x1.size : Int)), (132, .i (wr .i64 ((x1.size : Int) + 1))), (15, .i (wr .i64 ((x1.size : Int) + 1)))] Jxa ?_
    have p15 := (p15.fr 0).fr 1
    exact Goes.jp 181 [(1, .string x1), (3, (pt gx3 0)), (7, .slice (Gp u14v) x13.length u14w), (13, .slice uff x13.length ufh), (15, .i (wr .i64 ((x1.size : Int) + 1)))] (u14n _ _ h _ _ ((hx.trans z14).trans z15) gx3 u96 x3v.L.length u98 u14v x13.length u14w u14x uff x13.length ufh p15 u9j (u9k.ext (z14.trans z15)) rfl u14y rfl (ufk.ext (z14.trans z15)) rfl)
   ·
    rw [decide_eq_false u14z]
    refine Goes.rn 2 [] Jxa ?_
    have p15 := (p15.fr 0).fr 1
    exact Goes.jp 181 [(1, .string x1), (3, (pt gx3 0)), (7, .slice (Gp u14v) x13.length u14w), (13, .slice uff x13.length ufh), (15, .i (wr .i64 (x3v.Max - x3v.Min)))] (u14n _ _ h _ _ ((hx.trans z14).trans z15) gx3 u96 x3v.L.length u98 u14v x13.length u14w u14x uff x13.length ufh p15 u9j (u9k.ext (z14.trans z15)) rfl u14y rfl (ufk.ext (z14.trans z15)) rfl)
 ·
  intro u150 u151 ⟨x1, x3v, x7, x13, x15⟩ r h nz wz S0 w0 Lr S1 w1 hx gx3 u96 u97 u98 Gx7 nx7 cx7 uap uff ufg ufh p1 u9j u9k u9l fx7 lx7 ufk ufl junk
  try dsimp only at h
  subst u9l
  subst lx7
  subst ufl
  refine Goes.rn 6 [(16, .i 0)] Jxd ?_
  exact Goes.jp 181 [(1, .string x1), (3, (pt gx3 0)), (7, .slice (Gp Gx7) x7.length cx7), (13, .slice uff x13.length ufh), (15, .i x15), (16, .i 0)] (u151 _ _ h _ _ hx gx3 u96 x3v.L.length u98 Gx7 x7.length cx7 uap uff x13.length ufh p1 u9j u9k rfl fx7 rfl ufk rfl)
 ·
  intro u14k u152 u14m u153 ⟨x1, x3v, x7, x13, x15, x16⟩ r h nz wz S0 w0 Lr S1 w1 hx gx3 u96 u97 u98 Gx7 nx7 cx7 uap uff ufg ufh p1 u9j u9k u9l fx7 lx7 ufk ufl junk
  try dsimp only at h
  subst u9l
  subst lx7
  subst ufl
  refine Goes.rn 7 [(133, .i x16), (134, .i x15), (135, .bool (decide (x16 < x15)))] Jyd ?_
  refine ite_some h (fun u154 h => ?_) (fun u154 h => ?_)
  ·
   rw [decide_eq_true u154]
   refine Goes.rn 7 [(138, (pt gx3 5))] Jyf ?_
   refine Goes.ld 26 (.tmp 138) 139 26 ⟨gx3, 5, none⟩ (.slice u96 x3v.L.length u98) (p1.c 0 5) ?_
   refine guard_some' h fun u155 h => ?_
   refine Op_.ixR_n 26 (.tmp 139) (.const (.int .i64 0)) 140 0 28 .i64 0 (gi x3v.L 0) rfl rfl u9k Goes.v (by kernel_rfl) (by kernel_rfl) (by kernel_rfl) (by kernel_rfl) (by decide : (0 : Int) ≤ 0) u155 ?_
   intro u156 _ u157 u158
   have u159 := u158
   obtain ⟨_, _, rfl, rfl, ⟨_, _, rfl, ⟨u15a, u15b⟩, ⟨_, _, rfl, ⟨u15c, u15d, rfl, u15e⟩, ⟨_, _, rfl, rfl, rfl⟩⟩⟩⟩ := kT27_open u159
   obtain rfl := els_lit4' u15b u15a
   refine Goes.ldN 28 (.tmp 140) 141 28 u156 ([.i ((gi x3v.L 0).Kind)] ++ ((U4 ((gi x3v.L 0).Set) []) ++ ([.slice u15c (((gi x3v.L 0).L).length) u15d] ++ ([.i ((gi x3v.L 0).Min)] ++ [.i ((gi x3v.L 0).Max)])))) (u157.cell) ?_
   refine Goes.rn 2 [(142, .string x1), (143, .slice uff x13.length ufh)] Jyg ?_
   refine bind_some' h fun u15f u15g h => ?_
   refine Goes.cal (kc 29 [141, 142, 143] #[28, 9, 67]) 144 67 29 _ (u14m ((⟨(gi x3v.L 0).Kind, ((gi x3v.L 0).Set), (gi x3v.L 0).L, (gi x3v.L 0).Min, (gi x3v.L 0).Max⟩ : T27), x1, x13) u15f u15g u15c (((gi x3v.L 0).L).length) u15d uff x13.length ufh p1 u15a u15e rfl ufk rfl) ?_
   rintro _ w18 ⟨S18, u15h, u15i, u15j, rfl, z18, p18, u1f, rfl⟩
   refine Goes.rn 13 [(13, .slice u15h u15f.length u15j), (17, .bool false), (18, .i 0)] Jxj ?_
   exact Goes.jp 181 [(1, .string x1), (3, (pt gx3 0)), (7, .slice (Gp Gx7) x7.length cx7), (13, .slice u15h u15f.length u15j), (15, .i x15), (16, .i x16), (17, .bool false), (18, .i 0)] (u153 _ _ h _ _ (hx.trans z18) gx3 u96 x3v.L.length u98 Gx7 x7.length cx7 uap u15h u15f.length u15j p18 u9j (u9k.ext z18) rfl (fx7.ext z18) rfl u1f rfl)
  ·
   rw [decide_eq_false u154]
   refine Goes.rn 8 [(180, .slice (Gp Gx7) x7.length cx7), (6, .slice (Gp Gx7) x7.length cx7)] Jws ?_
   obtain ⟨S19, z19, p19, u15k⟩ := p1.freezeRd 1 rfl fx7 (by decide)
   obtain rfl := Option.some.inj h
   have p19 := (p19.dp 0).dp 0
   exact Goes.rt Try.f29 (.slice (Gp Gx7) x7.length cx7) ⟨S19, (Gp Gx7), x7.length, cx7, rfl, (hx.trans z19), p19, u15k, rfl⟩
 ·
  intro u150 u15l u151 u15m ⟨x1, x3v, x7, x13, x15, x16, x17, x18⟩ r h nz wz S0 w0 Lr S1 w1 hx gx3 u96 u97 u98 Gx7 nx7 cx7 uap uff ufg ufh p1 u9j u9k u9l fx7 lx7 ufk ufl junk
  try dsimp only at h
  subst u9l
  subst lx7
  subst ufl
  refine Goes.rn 8 [(145, .i x18), (146, .string x1), (147, .i (x1.size : Int)), (148, .bool (decide (x18 ≤ (x1.size : Int))))] Jyi ?_
  refine ite_some h (fun u15n h => ?_) (fun u15n h => ?_)
  ·
   rw [decide_eq_true u15n]
   refine Goes.rn 8 [(151, .bool x17), (152, .bool x17)] Jyj ?_
   refine ite_some h (fun u15o h => ?_) (fun u15o h => ?_)
   ·
    rw [u15o]
    refine Goes.rn 14 [(153, undef), (154, undef), (155, undef), (156, undef), (157, undef), (158, undef), (159, undef), (160, undef), (161, undef), (162, undef), (163, undef), (164, .bool true), (17, .bool true)] Jxm ?_
    exact Goes.jp 181 [(1, .string x1), (3, (pt gx3 0)), (7, .slice (Gp Gx7) x7.length cx7), (13, .slice uff x13.length ufh), (15, .i x15), (16, .i x16), (17, .bool true), (18, .i x18)] (u15m _ _ h _ _ hx gx3 u96 x3v.L.length u98 Gx7 x7.length cx7 uap uff x13.length ufh p1 u9j u9k rfl fx7 rfl ufk rfl)
   ·
    have u15p : x17 = false := by simpa using u15o
    rw [u15p]
    refine Goes.rn 2 [(153, .slice uff x13.length ufh), (154, .i x18)] Jyk ?_
    refine guard_some' h fun u15q h => ?_
    refine guard_some' h fun u15r h => ?_
    refine Op_.ixR_n 67 (.tmp 153) (.tmp 154) 155 0 4 .i64 x18 (gi x13 x18) rfl rfl ufk Goes.v (by kernel_rfl) (by kernel_rfl) (by kernel_rfl) (by kernel_rfl) u15q u15r ?_
    intro u15s _ u15t u15u
    obtain rfl := u15u
    refine Goes.ld 4 (.tmp 155) 156 4 u15s (.bool (gi x13 x18)) (u15t.cell 0 _ rfl) ?_
    refine Goes.rn 1 [(157, .bool (gi x13 x18))] Jyl ?_
    refine ite_some h (fun u15v h => ?_) (fun u15v h => ?_)
    ·
     rw [u15v]
     refine Goes.rn 2 [(158, .slice (Gp Gx7) x7.length cx7), (159, .i x18)] Jym ?_
     refine guard_some' h fun u15w h => ?_
     refine Op_.ixO_n 67 (.tmp 158) (.tmp 159) 160 0 4 .i64 x18 1 x7.length cx7 (gi x7 x18) rfl rfl p1 rfl fx7 Goes.v (by kernel_rfl) (by kernel_rfl) (by kernel_rfl) (by kernel_rfl) (by decide) u15q u15w ?_
     rintro u15x _ rfl u15y u15z
     obtain rfl := u15y
     refine Goes.ld 4 (.tmp 160) 161 4 ⟨u15x, (x18 : Int).toNat * kBool.size, none⟩ (.bool (gi x7 x18)) (u15z 0 _ rfl) ?_
     refine Goes.rn 5 [(162, .bool (!(gi x7 x18))), (163, .bool (!(gi x7 x18))), (164, .bool (!(gi x7 x18))), (17, .bool (!(gi x7 x18)))] Jxm ?_
     exact Goes.jp 181 [(1, .string x1), (3, (pt gx3 0)), (7, .slice (Gp (some u15x)) x7.length cx7), (13, .slice uff x13.length ufh), (15, .i x15), (16, .i x16), (17, .bool (!(gi x7 x18))), (18, .i x18)] (u15m _ _ h _ _ hx gx3 u96 x3v.L.length u98 (some u15x) x7.length cx7 uap uff x13.length ufh p1 u9j u9k rfl fx7 rfl ufk rfl)
    ·
     have u160 : (gi x13 x18) = false := by simpa using u15v
     rw [u160]
     refine Goes.rn 9 [(158, undef), (159, undef), (160, undef), (161, undef), (162, undef), (163, .bool false), (164, .bool false), (17, .bool false)] Jxm ?_
     exact Goes.jp 181 [(1, .string x1), (3, (pt gx3 0)), (7, .slice (Gp Gx7) x7.length cx7), (13, .slice uff x13.length ufh), (15, .i x15), (16, .i x16), (17, .bool false), (18, .i x18)] (u15m _ _ h _ _ hx gx3 u96 x3v.L.length u98 Gx7 x7.length cx7 uap uff x13.length ufh p1 u9j u9k rfl fx7 rfl ufk rfl)
  ·
   rw [decide_eq_false u15n]
   refine Goes.rn 7 [(178, .bool x17), (179, .bool (!x17))] Jyn ?_
   refine ite_some h (fun u161 h => ?_) (fun u161 h => ?_)
   ·
    rw [u161]
    refine Goes.rn 9 [(136, .i x16), (137, .i (wr .i64 (x16 + 1))), (16, .i (wr .i64 (x16 + 1)))] Jxd ?_
    exact Goes.jp 181 [(1, .string x1), (3, (pt gx3 0)), (7, .slice (Gp Gx7) x7.length cx7), (13, .slice uff x13.length ufh), (15, .i x15), (16, .i (wr .i64 (x16 + 1)))] (u151 _ _ h _ _ hx gx3 u96 x3v.L.length u98 Gx7 x7.length cx7 uap uff x13.length ufh p1 u9j u9k rfl fx7 rfl ufk rfl)
   ·
    have u162 : x17 = false := by simpa using u161
    rw [u162]
    refine Goes.rn 8 [(180, .slice (Gp Gx7) x7.length cx7), (6, .slice (Gp Gx7) x7.length cx7)] Jws ?_
    obtain ⟨S20, z20, p20, u163⟩ := p1.freezeRd 1 rfl fx7 (by decide)
    obtain rfl := Option.some.inj h
    have p20 := (p20.dp 0).dp 0
    exact Goes.rt Try.f29 (.slice (Gp Gx7) x7.length cx7) ⟨S20, (Gp Gx7), x7.length, cx7, rfl, (hx.trans z20), p20, u163, rfl⟩
 ·
  intro u164 u165 ⟨x1, x3v, x7, x13, x15, x16, x17, x18⟩ r h nz wz S0 w0 Lr S1 w1 hx gx3 u96 u97 u98 Gx7 nx7 cx7 uap uff ufg ufh p1 u9j u9k u9l fx7 lx7 ufk ufl junk
  try dsimp only at h
  subst u9l
  subst lx7
  subst ufl
  refine Goes.rn 5 [(165, .slice (Gp Gx7) x7.length cx7), (166, .i x18), (167, .slice (Gp Gx7) x7.length cx7), (168, .i x18)] Jyo ?_
  refine guard_some' h fun u166 h => ?_
  refine guard_some' h fun u167 h => ?_
  refine Op_.ixO_n 67 (.tmp 167) (.tmp 168) 169 0 4 .i64 x18 1 x7.length cx7 (gi x7 x18) rfl rfl p1 rfl fx7 Goes.v (by kernel_rfl) (by kernel_rfl) (by kernel_rfl) (by kernel_rfl) (by decide) u166 u167 ?_
  rintro u168 _ rfl u169 u16a
  obtain rfl := u169
  refine Goes.ld 4 (.tmp 169) 170 4 ⟨u168, (x18 : Int).toNat * kBool.size, none⟩ (.bool (gi x7 x18)) (u16a 0 _ rfl) ?_
  refine Goes.rn 1 [(171, .bool (gi x7 x18))] Jyp ?_
  refine ite_some h (fun u16b h => ?_) (fun u16b h => ?_)
  ·
   rw [u16b]
   refine Goes.rn 5 [(172, undef), (173, undef), (174, undef), (175, undef), (176, .bool true)] Jyq ?_
   refine Op_.ixO_n 67 (.tmp 165) (.tmp 166) 177 0 4 .i64 x18 1 x7.length cx7 (gi x7 x18) rfl rfl p1 rfl fx7 Goes.v (by kernel_rfl) (by kernel_rfl) (by kernel_rfl) (by kernel_rfl) (by decide) u166 u167 ?_
   rintro u16c _ u16d u16e u16f
   injection u16d with u16g; subst u16g
   obtain rfl := u16e
   refine Op_.stE_n (K := kBool) 4 (.tmp 177) (.tmp 176) 0 1 x18 (.bool true) [.bool true] true (si x7 x18 true) x7.length rfl rfl p1 rfl fx7 Goes.s (by kernel_rfl) (by kernel_rfl) (by kernel_rfl) rfl (by kernel_rfl) u166 u167 (Nat.zero_le _) ?_
   intro w21 u16h z21 p21 u16i u16j
   refine Goes.rn 1 [] Jxl ?_
   exact Goes.jp 181 [(1, .string x1), (3, (pt gx3 0)), (7, .slice (Gp (some u168)) x7.length cx7), (13, .slice uff x13.length ufh), (15, .i x15), (16, .i x16), (17, .bool x17), (18, .i x18)] (u165 _ _ h _ _ (hx.trans z21) gx3 u96 x3v.L.length u98 (some u168) x7.length cx7 u16h uff x13.length ufh p21 u9j (u9k.ext z21) rfl u16i u16j (ufk.ext z21) rfl)
  ·
   have u16k : (gi x7 x18) = false := by simpa using u16b
   rw [u16k]
   refine Goes.rn 2 [(172, .slice uff x13.length ufh), (173, .i x18)] Jyr ?_
   refine guard_some' h fun u16l h => ?_
   refine Op_.ixR_n 67 (.tmp 172) (.tmp 173) 174 0 4 .i64 x18 (gi x13 x18) rfl rfl ufk Goes.v (by kernel_rfl) (by kernel_rfl) (by kernel_rfl) (by kernel_rfl) u166 u16l ?_
   intro u16m _ u16n u16o
   obtain rfl := u16o
   refine Goes.ld 4 (.tmp 174) 175 4 u16m (.bool (gi x13 x18)) (u16n.cell 0 _ rfl) ?_
   refine Goes.rn 1 [(176, .bool (gi x13 x18))] Jyq ?_
   refine Op_.ixO_n 67 (.tmp 165) (.tmp 166) 177 0 4 .i64 x18 1 x7.length cx7 (gi x7 x18) rfl rfl p1 rfl fx7 Goes.v (by kernel_rfl) (by kernel_rfl) (by kernel_rfl) (by kernel_rfl) (by decide) u166 u167 ?_
   rintro u16p _ u16q u16r u16s
   injection u16q with u16t; subst u16t
   obtain rfl := u16r
   refine Op_.stE_n (K := kBool) 4 (.tmp 177) (.tmp 176) 0 1 x18 (.bool (gi x13 x18)) [.bool (gi x13 x18)] (gi x13 x18) (si x7 x18 (gi x13 x18)) x7.length rfl rfl p1 rfl fx7 Goes.s (by kernel_rfl) (by kernel_rfl) (by kernel_rfl) rfl (by kernel_rfl) u166 u167 (Nat.zero_le _) ?_
   intro w22 u16u z22 p22 u16v u16w
   refine Goes.rn 1 [] Jxl ?_
   exact Goes.jp 181 [(1, .string x1), (3, (pt gx3 0)), (7, .slice (Gp (some u168)) x7.length cx7), (13, .slice uff x13.length ufh), (15, .i x15), (16, .i x16), (17, .bool x17), (18, .i x18)] (u165 _ _ h _ _ (hx.trans z22) gx3 u96 x3v.L.length u98 (some u168) x7.length cx7 u16u uff x13.length ufh p22 u9j (u9k.ext z22) rfl u16v u16w (ufk.ext z22) rfl)
 ·
  intro u152 u153 ⟨x1, x3v, x7, x13, x15, x16, x17, x18⟩ r h nz wz S0 w0 Lr S1 w1 hx gx3 u96 u97 u98 Gx7 nx7 cx7 uap uff ufg ufh p1 u9j u9k u9l fx7 lx7 ufk ufl junk
  try dsimp only at h
  subst u9l
  subst lx7
  subst ufl
  refine Goes.rn 7 [(149, .i x18), (150, .i (wr .i64 (x18 + 1))), (18, .i (wr .i64 (x18 + 1)))] Jxj ?_
  exact Goes.jp 181 [(1, .string x1), (3, (pt gx3 0)), (7, .slice (Gp Gx7) x7.length cx7), (13, .slice uff x13.length ufh), (15, .i x15), (16, .i x16), (17, .bool x17), (18, .i (wr .i64 (x18 + 1)))] (u153 _ _ h _ _ hx gx3 u96 x3v.L.length u98 Gx7 x7.length cx7 uap uff x13.length ufh p1 u9j u9k rfl fx7 rfl ufk rfl)
 ·
  intro u14k u16x u14m u16y ⟨x1, x2, x3v, x7, x10⟩ r h nz wz S0 w0 Lr S1 w1 hx Ax2 nx2 cx2 gx3 u96 u97 u98 Gx7 nx7 cx7 uap p1 fx2 lx2 u9j u9k u9l fx7 lx7 junk
  try dsimp only at h
  subst lx2
  subst u9l
  subst lx7
  refine Goes.rn 5 [(69, .i x10), (70, (pt gx3 5))] Jyu ?_
  refine Goes.ld 26 (.tmp 70) 71 26 ⟨gx3, 5, none⟩ (.slice u96 x3v.L.length u98) (p1.c 0 5) ?_
  refine Goes.rn 3 [(72, .i (x3v.L.length : Int)), (73, .bool (decide (x10 < (x3v.L.length : Int))))] Jyt ?_
  refine ite_some h (fun h67 h => ?_) (fun h67 h => ?_)
  ·
   rw [decide_eq_true h67]
   refine Goes.rn 7 [(76, (pt gx3 5))] Jyw ?_
   refine Goes.ld 26 (.tmp 76) 77 26 ⟨gx3, 5, none⟩ (.slice u96 x3v.L.length u98) (p1.c 0 5) ?_
   refine Goes.rn 1 [(78, .i x10)] Jyx ?_
   refine guard_some' h fun g68 h => ?_
   refine Op_.ixR_n 26 (.tmp 77) (.tmp 78) 79 0 28 .i64 x10 (gi x3v.L x10) rfl rfl u9k Goes.v (by kernel_rfl) (by kernel_rfl) (by kernel_rfl) (by kernel_rfl) g68 h67 ?_
   intro a69 _ f70 q71
   have q72 := q71
   obtain ⟨_, _, rfl, rfl, ⟨_, _, rfl, ⟨l73, f74⟩, ⟨_, _, rfl, ⟨A75, c76, rfl, f77⟩, ⟨_, _, rfl, rfl, rfl⟩⟩⟩⟩ := kT27_open q72
   obtain rfl := els_lit4' f74 l73
   refine Goes.ldN 28 (.tmp 79) 80 28 a69 ([.i ((gi x3v.L x10).Kind)] ++ ((U4 ((gi x3v.L x10).Set) []) ++ ([.slice A75 (((gi x3v.L x10).L).length) c76] ++ ([.i ((gi x3v.L x10).Min)] ++ [.i ((gi x3v.L x10).Max)])))) (f70.cell) ?_
   refine Goes.rn 2 [(81, .string x1), (82, .slice Ax2 x2.length cx2)] Jyy ?_
   refine bind_some' h fun y78 e79 h => ?_
   refine Goes.cal (kc 29 [80, 81, 82] #[28, 9, 67]) 83 67 29 _ (u14m ((⟨(gi x3v.L x10).Kind, ((gi x3v.L x10).Set), (gi x3v.L x10).L, (gi x3v.L x10).Min, (gi x3v.L x10).Max⟩ : T27), x1, x2) y78 e79 A75 (((gi x3v.L x10).L).length) c76 Ax2 x2.length cx2 p1 l73 f77 rfl fx2 rfl) ?_
   rintro _ w11 ⟨S11, u16z, u170, u171, rfl, z11, p11, u7y, rfl⟩
   refine Goes.rn 8 [(11, .slice u16z y78.length u171), (12, .i 0)] Jx3 ?_
   exact Goes.jp 181 [(1, .string x1), (2, .slice Ax2 x2.length cx2), (3, (pt gx3 0)), (7, .slice (Gp Gx7) x7.length cx7), (10, .i x10), (11, .slice u16z y78.length u171), (12, .i 0)] (u16y _ _ h _ _ (hx.trans z11) Ax2 x2.length cx2 gx3 u96 x3v.L.length u98 Gx7 x7.length cx7 uap u16z y78.length u171 p11 (fx2.ext z11) rfl u9j (u9k.ext z11) rfl (fx7.ext z11) rfl u7y rfl)
  ·
   rw [decide_eq_false h67]
   refine Goes.rn 8 [(180, .slice (Gp Gx7) x7.length cx7), (6, .slice (Gp Gx7) x7.length cx7)] Jws ?_
   obtain ⟨S12, z12, p12, f82⟩ := p1.freezeRd 1 rfl fx7 (by decide)
   obtain rfl := Option.some.inj h
   have p12 := (p12.dp 0).dp 0
   exact Goes.rt Try.f29 (.slice (Gp Gx7) x7.length cx7) ⟨S12, (Gp Gx7), x7.length, cx7, rfl, (hx.trans z12), p12, f82, rfl⟩
 ·
  intro u14f u172 u14i u173 ⟨x1, x2, x3v, x7, x10, x11, x12⟩ r h nz wz S0 w0 Lr S1 w1 hx Ax2 nx2 cx2 gx3 u96 u97 u98 Gx7 nx7 cx7 uap u14b u14c u14d p1 fx2 lx2 u9j u9k u9l fx7 lx7 u174 u175 junk
  try dsimp only at h
  subst lx2
  subst u9l
  subst lx7
  subst u175
  refine Goes.rn 8 [(84, .i x12), (85, .string x1), (86, .i (x1.size : Int)), (87, .bool (decide (x12 ≤ (x1.size : Int))))] Jz0 ?_
  refine ite_some h (fun u176 h => ?_) (fun u176 h => ?_)
  ·
   rw [decide_eq_true u176]
   refine Goes.rn 9 [(90, .slice (Gp Gx7) x7.length cx7), (91, .i x12), (92, .slice (Gp Gx7) x7.length cx7), (93, .i x12)] Jz1 ?_
   refine guard_some' h fun u177 h => ?_
   refine guard_some' h fun u178 h => ?_
   refine Op_.ixO_n 67 (.tmp 92) (.tmp 93) 94 0 4 .i64 x12 1 x7.length cx7 (gi x7 x12) rfl rfl p1 rfl fx7 Goes.v (by kernel_rfl) (by kernel_rfl) (by kernel_rfl) (by kernel_rfl) (by decide) u177 u178 ?_
   rintro u179 _ rfl u17a u17b
   obtain rfl := u17a
   refine Goes.ld 4 (.tmp 94) 95 4 ⟨u179, (x12 : Int).toNat * kBool.size, none⟩ (.bool (gi x7 x12)) (u17b 0 _ rfl) ?_
   refine Goes.rn 1 [(96, .bool (gi x7 x12))] Jz2 ?_
   refine ite_some h (fun u17c h => ?_) (fun u17c h => ?_)
   ·
    rw [u17c]
    refine Goes.rn 5 [(97, undef), (98, undef), (99, undef), (100, undef), (101, .bool true)] Jz3 ?_
    refine Op_.ixO_n 67 (.tmp 90) (.tmp 91) 102 0 4 .i64 x12 1 x7.length cx7 (gi x7 x12) rfl rfl p1 rfl fx7 Goes.v (by kernel_rfl) (by kernel_rfl) (by kernel_rfl) (by kernel_rfl) (by decide) u177 u178 ?_
    rintro u17d _ u17e u17f u17g
    injection u17e with u17h; subst u17h
    obtain rfl := u17f
    refine Op_.stE_n (K := kBool) 4 (.tmp 102) (.tmp 101) 0 1 x12 (.bool true) [.bool true] true (si x7 x12 true) x7.length rfl rfl p1 rfl fx7 Goes.s (by kernel_rfl) (by kernel_rfl) (by kernel_rfl) rfl (by kernel_rfl) u177 u178 (Nat.zero_le _) ?_
    intro w16 u17i z16 p16 u17j u17k
    refine Goes.rn 1 [] Jx5 ?_
    exact Goes.jp 181 [(1, .string x1), (2, .slice Ax2 x2.length cx2), (3, (pt gx3 0)), (7, .slice (Gp (some u179)) x7.length cx7), (10, .i x10), (11, .slice u14b x11.length u14d), (12, .i x12)] (u173 _ _ h _ _ (hx.trans z16) Ax2 x2.length cx2 gx3 u96 x3v.L.length u98 (some u179) x7.length cx7 u17i u14b x11.length u14d p16 (fx2.ext z16) rfl u9j (u9k.ext z16) rfl u17j u17k (u174.ext z16) rfl)
   ·
    have u17l : (gi x7 x12) = false := by simpa using u17c
    rw [u17l]
    refine Goes.rn 2 [(97, .slice u14b x11.length u14d), (98, .i x12)] Jz4 ?_
    refine guard_some' h fun u17m h => ?_
    refine Op_.ixR_n 67 (.tmp 97) (.tmp 98) 99 0 4 .i64 x12 (gi x11 x12) rfl rfl u174 Goes.v (by kernel_rfl) (by kernel_rfl) (by kernel_rfl) (by kernel_rfl) u177 u17m ?_
    intro u17n _ u17o u17p
    obtain rfl := u17p
    refine Goes.ld 4 (.tmp 99) 100 4 u17n (.bool (gi x11 x12)) (u17o.cell 0 _ rfl) ?_
    refine Goes.rn 1 [(101, .bool (gi x11 x12))] Jz3 ?_
    refine Op_.ixO_n 67 (.tmp 90) (.tmp 91) 102 0 4 .i64 x12 1 x7.length cx7 (gi x7 x12) rfl rfl p1 rfl fx7 Goes.v (by kernel_rfl) (by kernel_rfl) (by kernel_rfl) (by kernel_rfl) (by decide) u177 u178 ?_
    rintro u17q _ u17r u17s u17t
    injection u17r with u17u; subst u17u
    obtain rfl := u17s
    refine Op_.stE_n (K := kBool) 4 (.tmp 102) (.tmp 101) 0 1 x12 (.bool (gi x11 x12)) [.bool (gi x11 x12)] (gi x11 x12) (si x7 x12 (gi x11 x12)) x7.length rfl rfl p1 rfl fx7 Goes.s (by kernel_rfl) (by kernel_rfl) (by kernel_rfl) rfl (by kernel_rfl) u177 u178 (Nat.zero_le _) ?_
    intro w17 u17v z17 p17 u17w u17x
    refine Goes.rn 1 [] Jx5 ?_
    exact Goes.jp 181 [(1, .string x1), (2, .slice Ax2 x2.length cx2), (3, (pt gx3 0)), (7, .slice (Gp (some u179)) x7.length cx7), (10, .i x10), (11, .slice u14b x11.length u14d), (12, .i x12)] (u173 _ _ h _ _ (hx.trans z17) Ax2 x2.length cx2 gx3 u96 x3v.L.length u98 (some u179) x7.length cx7 u17v u14b x11.length u14d p17 (fx2.ext z17) rfl u9j (u9k.ext z17) rfl u17w u17x (u174.ext z17) rfl)
  ·
   rw [decide_eq_false u176]
   refine Goes.rn 9 [(74, .i x10), (75, .i (wr .i64 (x10 + 1))), (10, .i (wr .i64 (x10 + 1)))] Jwy ?_
   exact Goes.jp 181 [(1, .string x1), (2, .slice Ax2 x2.length cx2), (3, (pt gx3 0)), (7, .slice (Gp Gx7) x7.length cx7), (10, .i (wr .i64 (x10 + 1)))] (u14i _ _ h _ _ hx Ax2 x2.length cx2 gx3 u96 x3v.L.length u98 Gx7 x7.length cx7 uap p1 fx2 rfl u9j u9k rfl fx7 rfl)
 ·
  intro u16x u16y ⟨x1, x2, x3v, x7, x10, x11, x12⟩ r h nz wz S0 w0 Lr S1 w1 hx Ax2 nx2 cx2 gx3 u96 u97 u98 Gx7 nx7 cx7 uap u14b u14c u14d p1 fx2 lx2 u9j u9k u9l fx7 lx7 u174 u175 junk
  try dsimp only at h
  subst lx2
  subst u9l
  subst lx7
  subst u175
  refine Goes.rn 7 [(88, .i x12), (89, .i (wr .i64 (x12 + 1))), (12, .i (wr .i64 (x12 + 1)))] Jx3 ?_
  exact Goes.jp 181 [(1, .string x1), (2, .slice Ax2 x2.length cx2), (3, (pt gx3 0)), (7, .slice (Gp Gx7) x7.length cx7), (10, .i x10), (11, .slice u14b x11.length u14d), (12, .i (wr .i64 (x12 + 1)))] (u16y _ _ h _ _ hx Ax2 x2.length cx2 gx3 u96 x3v.L.length u98 Gx7 x7.length cx7 uap u14b x11.length u14d p1 fx2 rfl u9j u9k rfl fx7 rfl u174 rfl)
 ·
  intro u14k u14g u14m u14j ⟨x1, x3v, x7, x9⟩ r h nz wz S0 w0 Lr S1 w1 hx gx3 u96 u97 u98 Ax7 nx7 cx7 p1 u9j u9k u9l fx7 lx7 junk
  try dsimp only at h
  subst u9l
  subst lx7
  refine Goes.rn 5 [(52, .i x9), (53, (pt gx3 5))] Jz7 ?_
  refine Goes.ld 26 (.tmp 53) 54 26 ⟨gx3, 5, none⟩ (.slice u96 x3v.L.length u98) (p1.c 0 5) ?_
  refine Goes.rn 3 [(55, .i (x3v.L.length : Int)), (56, .bool (decide (x9 < (x3v.L.length : Int))))] Jz6 ?_
  refine ite_some h (fun h54 h => ?_) (fun h54 h => ?_)
  ·
   rw [decide_eq_true h54]
   refine Goes.rn 6 [(59, (pt gx3 5))] Jza ?_
   refine Goes.ld 26 (.tmp 59) 60 26 ⟨gx3, 5, none⟩ (.slice u96 x3v.L.length u98) (p1.c 0 5) ?_
   refine Goes.rn 1 [(61, .i x9)] Jzb ?_
   refine guard_some' h fun g55 h => ?_
   refine Op_.ixR_n 26 (.tmp 60) (.tmp 61) 62 0 28 .i64 x9 (gi x3v.L x9) rfl rfl u9k Goes.v (by kernel_rfl) (by kernel_rfl) (by kernel_rfl) (by kernel_rfl) g55 h54 ?_
   intro a56 _ f57 q58
   have q59 := q58
   obtain ⟨_, _, rfl, rfl, ⟨_, _, rfl, ⟨l60, f61⟩, ⟨_, _, rfl, ⟨A62, c63, rfl, f64⟩, ⟨_, _, rfl, rfl, rfl⟩⟩⟩⟩ := kT27_open q59
   obtain rfl := els_lit4' f61 l60
   refine Goes.ldN 28 (.tmp 62) 63 28 a56 ([.i ((gi x3v.L x9).Kind)] ++ ((U4 ((gi x3v.L x9).Set) []) ++ ([.slice A62 (((gi x3v.L x9).L).length) c63] ++ ([.i ((gi x3v.L x9).Min)] ++ [.i ((gi x3v.L x9).Max)])))) (f57.cell) ?_
   refine Goes.rn 2 [(64, .string x1), (65, .slice Ax7 x7.length cx7)] Jzc ?_
   refine bind_some' h fun y65 e66 h => ?_
   refine Goes.cal (kc 29 [63, 64, 65] #[28, 9, 67]) 66 67 29 _ (u14m ((⟨(gi x3v.L x9).Kind, ((gi x3v.L x9).Set), (gi x3v.L x9).L, (gi x3v.L x9).Min, (gi x3v.L x9).Max⟩ : T27), x1, x7) y65 e66 A62 (((gi x3v.L x9).L).length) c63 Ax7 x7.length cx7 p1 l60 f64 rfl fx7 rfl) ?_
   rintro _ w10 ⟨S10, u17y, u17z, u180, rfl, z10, p10, u16, rfl⟩
   refine Goes.rn 9 [(7, .slice u17y y65.length u180), (57, .i x9), (58, .i (wr .i64 (x9 + 1))), (9, .i (wr .i64 (x9 + 1)))] Jwv ?_
   exact Goes.jp 181 [(1, .string x1), (3, (pt gx3 0)), (7, .slice u17y y65.length u180), (9, .i (wr .i64 (x9 + 1)))] (u14j _ _ h _ _ (hx.trans z10) gx3 u96 x3v.L.length u98 u17y y65.length u180 p10 u9j (u9k.ext z10) rfl u16 rfl)
  ·
   rw [decide_eq_false h54]
   refine Goes.rn 8 [(180, .slice Ax7 x7.length cx7), (6, .slice Ax7 x7.length cx7)] Jws ?_
   obtain rfl := Option.some.inj h
   have p1 := p1.dp 0
   exact Goes.rt Try.f29 (.slice Ax7 x7.length cx7) ⟨S1, Ax7, x7.length, cx7, rfl, hx, p1, fx7, rfl⟩

theorem W.z4r : ∀ a r, M.tidepoleref12_Reach a = some r → LF.z4r a r := (W.z55).1

theorem W.z4z : ∀ a r, M.tidepoleref12_Reach_l3 a = some r → LL.z4z a r := (W.z55).2.1

theorem W.z50 : ∀ a r, M.tidepoleref12_Reach_l6 a = some r → LL.z50 a r := (W.z55).2.2.1

theorem W.z51 : ∀ a r, M.tidepoleref12_Reach_l8 a = some r → LL.z51 a r := (W.z55).2.2.2.1

theorem W.z52 : ∀ a r, M.tidepoleref12_Reach_l9 a = some r → LL.z52 a r := (W.z55).2.2.2.2.1

theorem W.z53 : ∀ a r, M.tidepoleref12_Reach_l10 a = some r → LL.z53 a r := (W.z55).2.2.2.2.2.1

theorem W.z54 : ∀ a r, M.tidepoleref12_Reach_l11 a = some r → LL.z54 a r := (W.z55).2.2.2.2.2.2.1

theorem W.z4w : ∀ a r, M.tidepoleref12_Reach_l2 a = some r → LL.z4w a r := (W.z55).2.2.2.2.2.2.2.1

theorem W.z4x : ∀ a r, M.tidepoleref12_Reach_l5 a = some r → LL.z4x a r := (W.z55).2.2.2.2.2.2.2.2.1

theorem W.z4y : ∀ a r, M.tidepoleref12_Reach_l7 a = some r → LL.z4y a r := (W.z55).2.2.2.2.2.2.2.2.2.1

theorem W.z4v : ∀ a r, M.tidepoleref12_Reach_l1 a = some r → LL.z4v a r := (W.z55).2.2.2.2.2.2.2.2.2.2

def Qrd := sub [1] B14
def Jzd : List Item := [.code Qrd]
def Qre := sub [0] B14
def Jze : List Item := .inRegion (opsOf Qre) [0, 1] :: Jzd
def Qrf := sub [1, 1] B14
def Jzf : List Item := [.code Qrf]
def Qrg := sub [1, 0] B14
def Jzg : List Item := .inRegion (opsOf Qrg) [3, 4] :: Jzf
def Qrh := sub [1, 1, 1] B14
def Jzh : List Item := [.code Qrh]
def Qri := sub [1, 1, 0] B14
def Jzi : List Item := .inRegion (opsOf Qri) [1, 2] :: Jzh
def Qrj := sub [1, 1, 1, 1] B14
def Jzj : List Item := [.code Qrj]
def Qrk := sub [1, 1, 1, 0] B14
def Jzk : List Item := .inRegion (opsOf Qrk) [0, 1, 2, 3, 4, 5, 6, 7, 8] :: Jzj
def Jzl : List Item := .inRegion (opsOf Qrk) [3, 4, 5, 6, 7, 8] :: Jzj
def Jzm : List Item := .inRegion (opsOf Qrk) [6, 7, 8] :: Jzj

def Post.z56 (r : Bool) (v : Value) (w' : World) : Prop :=
 ∃ S', v = .bool r ∧ Ext S0 w0 S' w' ∧ Hp nz wz S' w' (Lr)

theorem W.z56 (x0 : T27) (x1 : ByteArray) (r : Bool) (h : M.tidepoleref12_Means x0 x1 = some r) {nz wz S0 w0 Lr} (u92 u93 u94) (p0 : Hp nz wz S0 w0 (Lr)) (u9e : x0.Set.length = 4) (u9f : Rd kT27 S0 w0 u92 u94 x0.L) (u9g : x0.L.length = u93) :
  Calls Try.prog 14 #[(ag (.i x0.Kind :: U4 x0.Set [.slice u92 u93 u94, .i x0.Min, .i x0.Max])), .string x1] w0 (Rets (Post.z56 nz wz S0 w0 Lr r)) := by
 subst u9g
 refine calls_of_goes (fn := Try.f14) (c := B14) (by kernel_rfl) (by kernel_rfl) 18 (by kernel_rfl) ?_
 refine Goes.jp 20 [(0, (ag (.i x0.Kind :: U4 x0.Set [.slice u92 x0.L.length u94, .i x0.Min, .i x0.Max]))), (1, .string x1)] (fun junk => ?_)
 delta M.tidepoleref12_Means at h
 refine Goes.rn 2 [] Jze ?_
 refine Op_.box 28 (.tmp 0) 2 0 (ag (.i x0.Kind :: U4 x0.Set [.slice u92 x0.L.length u94, .i x0.Min, .i x0.Max])) (.i x0.Kind :: U4 x0.Set [.slice u92 x0.L.length u94, .i x0.Min, .i x0.Max]) p0 Goes.v (by kernel_rfl) (by kernel_rfl) ?_
 intro b1 w2 z2 p2
 refine Goes.rn 7 [(4, .bool false), (6, .string x1), (7, .i (x1.size : Int)), (8, .i (wr .i64 ((x1.size : Int) + 1)))] Jzg ?_
 refine guard_some' h fun g3 h => ?_
 refine guard_some' h fun g4 h => ?_
 refine let_some h fun v5 e6 h => ?_
 refine Op_.mk_n (K := kBool) 67 (.tmp 8) (.tmp 8) 9 67 4 .i64 .i64 (wr .i64 ((x1.size : Int) + 1)) (wr .i64 ((x1.size : Int) + 1)) (.bool false) [.bool false] 1 (false : Bool) v5 e6 p2 Goes.v (by kernel_rfl) (by kernel_rfl) (by kernel_rfl) (by kernel_rfl) (by kernel_rfl) (fun _ _ => rfl) g3 (Int.le_refl _) (by have := g4; omega) (by have := g4; omega) ?_
 intro b7 w3 cs8 z3 p3 f9
 refine Goes.rn 5 [(5, .slice (Gp (some b7)) v5.length ((wr .i64 ((x1.size : Int) + 1) : Int).toNat)), (10, .slice (Gp (some b7)) v5.length ((wr .i64 ((x1.size : Int) + 1) : Int).toNat))] Jzi ?_
 refine guard_some' h fun g11 h => ?_
 refine Op_.ixO_n 67 (.tmp 10) (.const (.int .i64 0)) 11 0 4 .i64 0 0 v5.length ((wr .i64 ((x1.size : Int) + 1) : Int).toNat) (gi v5 0) rfl rfl p3 rfl f9 Goes.v (by kernel_rfl) (by kernel_rfl) (by kernel_rfl) (by kernel_rfl) (by decide) (by decide : (0 : Int) ≤ 0) g11 ?_
 rintro b12 _ e15 q14 f13
 injection e15 with u181; subst u181
 obtain rfl := q14
 refine Op_.stE_n (K := kBool) 4 (.tmp 11) (.const (.bool true)) 0 0 0 (.bool true) [.bool true] true (si v5 0 true) v5.length rfl rfl p3 rfl f9 Goes.s (by kernel_rfl) (by kernel_rfl) (by kernel_rfl) rfl (by kernel_rfl) (by decide : (0 : Int) ≤ 0) g11 (Nat.zero_le _) ?_
 intro w4 u12k z4 p4 f17 l18
 refine Goes.rn 3 [] Jzk ?_
 refine Goes.ldN 28 (.tmp 2) 12 28 ⟨b1, 0, none⟩ (.i x0.Kind :: U4 x0.Set [.slice u92 x0.L.length u94, .i x0.Min, .i x0.Max]) (p4.pa 1 0) ?_
 refine Goes.rn 2 [(13, .string x1), (14, .slice (Gp (some b7)) v5.length ((wr .i64 ((x1.size : Int) + 1) : Int).toNat))] Jzl ?_
 obtain ⟨S5, z5, p5, f19⟩ := p4.freezeRd 0 rfl f17 (by decide)
 refine bind_some' h fun y20 e21 h => ?_
 refine Goes.cal (kc 29 [12, 13, 14] #[28, 9, 67]) 15 67 29 _ (W.z4r (x0, x1, (si v5 0 true)) y20 e21 u92 x0.L.length u94 (Gp (some b7)) v5.length ((wr .i64 ((x1.size : Int) + 1) : Int).toNat) p5 u9e (u9f.ext (((z2.trans z3).trans z4).trans z5)) rfl f19 l18) ?_
 rintro _ w6 ⟨S6, u182, u183, u184, rfl, z6, p6, u10, rfl⟩
 have p6 := (p6.dp 0).dp 0
 refine Goes.rn 2 [(16, .string x1), (17, .i (x1.size : Int))] Jzm ?_
 refine guard_some' h fun g22 h => ?_
 refine Op_.ixR_n 67 (.tmp 15) (.tmp 17) 18 0 4 .i64 (x1.size : Int) (gi y20 (x1.size : Int)) rfl rfl u10 Goes.v (by kernel_rfl) (by kernel_rfl) (by kernel_rfl) (by kernel_rfl) (Int.natCast_nonneg _) g22 ?_
 intro a23 _ f24 q25
 obtain rfl := q25
 refine Goes.ld 4 (.tmp 18) 19 4 a23 (.bool (gi y20 (x1.size : Int))) (f24.cell 0 _ rfl) ?_
 refine Goes.rn 2 [(4, .bool (gi y20 (x1.size : Int)))] Jzj ?_
 obtain rfl := Option.some.inj h
 exact Goes.rt Try.f14 (.bool (gi y20 (x1.size : Int))) ⟨S6, rfl, ((((((Ext.refl S0 w0).trans z2).trans z3).trans z4).trans z5).trans z6), p6⟩

def Qrl := sub [1] B4
def Jzn : List Item := [.code Qrl]
def Qrm := sub [0] B4
def Jzo : List Item := .inRegion (opsOf Qrm) [0, 1] :: Jzn
def Qrn := sub [1, 1] B4
def Jzp : List Item := [.code Qrn]
def Qro := sub [1, 0, 1] B4
def Jzq : List Item := .code Qro :: Jzp
def Qrp := sub [1, 0, 0] B4
def Jzr : List Item := .inRegion (opsOf Qrp) [0, 1] :: Jzq
def Qrq := sub [1, 1, 1] B4
def Jzs : List Item := [.code Qrq]
def Qrr := sub [1, 1, 0] B4
def Jzt : List Item := .inRegion (opsOf Qrr) [4, 5] :: Jzs
def Qrs := sub [1, 1, 1, 1] B4
def Jzu : List Item := [.code Qrs]
def Qrt := sub [1, 1, 1, 0] B4
def Jzv : List Item := .inRegion (opsOf Qrt) [0, 1, 2, 3, 4, 5, 6, 7, 8] :: Jzu
def Jzw : List Item := .inRegion (opsOf Qrt) [6, 7, 8] :: Jzu
def Qru := sub [1, 1, 1, 1, 1] B4
def Jzx : List Item := [.code Qru]
def Qrv := sub [1, 1, 1, 1, 0, 1] B4
def Jzy : List Item := .code Qrv :: Jzx
def Qrw := sub [1, 1, 1, 1, 1, 1] B4
def Jzz : List Item := [.code Qrw]
def Qrx := sub [1, 1, 1, 1, 1, 0] B4
def J100 : List Item := .inRegion (opsOf Qrx) [2, 3, 4, 5, 6, 7] :: Jzz
def Qry := sub [1, 1, 1, 1, 1, 1, 1] B4
def J101 : List Item := [.code Qry]
def Qrz := sub [1, 1, 1, 1, 1, 1, 0] B4
def J102 : List Item := .inRegion (opsOf Qrz) [3, 4, 5, 6, 7, 8, 9] :: J101
def J103 : List Item := .inRegion (opsOf Qrz) [4, 5, 6, 7, 8, 9] :: J101
def J104 : List Item := .inRegion (opsOf Qrz) [6, 7, 8, 9] :: J101
def Qs0 := sub [1, 1, 1, 1, 0, 1, 0, 1] B4
def J105 : List Item := .code Qs0 :: Jzx
def Qs1 := sub [1, 0, 1, 0, 1] B4
def J106 : List Item := .code Qs1 :: Jzp

def Post.z57 (r : Bool) (v : Value) (w' : World) : Prop :=
 ∃ S', v = .bool r ∧ Ext S0 w0 S' w' ∧ Hp nz wz S' w' (Lr)

theorem W.z57 (x0 : T27) (x1 : ByteArray) (r : Bool) (h : M.tidepolelaw12_SimMeans x0 x1 = some r) {nz wz S0 w0 Lr} (u92 u93 u94) (p0 : Hp nz wz S0 w0 (Lr)) (u9e : x0.Set.length = 4) (u9f : Rd kT27 S0 w0 u92 u94 x0.L) (u9g : x0.L.length = u93) :
  Calls Try.prog 4 #[(ag (.i x0.Kind :: U4 x0.Set [.slice u92 u93 u94, .i x0.Min, .i x0.Max])), .string x1] w0 (Rets (Post.z57 nz wz S0 w0 Lr r)) := by
 subst u9g
 refine calls_of_goes (fn := Try.f4) (c := B4) (by kernel_rfl) (by kernel_rfl) 37 (by kernel_rfl) ?_
 refine Goes.jp 39 [(0, (ag (.i x0.Kind :: U4 x0.Set [.slice u92 x0.L.length u94, .i x0.Min, .i x0.Max]))), (1, .string x1)] (fun junk => ?_)
 delta M.tidepolelaw12_SimMeans at h
 refine Goes.rn 2 [] Jzo ?_
 refine Op_.box 28 (.tmp 0) 2 0 (ag (.i x0.Kind :: U4 x0.Set [.slice u92 x0.L.length u94, .i x0.Min, .i x0.Max])) (.i x0.Kind :: U4 x0.Set [.slice u92 x0.L.length u94, .i x0.Min, .i x0.Max]) p0 Goes.v (by kernel_rfl) (by kernel_rfl) ?_
 intro b1 w2 z2 p2
 refine Goes.rn 5 [(4, .bool false)] Jzr ?_
 refine bind_some' h fun y3 e4 h => ?_
 refine Goes.cal (kc 11 [] #[]) 9 4 11 _ (W.z4k y3 e4  p2 ) ?_
 rintro _ w3 ⟨S3, rfl, z3, p3⟩
 refine Goes.rn 2 [(10, .bool (!y3))] Jzq ?_
 refine ite_some h (fun h5 h => ?_) (fun h5 h => ?_)
 ·
  rw [h5]
  refine Goes.rn 8 [(11, .string x1), (12, .string x1), (13, .i (x1.size : Int)), (14, .i (imn (x1.size : Int) 30))] Jzt ?_
  refine guard_some' h fun g6 h => ?_
  refine guard_some' h fun g7 h => ?_
  refine Op_.slS_n 9 (.tmp 11) none (some (.tmp 14)) 15 9 x1 0 (imn (x1.size : Int) 30) (ss x1 0 (imn (x1.size : Int) 30)) rfl Goes.v (by kernel_rfl) (by kernel_rfl) Bnd.no (Bnd.at_ .i64 (by kernel_rfl)) (by decide : (0 : Int) ≤ 0) g6 g7 ?_
  refine Goes.rn 4 [(1, .string (ss x1 0 (imn (x1.size : Int) 30)))] Jzv ?_
  refine Goes.ldN 28 (.tmp 2) 17 28 ⟨b1, 0, none⟩ (.i x0.Kind :: U4 x0.Set [.slice u92 x0.L.length u94, .i x0.Min, .i x0.Max]) (p3.pa 0 0) ?_
  refine bind_some' h fun y8 e9 h => ?_
  refine Goes.cal (kc 12 [17] #[28]) 18 36 12 _ (W.z4p x0 y8 e9 u92 x0.L.length u94 p3 u9e (u9f.ext (z2.trans z3)) rfl) ?_
  rintro _ w4 ⟨S4, u185, u133, u134, u186, u187, u188, u189, u18a, u18b, rfl, z4, p4, u135, u136, rfl, u18c, rfl⟩
  refine Goes.rn 4 [(16, .tuple #[(ag (.i y8.1.Kind :: U4 y8.1.Set [.slice (Gp u185) y8.1.L.length u134, .i y8.1.Min, .i y8.1.Max])), .slice (Gp u188) y8.2.1.length u18a, .bool y8.2.2]), (19, (ag (.i y8.1.Kind :: U4 y8.1.Set [.slice (Gp u185) y8.1.L.length u134, .i y8.1.Min, .i y8.1.Max]))), (20, .slice (Gp u188) y8.2.1.length u18a), (21, .bool y8.2.2)] Jzw ?_
  refine Op_.st 28 (.tmp 2) (.tmp 19) 0 2 b1 0 (ag (.i y8.1.Kind :: U4 y8.1.Set [.slice (Gp u185) y8.1.L.length u134, .i y8.1.Min, .i y8.1.Max])) (.i y8.1.Kind :: U4 y8.1.Set [.slice (Gp u185) y8.1.L.length u134, .i y8.1.Min, .i y8.1.Max]) p4 rfl Goes.s (by kernel_rfl) (by kernel_rfl) (by kernel_rfl) (by kernel_rfl) (Nat.zero_le _) (by simp only [List.length_cons, List.length_nil]; omega) (by simp [Value.oneCell']) ?_
  intro w5 z5 p5
  have p5 : Hp nz wz S4 w5 ((u185, .row 28 u186 (u134 * kT27.size) u187) :: (u188, .row 89 u18b (u18a * kT88.size) 0) :: (some b1, .row 28 (.i y8.1.Kind :: U4 y8.1.Set [.slice (Gp u185) y8.1.L.length u134, .i y8.1.Min, .i y8.1.Max]) 8 0) :: Lr) := p5
  refine Goes.rn 9 [(5, .slice (Gp u188) y8.2.1.length u18a), (6, .bool y8.2.2), (22, .bool y8.2.2), (23, .bool (!y8.2.2))] Jzy ?_
  refine ite_some h (fun h12 h => ?_) (fun h12 h => ?_)
  ·
   rw [h12]
   refine Goes.rn 6 [(25, .slice (Gp u188) y8.2.1.length u18a), (26, .string (ss x1 0 (imn (x1.size : Int) 30)))] J100 ?_
   obtain ⟨S6, z6, p6, f13⟩ := p5.freezeRd 1 rfl (u18c.ext z5) (by decide)
   refine bind_some' h fun y14 e15 h => ?_
   refine Goes.cal (kc 13 [25, 26] #[35, 9]) 27 38 13 _ (W.z3q y8.2.1 (ss x1 0 (imn (x1.size : Int) 30)) y14 e15 (Gp u188) y8.2.1.length u18a p6 f13 rfl) ?_
   rintro _ w7 ⟨S7, rfl, z7, p7⟩
   have p7 := p7.dp 1
   refine Goes.rn 11 [(24, .tuple #[.bool y14.1, .i y14.2]), (28, .bool y14.1), (29, .i y14.2), (7, .bool y14.1), (8, .i y14.2), (30, .i y14.2), (31, .bool (decide (y14.2 = 0))), (32, .bool (decide (y14.2 = 0)))] J102 ?_
   refine ite_some h (fun h16 h => ?_) (fun h16 h => ?_)
   ·
    rw [decide_eq_true h16]
    refine Goes.rn 1 [(33, .bool y14.1)] J103 ?_
    refine Goes.ldN 28 (.tmp 2) 34 28 ⟨b1, 0, none⟩ (.i y8.1.Kind :: U4 y8.1.Set [.slice (Gp u185) y8.1.L.length u134, .i y8.1.Min, .i y8.1.Max]) (p7.pa 1 0) ?_
    refine Goes.rn 1 [(35, .string (ss x1 0 (imn (x1.size : Int) 30)))] J104 ?_
    obtain ⟨S8, z8, p8, f17⟩ := p7.freezeRd 0 rfl (u136.ext ((z5.trans z6).trans z7)) (by decide)
    refine bind_some' h fun y18 e19 h => ?_
    refine Goes.cal (kc 14 [34, 35] #[28, 9]) 36 4 14 _ (W.z56 y8.1 (ss x1 0 (imn (x1.size : Int) 30)) y18 e19 (Gp u185) y8.1.L.length u134 p8 u135 f17 rfl) ?_
    rintro _ w9 ⟨S9, rfl, z9, p9⟩
    have p9 := (p9.dp 0).dp 0
    refine Goes.rn 4 [(37, .bool (y14.1 == y18)), (38, .bool (y14.1 == y18)), (4, .bool (y14.1 == y18))] J101 ?_
    obtain rfl := Option.some.inj h
    exact Goes.rt Try.f4 (.bool (y14.1 == y18)) ⟨S9, rfl, (((((((((Ext.refl S0 w0).trans z2).trans z3).trans z4).trans z5).trans z6).trans z7).trans z8).trans z9), p9⟩
   ·
    rw [decide_eq_false h16]
    refine Goes.rn 8 [(33, undef), (34, undef), (35, undef), (36, undef), (37, undef), (38, .bool false), (4, .bool false)] J101 ?_
    obtain rfl := Option.some.inj h
    have p7 := (p7.dp 0).dp 0
    exact Goes.rt Try.f4 (.bool false) ⟨S7, rfl, (((((((Ext.refl S0 w0).trans z2).trans z3).trans z4).trans z5).trans z6).trans z7), p7⟩
  ·
   have u18d : y8.2.2 = false := by simpa using h12
   rw [u18d]
   refine Goes.rn 5 [(4, .bool true)] J105 ?_
   obtain rfl := Option.some.inj h
   have p5 := ((p5.dp 0).dp 0).dp 0
   exact Goes.rt Try.f4 (.bool true) ⟨S4, rfl, (((((Ext.refl S0 w0).trans z2).trans z3).trans z4).trans z5), p5⟩
 ·
  have h5' : y3 = false := by simpa using h5
  rw [h5']
  refine Goes.rn 5 [(4, .bool false)] J106 ?_
  obtain rfl := Option.some.inj h
  have p3 := p3.dp 0
  exact Goes.rt Try.f4 (.bool false) ⟨S3, rfl, (((Ext.refl S0 w0).trans z2).trans z3), p3⟩

def Qs2 := sub [1] B15
def J107 : List Item := [.code Qs2]
def Qs3 := sub [0] B15
def J108 : List Item := .inRegion (opsOf Qs3) [0, 1] :: J107
def Qs4 := sub [1, 1] B15
def J109 : List Item := [.code Qs4]
def Qs5 := sub [1, 0] B15
def J10a : List Item := .inRegion (opsOf Qs5) [0, 1, 2, 3, 4, 5, 6] :: J109
def Qs6 := sub [1, 1, 1] B15
def J10b : List Item := [.code Qs6]
def Qs7 := sub [1, 1, 0] B15
def J10c : List Item := .inRegion (opsOf Qs7) [2, 3, 4, 5, 6, 7] :: J10b
def Qs8 := sub [1, 1, 1, 1] B15
def J10d : List Item := [.code Qs8]
def Qs9 := sub [1, 1, 1, 0] B15
def J10e : List Item := .inRegion (opsOf Qs9) [3, 4, 5, 6, 7, 8, 9] :: J10d
def J10f : List Item := .inRegion (opsOf Qs9) [7, 8, 9] :: J10d

def Post.z58 (r : Bool) (v : Value) (w' : World) : Prop :=
 ∃ S', v = .bool r ∧ Ext S0 w0 S' w' ∧ Hp nz wz S' w' (Lr)

theorem W.z58 (x0 : T27) (x1 : ByteArray) (r : Bool) (h : M.tidepolelaw12_matches x0 x1 = some r) {nz wz S0 w0 Lr} (u92 u93 u94) (p0 : Hp nz wz S0 w0 (Lr)) (u9e : x0.Set.length = 4) (u9f : Rd kT27 S0 w0 u92 u94 x0.L) (u9g : x0.L.length = u93) :
  Calls Try.prog 15 #[(ag (.i x0.Kind :: U4 x0.Set [.slice u92 u93 u94, .i x0.Min, .i x0.Max])), .string x1] w0 (Rets (Post.z58 nz wz S0 w0 Lr r)) := by
 subst u9g
 refine calls_of_goes (fn := Try.f15) (c := B15) (by kernel_rfl) (by kernel_rfl) 27 (by kernel_rfl) ?_
 refine Goes.jp 29 [(0, (ag (.i x0.Kind :: U4 x0.Set [.slice u92 x0.L.length u94, .i x0.Min, .i x0.Max]))), (1, .string x1)] (fun junk => ?_)
 delta M.tidepolelaw12_matches at h
 refine Goes.rn 2 [] J108 ?_
 refine Op_.box 28 (.tmp 0) 2 0 (ag (.i x0.Kind :: U4 x0.Set [.slice u92 x0.L.length u94, .i x0.Min, .i x0.Max])) (.i x0.Kind :: U4 x0.Set [.slice u92 x0.L.length u94, .i x0.Min, .i x0.Max]) p0 Goes.v (by kernel_rfl) (by kernel_rfl) ?_
 intro b1 w2 z2 p2
 refine Goes.rn 4 [(4, .bool false)] J10a ?_
 refine Goes.ldN 28 (.tmp 2) 10 28 ⟨b1, 0, none⟩ (.i x0.Kind :: U4 x0.Set [.slice u92 x0.L.length u94, .i x0.Min, .i x0.Max]) (p2.pa 0 0) ?_
 refine bind_some' h fun y3 e4 h => ?_
 refine Goes.cal (kc 22 [10] #[28]) 11 56 22 _ (W.z2t x0 y3 e4 u92 x0.L.length u94 p2 u9e (u9f.ext z2) rfl) ?_
 rintro _ w3 ⟨S3, u18e, u18f, u18g, u18h, rfl, z3, p3, u18i, rfl⟩
 have p3 := p3.dp 1
 refine Goes.rn 10 [(9, .tuple #[.slice (Gp u18e) y3.1.length u18g, .i y3.2]), (12, .slice (Gp u18e) y3.1.length u18g), (13, .i y3.2), (5, .slice (Gp u18e) y3.1.length u18g), (6, .i y3.2), (15, .slice (Gp u18e) y3.1.length u18g), (16, .string x1)] J10c ?_
 obtain ⟨S4, z4, p4, f6⟩ := p3.freezeRd 0 rfl u18i (by decide)
 refine bind_some' h fun y7 e8 h => ?_
 refine Goes.cal (kc 13 [15, 16] #[35, 9]) 17 38 13 _ (W.z3q y3.1 x1 y7 e8 (Gp u18e) y3.1.length u18g p4 f6 rfl) ?_
 rintro _ w5 ⟨S5, rfl, z5, p5⟩
 have p5 := p5.dp 0
 refine Goes.rn 11 [(14, .tuple #[.bool y7.1, .i y7.2]), (18, .bool y7.1), (19, .i y7.2), (7, .bool y7.1), (8, .i y7.2), (20, .i y3.2), (21, .bool (decide (y3.2 = 0))), (22, .bool (decide (y3.2 = 0)))] J10e ?_
 refine ite_some h (fun h9 h => ?_) (fun h9 h => ?_)
 ·
  rw [decide_eq_true h9]
  refine Goes.rn 4 [(23, .i y7.2), (24, .bool (decide (y7.2 = 0))), (25, .bool (decide (y7.2 = 0))), (26, .bool (decide (y7.2 = 0)))] J10f ?_
  refine ite_some h (fun h10 h => ?_) (fun h10 h => ?_)
  ·
   rw [decide_eq_true h10]
   refine Goes.rn 4 [(27, .bool y7.1), (28, .bool y7.1), (4, .bool y7.1)] J10d ?_
   obtain rfl := Option.some.inj h
   exact Goes.rt Try.f15 (.bool y7.1) ⟨S5, rfl, (((((Ext.refl S0 w0).trans z2).trans z3).trans z4).trans z5), p5⟩
  ·
   rw [decide_eq_false h10]
   refine Goes.rn 4 [(27, undef), (28, .bool false), (4, .bool false)] J10d ?_
   obtain rfl := Option.some.inj h
   exact Goes.rt Try.f15 (.bool false) ⟨S5, rfl, (((((Ext.refl S0 w0).trans z2).trans z3).trans z4).trans z5), p5⟩
 ·
  rw [decide_eq_false h9]
  refine Goes.rn 8 [(23, undef), (24, undef), (25, .bool false), (26, .bool false), (27, undef), (28, .bool false), (4, .bool false)] J10d ?_
  obtain rfl := Option.some.inj h
  exact Goes.rt Try.f15 (.bool false) ⟨S5, rfl, (((((Ext.refl S0 w0).trans z2).trans z3).trans z4).trans z5), p5⟩

end

end Go.Gx
