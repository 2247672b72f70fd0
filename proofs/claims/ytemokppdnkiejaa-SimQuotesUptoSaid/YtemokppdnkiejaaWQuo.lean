import Derived.Test.YtemokppdnkiejaaWQuod

set_option linter.unusedVariables false

set_option maxRecDepth 100000

set_option maxHeartbeats 4000000

namespace Go.Gx

open Go.RowKit Go.Proofs

variable (nz : Nat) (wz : World) (S0 : Fz) (w0 : World) (Lr : List Ent)

noncomputable section

def Post.z4a (lx0 : Nat) (rx0 : Nat) (u4q : Nat → Value) (u4r : Nat) (utj : Nat) (utk : Nat) (utm : Nat) (utn : Int) (uto : ByteArray) (r : List Int) (v : Value) (w' : World) : Prop :=
 ∃ S' ugs ugt ugu ugv, v = .tuple #[] ∧ Ext S0 w0 S' w' ∧ Hp nz wz S' w' ((some lx0, .obj (lpst 61 (lfr 13 [(2, (pt u4r 0)), (6, .func (.func 62) #[] #[(pt utj 0), (pt utk 0), (pt utm 0)])] u4q) #[7] (rfAssign (Qn9)) (rfBody (Qn9)) rx0 .ready none)) :: (some u4r, .row 58 [.slice (Gp ugs) ugt ugu] 1 0) :: (ugs, .row 3 ugv (ugu * (kInt .i64).size) 0) :: (some utj, .row 3 [.i utn] 1 0) :: (some utk, .row 63 [.pointer none] 1 0) :: (some utm, .row 9 [.string uto] 1 0) :: Lr) ∧ Els (kInt .i64) S' w' ugv r ∧ r.length = ugt

def L.z4b (lx0 : Nat) (rx0 : Nat) (u4q : Nat → Value) (u4r : Nat) (utj : Nat) (utk : Nat) (utm : Nat) : Int × (List Int) × Int × ByteArray → (List Int) → Prop := fun ⟨x5, uu7, utn, uto⟩ r => ∀ S1 w1, Ext S0 w0 S1 w1 → ∀ ugs ugt ugu ugv (_ : Hp nz wz S1 w1 ((some lx0, .obj (lpst 61 (lfr 13 [(2, (pt u4r 0)), (6, .func (.func 62) #[] #[(pt utj 0), (pt utk 0), (pt utm 0)])] u4q) #[7] (rfAssign (Qn9)) (rfBody (Qn9)) rx0 .ready none)) :: (some u4r, .row 58 [.slice (Gp ugs) ugt ugu] 1 0) :: (ugs, .row 3 ugv (ugu * (kInt .i64).size) 0) :: (some utj, .row 3 [.i utn] 1 0) :: (some utk, .row 63 [.pointer none] 1 0) :: (some utm, .row 9 [.string uto] 1 0) :: Lr)) (_ : Els (kInt .i64) S1 w1 ugv uu7) (_ : uu7.length = ugt) (junk : Nat → Value),
 Goes Try.prog (base 62) Jtg ⟨lfr 29 [(0, yieldV lx0), (2, (pt utk 0)), (3, (pt utm 0)), (5, .i x5)] junk, []⟩ w1 (Done Try.prog 62 (Rets (Post.z4a nz wz S0 w0 Lr lx0 rx0 u4q u4r utj utk utm utn uto r)))

def L.z4c (lx0 : Nat) (rx0 : Nat) (u4q : Nat → Value) (u4r : Nat) (utj : Nat) (utk : Nat) (utm : Nat) : Int × Bool × (List Int) × Int × ByteArray → (List Int) → Prop := fun ⟨x5, x16, uu7, utn, uto⟩ r => ∀ S1 w1, Ext S0 w0 S1 w1 → ∀ ugs ugt ugu ugv (_ : Hp nz wz S1 w1 ((some lx0, .obj (lpst 61 (lfr 13 [(2, (pt u4r 0)), (6, .func (.func 62) #[] #[(pt utj 0), (pt utk 0), (pt utm 0)])] u4q) #[7] (rfAssign (Qn9)) (rfBody (Qn9)) rx0 .ready none)) :: (some u4r, .row 58 [.slice (Gp ugs) ugt ugu] 1 0) :: (ugs, .row 3 ugv (ugu * (kInt .i64).size) 0) :: (some utj, .row 3 [.i utn] 1 0) :: (some utk, .row 63 [.pointer none] 1 0) :: (some utm, .row 9 [.string uto] 1 0) :: Lr)) (_ : Els (kInt .i64) S1 w1 ugv uu7) (_ : uu7.length = ugt) (junk : Nat → Value),
 Goes Try.prog (base 62) Jtk ⟨lfr 29 [(0, yieldV lx0), (2, (pt utk 0)), (3, (pt utm 0)), (5, .i x5), (16, .bool x16)] junk, []⟩ w1 (Done Try.prog 62 (Rets (Post.z4a nz wz S0 w0 Lr lx0 rx0 u4q u4r utj utk utm utn uto r)))

def L.z4d (lx0 : Nat) (rx0 : Nat) (u4q : Nat → Value) (u4r : Nat) (utj : Nat) (utk : Nat) (utm : Nat) : Int × Bool × (List Int) × Int × ByteArray → (List Int) → Prop := fun ⟨x5, x28, uu7, utn, uto⟩ r => ∀ S1 w1, Ext S0 w0 S1 w1 → ∀ ugs ugt ugu ugv (_ : Hp nz wz S1 w1 ((some lx0, .obj (lpst 61 (lfr 13 [(2, (pt u4r 0)), (6, .func (.func 62) #[] #[(pt utj 0), (pt utk 0), (pt utm 0)])] u4q) #[7] (rfAssign (Qn9)) (rfBody (Qn9)) rx0 .ready none)) :: (some u4r, .row 58 [.slice (Gp ugs) ugt ugu] 1 0) :: (ugs, .row 3 ugv (ugu * (kInt .i64).size) 0) :: (some utj, .row 3 [.i utn] 1 0) :: (some utk, .row 63 [.pointer none] 1 0) :: (some utm, .row 9 [.string uto] 1 0) :: Lr)) (_ : Els (kInt .i64) S1 w1 ugv uu7) (_ : uu7.length = ugt) (junk : Nat → Value),
 Goes Try.prog (base 62) Jtl ⟨lfr 29 [(0, yieldV lx0), (2, (pt utk 0)), (3, (pt utm 0)), (5, .i x5), (28, .bool x28)] junk, []⟩ w1 (Done Try.prog 62 (Rets (Post.z4a nz wz S0 w0 Lr lx0 rx0 u4q u4r utj utk utm utn uto r)))

theorem W.z4e {nz wz S0 w0 Lr} (lx0 : Nat) (rx0 : Nat) (u4q : Nat → Value) (u4r : Nat) (utj : Nat) (utk : Nat) (utm : Nat) : (∀ a r, M.sim_Runner_ends_1_4_l0 a = some r → (L.z4b nz wz S0 w0 Lr lx0 rx0 u4q u4r utj utk utm) a r) ∧ (∀ a r, M.sim_Runner_ends_1_4_l1 a = some r → (L.z4c nz wz S0 w0 Lr lx0 rx0 u4q u4r utj utk utm) a r) ∧ (∀ a r, M.sim_Runner_ends_1_4_l2 a = some r → (L.z4d nz wz S0 w0 Lr lx0 rx0 u4q u4r utj utk utm) a r) := by
 refine M.sim_Runner_ends_1_4_l0.mutual_partial_correctness (L.z4b nz wz S0 w0 Lr lx0 rx0 u4q u4r utj utk utm) (L.z4c nz wz S0 w0 Lr lx0 rx0 u4q u4r utj utk utm) (L.z4d nz wz S0 w0 Lr lx0 rx0 u4q u4r utj utk utm) ?_ ?_ ?_
 ·
  intro u12l u12m ⟨x5, uu7, utn, uto⟩ r h S1 w1 hx ugs ugt ugu ugv p1 uh2 uh3 junk
  try dsimp only at h
  subst uh3
  refine Goes.rn 5 [] Jtm ?_
  refine Goes.ld 63 (.tmp 2) 9 63 ⟨utk, 0, none⟩ (.pointer none) (p1.c 4 0) ?_
  refine bind_some' h fun y8 e9 h => ?_
  refine Goes.cal (kc 28 [9] #[63]) 10 4 28 _ (W.z3u y8 e9  p1 ) ?_
  rintro _ w2 ⟨S2, rfl, z2, p2⟩
  refine Goes.rn 1 [(11, .bool y8)] Jtn ?_
  refine ite_some h (fun h10 h => ?_) (fun h10 h => ?_)
  ·
   rw [h10]
   refine Goes.rn 2 [(12, yieldV lx0), (13, .i x5)] Jto ?_
   refine bind_some' h fun y11 e12 h => ?_
   refine Goes.yieldAt (.call { callee := .value (.tmp 12), args := #[(.tmp 13)], argTypes := #[3] }) 14 4 0 lx0 #[.i x5] p2 rfl (by kernel_rfl) rfl (fun _ => by kernel_rfl) rfl (W.z49 uu7 utn uto x5 y11 e12 lx0 rx0 u4q u4r ugs uu7.length ugu ugv utj utk utm p2 (uh2.ext z2) rfl) ?_
   rintro _ w3 ⟨S3, uui, uuj, uuk, uul, rfl, z3, p3, uum, rfl⟩
   refine Goes.rn 3 [(15, .bool (!true)), (16, .bool (!true))] Jtk ?_
   exact Goes.jp 29 [(0, yieldV lx0), (2, (pt utk 0)), (3, (pt utm 0)), (5, .i x5), (16, .bool (!true))] (u12m _ _ h _ _ ((hx.trans z2).trans z3) uui y11.length uuk uul p3 uum rfl)
  ·
   have u7f : y8 = false := by simpa using h10
   rw [u7f]
   refine Goes.rn 6 [(12, undef), (13, undef), (14, undef), (15, undef), (16, .bool false)] Jtk ?_
   exact Goes.jp 29 [(0, yieldV lx0), (2, (pt utk 0)), (3, (pt utm 0)), (5, .i x5), (16, .bool false)] (u12m _ _ h _ _ (hx.trans z2) ugs uu7.length ugu ugv p2 (uh2.ext z2) rfl)
 ·
  intro u12n u12o ⟨x5, x16, uu7, utn, uto⟩ r h S1 w1 hx ugs ugt ugu ugv p1 uh2 uh3 junk
  try dsimp only at h
  subst uh3
  refine ite_some h (fun h15 h => ?_) (fun h15 h => ?_)
  ·
   rw [h15]
   refine Goes.rn 1 [] Jtp ?_
   obtain rfl := Option.some.inj h
   exact Goes.rt Try.f62 (.tuple #[]) ⟨S1, ugs, uu7.length, ugu, ugv, rfl, hx, p1, uh2, rfl⟩
  ·
   have u73 : x16 = false := by simpa using h15
   rw [u73]
   refine Goes.rn 3 [] Jtq ?_
   have z4 : Ext S1 w1 S1 (w1).drew := Ext.draw
   have p4 := p1.draw
   refine Goes.drawn (s := [9]) (F := Fc S1 (w1).drew [(⟨utm, 0, none⟩, .string uto), (⟨utk, 0, none⟩, .pointer none)]) 3 12 (by kernel_rfl) (by kernel_rfl) (by kernel_rfl) (by kernel_rfl) ?_
   generalize (w1).drew = w4 at z4 p4 ⊢
   refine AnyG.pu 0 (.move (.tmp 5)) 17 3 (.i x5) (Fc.here (p4.cs [(5, 0, 1), (4, 0, 1)])) ?_
   refine AnyG.ld1 (i := 1) 9 (.tmp 3) 18 9 ⟨utm, 0, none⟩ (.string uto) (by kernel_rfl) (by kernel_rfl) (Fc.here (p4.cs [(5, 0, 1), (4, 0, 1)])) (by kernel_rfl) (by kernel_rfl) (fun _ h => h.2.at_ 0 rfl) ?_
   refine AnyG.pu 2 (.call { callee := .builtin .len, args := #[(.tmp 18)], argTypes := #[9] }) 19 3 (.i (uto.size : Int)) (Fc.here (p4.cs [(5, 0, 1), (4, 0, 1)])) ?_
   refine AnyG.pu 3 (.binOp .eql 3 (.tmp 17) (.tmp 19) 3) 20 4 (.bool (decide (x5 = (uto.size : Int)))) (Fc.here (p4.cs [(5, 0, 1), (4, 0, 1)])) ?_
   refine AnyG.pu 4 (.move (.tmp 20)) 21 4 (.bool (decide (x5 = (uto.size : Int)))) (Fc.here (p4.cs [(5, 0, 1), (4, 0, 1)])) ?_
   refine ite_some h (fun h16 h => ?_) (fun h16 h => ?_)
   ·
    rw [decide_eq_true h16]
    refine AnyG.s1 5 22 (Fc.here (p4.cs [(5, 0, 1), (4, 0, 1)])) ?_
    refine AnyG.s1 6 23 (Fc.here (p4.cs [(5, 0, 1), (4, 0, 1)])) ?_
    refine AnyG.s1 7 24 (Fc.here (p4.cs [(5, 0, 1), (4, 0, 1)])) ?_
    refine AnyG.s1 8 25 (Fc.here (p4.cs [(5, 0, 1), (4, 0, 1)])) ?_
    refine AnyG.skipL1 (i := 9) 26 (by kernel_rfl) (by kernel_rfl) (.inl (by decide)) ?_
    refine AnyG.s1 10 27 (Fc.here (p4.cs [(5, 0, 1), (4, 0, 1)])) ?_
    refine AnyG.pu 11 (.pick (.tmp 21) (.const (.bool true)) (.tmp 27)) 28 4 (.bool true) (Fc.here (p4.cs [(5, 0, 1), (4, 0, 1)])) ?_
    refine AnyG.done (by kernel_rfl) ?_ _
    exact Goes.jp 29 [(0, yieldV lx0), (2, (pt utk 0)), (3, (pt utm 0)), (5, .i x5), (28, .bool true)] (u12o _ _ h _ _ (hx.trans z4) ugs uu7.length ugu ugv p4 (uh2.ext z4) rfl)
   ·
    rw [decide_eq_false h16]
    refine AnyG.ld1 (i := 5) 63 (.tmp 2) 22 63 ⟨utk, 0, none⟩ (.pointer none) (by kernel_rfl) (by kernel_rfl) (Fc.here (p4.cs [(5, 0, 1), (4, 0, 1)])) (by kernel_rfl) (by kernel_rfl) (fun _ h => h.2.at_ 1 rfl) ?_
    refine AnyG.ld1 (i := 6) 9 (.tmp 3) 23 9 ⟨utm, 0, none⟩ (.string uto) (by kernel_rfl) (by kernel_rfl) (Fc.here (p4.cs [(5, 0, 1), (4, 0, 1)])) (by kernel_rfl) (by kernel_rfl) (fun _ h => h.2.at_ 0 rfl) ?_
    refine AnyG.pu 7 (.move (.tmp 5)) 24 3 (.i x5) (Fc.here (p4.cs [(5, 0, 1), (4, 0, 1)])) ?_
    refine guard_some' h fun g18 h => ?_
    refine guard_some' h fun g19 h => ?_
    refine AnyG.ixS (i := 8) 9 (.tmp 23) (.tmp 24) 25 5 .i64 uto x5 (by kernel_rfl) (by kernel_rfl) (Fc.here (p4.cs [(5, 0, 1), (4, 0, 1)])) (by kernel_rfl) (by kernel_rfl) (by kernel_rfl) g18 g19 ?_
    refine bind_some' h fun y20 e21 h => ?_
    refine Op_.call (kc 27 [22, 25] #[63, 5]) 26 4 27 #[.pointer none, .int .u8 (bt uto x5)] (AnyG.cs (i := 9) (by kernel_rfl) (by kernel_rfl)) (by kernel_rfl) (W.z3t (bt uto x5) y20 e21  p4 ) ?_
    rintro _ w5 ⟨S5, rfl, z5, p5⟩
    refine AnyG.last [] (Fc S5 w5 []) (by decide) ?_
    refine AnyG.pu 10 (.unOp .not 4 (.tmp 26)) 27 4 (.bool (!y20)) (Fc.here trivial) ?_
    refine AnyG.pu 11 (.pick (.tmp 21) (.const (.bool true)) (.tmp 27)) 28 4 (.bool (!y20)) (Fc.here trivial) ?_
    refine AnyG.done (by kernel_rfl) ?_ _
    exact Goes.jp 29 [(0, yieldV lx0), (2, (pt utk 0)), (3, (pt utm 0)), (5, .i x5), (28, .bool (!y20))] (u12o _ _ h _ _ ((hx.trans z4).trans z5) ugs uu7.length ugu ugv p5 (uh2.ext (z4.trans z5)) rfl)
 ·
  intro u12p u12q ⟨x5, x28, uu7, utn, uto⟩ r h S1 w1 hx ugs ugt ugu ugv p1 uh2 uh3 junk
  try dsimp only at h
  subst uh3
  refine ite_some h (fun h22 h => ?_) (fun h22 h => ?_)
  ·
   rw [h22]
   refine Goes.rn 1 [] Jtr ?_
   obtain rfl := Option.some.inj h
   exact Goes.rt Try.f62 (.tuple #[]) ⟨S1, ugs, uu7.length, ugu, ugv, rfl, hx, p1, uh2, rfl⟩
  ·
   have u12r : x28 = false := by simpa using h22
   rw [u12r]
   refine Goes.rn 9 [(7, .i x5), (8, .i (wr .i64 (x5 + 1))), (5, .i (wr .i64 (x5 + 1)))] Jtg ?_
   exact Goes.jp 29 [(0, yieldV lx0), (2, (pt utk 0)), (3, (pt utm 0)), (5, .i (wr .i64 (x5 + 1)))] (u12q _ _ h _ _ hx ugs uu7.length ugu ugv p1 uh2 rfl)

theorem W.z4b {nz wz S0 w0 Lr} (lx0 : Nat) (rx0 : Nat) (u4q : Nat → Value) (u4r : Nat) (utj : Nat) (utk : Nat) (utm : Nat) : ∀ a r, M.sim_Runner_ends_1_4_l0 a = some r → (L.z4b nz wz S0 w0 Lr lx0 rx0 u4q u4r utj utk utm) a r := (W.z4e lx0 rx0 u4q u4r utj utk utm).1

theorem W.z4c {nz wz S0 w0 Lr} (lx0 : Nat) (rx0 : Nat) (u4q : Nat → Value) (u4r : Nat) (utj : Nat) (utk : Nat) (utm : Nat) : ∀ a r, M.sim_Runner_ends_1_4_l1 a = some r → (L.z4c nz wz S0 w0 Lr lx0 rx0 u4q u4r utj utk utm) a r := (W.z4e lx0 rx0 u4q u4r utj utk utm).2.1

theorem W.z4d {nz wz S0 w0 Lr} (lx0 : Nat) (rx0 : Nat) (u4q : Nat → Value) (u4r : Nat) (utj : Nat) (utk : Nat) (utm : Nat) : ∀ a r, M.sim_Runner_ends_1_4_l2 a = some r → (L.z4d nz wz S0 w0 Lr lx0 rx0 u4q u4r utj utk utm) a r := (W.z4e lx0 rx0 u4q u4r utj utk utm).2.2

theorem W.z4a (uvf : List Int) (utn : Int) (uto : ByteArray) (r : List Int) (h : M.sim_Runner_ends_1_4 uvf utn uto = some r) {nz wz S0 w0 Lr} (lx0 rx0 u4q u4r uvh uvi uvj uvk utj utk utm) (p0 : Hp nz wz S0 w0 ((some lx0, .obj (lpst 61 (lfr 13 [(2, (pt u4r 0)), (6, .func (.func 62) #[] #[(pt utj 0), (pt utk 0), (pt utm 0)])] u4q) #[7] (rfAssign (Qn9)) (rfBody (Qn9)) rx0 .ready none)) :: (some u4r, .row 58 [.slice (Gp uvh) uvi uvj] 1 0) :: (uvh, .row 3 uvk (uvj * (kInt .i64).size) 0) :: (some utj, .row 3 [.i utn] 1 0) :: (some utk, .row 63 [.pointer none] 1 0) :: (some utm, .row 9 [.string uto] 1 0) :: Lr)) (uw7 : Els (kInt .i64) S0 w0 uvk uvf) (uw8 : uvf.length = uvi) :
  Calls Try.prog 62 #[yieldV lx0, (pt utj 0), (pt utk 0), (pt utm 0)] w0 (Rets (Post.z4a nz wz S0 w0 Lr lx0 rx0 u4q u4r utj utk utm utn uto r)) := by
 subst uw8
 refine calls_of_goes (fn := Try.f62) (c := B62) (by kernel_rfl) (by kernel_rfl) 25 (by kernel_rfl) ?_
 refine Goes.jp 29 [(0, yieldV lx0), (1, (pt utj 0)), (2, (pt utk 0)), (3, (pt utm 0))] (fun junk => ?_)
 delta M.sim_Runner_ends_1_4 at h
 refine Goes.rn 2 [] Jtt ?_
 refine Goes.ld 3 (.tmp 1) 6 3 ⟨utj, 0, none⟩ (.i utn) (p0.c 3 0) ?_
 refine Goes.rn 4 [(5, .i utn)] Jtg ?_
 exact Goes.jp 29 [(0, yieldV lx0), (2, (pt utk 0)), (3, (pt utm 0)), (5, .i utn)] (W.z4b lx0 rx0 u4q u4r utj utk utm _ _ h _ _ (Ext.refl S0 w0) uvh uvf.length uvj uvk p0 uw7 rfl)

def Post.z4f (upe : Nat) (uwj : Nat) (uwl : Nat) (uwm : Int) (uwn : ByteArray) (r : List Int) (v : Value) (w' : World) : Prop :=
 ∃ S' Gq nq cq csq, v = .slice (Gp Gq) nq cq ∧ Ext S0 w0 S' w' ∧ Hp nz wz S' w' ((Gq, .row 3 csq (cq * (kInt .i64).size) 0) :: (some upe, .row 3 [.i uwm] 1 0) :: (some uwj, .row 63 [.pointer none] 1 0) :: (some uwl, .row 9 [.string uwn] 1 0) :: Lr) ∧ Els (kInt .i64) S' w' csq r ∧ r.length = nq

theorem W.z4f (uwm : Int) (uwn : ByteArray) (r : List Int) (h : M.slices_AppendSeq_int_int_4 uwm uwn = some r) {nz wz S0 w0 Lr} (upe uwj uwl) (p0 : Hp nz wz S0 w0 ((some upe, .row 3 [.i uwm] 1 0) :: (some uwj, .row 63 [.pointer none] 1 0) :: (some uwl, .row 9 [.string uwn] 1 0) :: Lr)) :
  Calls Try.prog 61 #[.slice none 0 0, .func (.func 62) #[] #[(pt upe 0), (pt uwj 0), (pt uwl 0)]] w0 (Rets (Post.z4f nz wz S0 w0 Lr upe uwj uwl uwm uwn r)) := by
 refine calls_of_goes (fn := Try.f61) (c := B61) (by kernel_rfl) (by kernel_rfl) 11 (by kernel_rfl) ?_
 refine Goes.jp 13 [(0, .slice none 0 0), (1, .func (.func 62) #[] #[(pt upe 0), (pt uwj 0), (pt uwl 0)])] (fun junk => ?_)
 delta M.slices_AppendSeq_int_int_4 at h
 refine Goes.rn 2 [] Jtv ?_
 refine Op_.box 58 (.tmp 0) 2 0 (.slice none 0 0) [.slice none 0 0] p0 Goes.v (by kernel_rfl) (by kernel_rfl) ?_
 intro b4 w2 z2 p2
 refine Goes.rn 8 [(4, .slice none 0 0), (6, .func (.func 62) #[] #[(pt upe 0), (pt uwj 0), (pt uwl 0)])] Jty ?_
 refine Goes.jp 13 [(2, (pt b4 0)), (6, .func (.func 62) #[] #[(pt upe 0), (pt uwj 0), (pt uwl 0)])] (fun u12s => ?_)
 refine Goes.rangeF (f := 61) (.tmp 6) #[7] 62 #[] #[(pt upe 0), (pt uwj 0), (pt uwl 0)] (by kernel_rfl) (by kernel_rfl) (fun _ => by kernel_rfl) p2 ?_
 intro r7 l8 w3 z3 p3
 have p3 : Hp nz wz S0 w3 ((none, .row 3 [] (0 * (kInt .i64).size) 0) :: (some l8, .obj (lpst 61 (lfr 13 [(2, (pt b4 0)), (6, .func (.func 62) #[] #[(pt upe 0), (pt uwj 0), (pt uwl 0)])] u12s) #[7] (rfAssign (Qn9)) (rfBody (Qn9)) r7 .ready none)) :: (some r7, .obj (.deferred (some []))) :: (some b4, .row 58 [.slice none 0 0] 1 0) :: (some upe, .row 3 [.i uwm] 1 0) :: (some uwj, .row 63 [.pointer none] 1 0) :: (some uwl, .row 9 [.string uwn] 1 0) :: Lr) := p3.nilRow' 3
 have p3 := (((((p3.fr 6).fr 6).fr 6).fr 3).fr 6).fr 5
 refine bind_some' h fun y12 e13 h => ?_
 refine ⟨_, W.z4a ([] : List Int) uwm uwn y12 e13 l8 r7 u12s b4 none 0 0 [] upe uwj uwl p3 (Els.nil (K := (kInt .i64))) rfl, ?_⟩
 rintro _ w4 ⟨S4, uhf, uhg, uhh, uhi, rfl, z4, p4, uhn, rfl⟩
 refine Goes.endF 0 p4 rfl rfl ?_
 intro w5 z5 p5
 replace p5 : Hp nz wz S4 w5 ((some b4, .row 58 [.slice (Gp uhf) y12.length uhh] 1 0) :: (uhf, .row 3 uhi (uhh * (kInt .i64).size) 0) :: (some upe, .row 3 [.i uwm] 1 0) :: (some uwj, .row 63 [.pointer none] 1 0) :: (some uwl, .row 9 [.string uwn] 1 0) :: (some r7, .obj (.deferred (some []))) :: Lr) := (p5.front 0 _ rfl).drop
 show Goes _ _ Jtx _ _ _
 refine Goes.rn 3 [] Ju0 ?_
 refine Goes.ld 58 (.tmp 2) 12 58 ⟨b4, 0, none⟩ (.slice (Gp uhf) y12.length uhh) (p5.c 0 0) ?_
 refine Goes.rn 2 [(4, .slice (Gp uhf) y12.length uhh)] Jtz ?_
 obtain rfl := Option.some.inj h
 have p5 := p5.dp 0
 have p5 := ((((p5.fr 3).fr 3).fr 3).fr 3).fr 4
 refine Goes.retL ?_
 refine lvs_mark 0 rfl rfl p5 rfl ?_
 intro w6 z6 p6
 replace p6 : Hp nz wz S4 w6 ((uhf, .row 3 uhi (uhh * (kInt .i64).size) 0) :: (some upe, .row 3 [.i uwm] 1 0) :: (some uwj, .row 63 [.pointer none] 1 0) :: (some uwl, .row 9 [.string uwn] 1 0) :: Lr) := p6.drop
 exact lvs_done (fn := Try.f61) rfl rfl rfl rfl (by kernel_rfl) (v := .slice (Gp uhf) y12.length uhh) (by kernel_rfl) ⟨S4, uhf, y12.length, uhh, uhi, rfl, ((((((Ext.refl S0 w0).trans z2).trans z3).trans z4).trans z5).trans z6), p6, (uhn.ext (z5.trans z6)), rfl⟩

def Post.z4g (uyv : Nat) (uyw : Nat) (uyy : Nat) (uyz : Int) (uz0 : ByteArray) (r : List Int) (v : Value) (w' : World) : Prop :=
 ∃ S' Gq nq cq csq, v = .slice (Gp Gq) nq cq ∧ Ext S0 w0 S' w' ∧ Hp nz wz S' w' ((Gq, .row 3 csq (cq * (kInt .i64).size) 0) :: (some uyv, .row 3 [.i uyz] 1 0) :: (some uyw, .row 63 [.pointer none] 1 0) :: (some uyy, .row 9 [.string uz0] 1 0) :: Lr) ∧ Els (kInt .i64) S' w' csq r ∧ r.length = nq

theorem W.z4g (uyz : Int) (uz0 : ByteArray) (r : List Int) (h : M.slices_Collect_int_2 uyz uz0 = some r) {nz wz S0 w0 Lr} (uyv uyw uyy) (p0 : Hp nz wz S0 w0 ((some uyv, .row 3 [.i uyz] 1 0) :: (some uyw, .row 63 [.pointer none] 1 0) :: (some uyy, .row 9 [.string uz0] 1 0) :: Lr)) :
  Calls Try.prog 41 #[.func (.func 62) #[] #[(pt uyv 0), (pt uyw 0), (pt uyy 0)]] w0 (Rets (Post.z4g nz wz S0 w0 Lr uyv uyw uyy uyz uz0 r)) := by
 refine calls_of_goes (fn := Try.f41) (c := B41) (by kernel_rfl) (by kernel_rfl) 4 (by kernel_rfl) ?_
 refine Goes.jp 5 [(0, .func (.func 62) #[] #[(pt uyv 0), (pt uyw 0), (pt uyy 0)])] (fun junk => ?_)
 delta M.slices_Collect_int_2 at h
 refine Goes.rn 7 [(2, .slice none 0 0), (3, .func (.func 62) #[] #[(pt uyv 0), (pt uyw 0), (pt uyy 0)])] Ju2 ?_
 refine bind_some' h fun y4 e5 h => ?_
 refine Goes.cal (.call { callee := .value (.func 61), args := #[(.const (.slice none 0 0)), (.tmp 3)], argTypes := #[58, 92] }) 4 58 61 _ (W.z4f uyz uz0 y4 e5 uyv uyw uyy p0 ) ?_
 rintro _ w2 ⟨S2, uzy, uzz, u100, u101, rfl, z2, p2, u10o, rfl⟩
 refine Goes.rn 2 [(2, .slice (Gp uzy) y4.length u100)] Ju1 ?_
 obtain rfl := Option.some.inj h
 exact Goes.rt Try.f41 (.slice (Gp uzy) y4.length u100) ⟨S2, uzy, y4.length, u100, u101, rfl, ((Ext.refl S0 w0).trans z2), p2, u10o, rfl⟩

def L.z4h : ByteArray × Int × Int × Bool → ((List Int) × Int) → Prop := fun ⟨x1, x2, x9, x20⟩ r => ∀ S1 w1, Ext S0 w0 S1 w1 → ∀ (_ : Hp nz wz S1 w1 (Lr)) (junk : Nat → Value),
 Goes Try.prog (base 23) Ju5 ⟨lfr 35 [(1, .string x1), (2, .i x2), (8, .pointer none), (9, .i x9), (20, .bool x20)] junk, []⟩ w1 (Done Try.prog 23 (Rets (Post.z46 nz wz S0 w0 Lr r)))

theorem W.z4h {nz wz S0 w0 Lr} : ∀ a r, M.sim_Ends_l1 a = some r → L.z4h nz wz S0 w0 Lr a r := by
 intro ⟨x1, x2, x9, x20⟩ r h S1 w1 hx p1 junk
 rw [M.sim_Ends_l1] at h
 try dsimp only at h
 refine ite_some h (fun h42 h => ?_) (fun h42 h => ?_)
 ·
  rw [h42]
  refine Goes.rn 6 [(6, .slice none 0 0), (7, .i 2)] Ju6 ?_
  have p1 : Hp nz wz S1 w1 ((none, .row 3 [] (0 * (kInt .i64).size) 0) :: Lr) := p1.nilRow' 3
  obtain rfl := Option.some.inj h
  exact Goes.rt Try.f23 (.tuple #[.slice (Gp none) 0 0, .i 2]) ⟨S1, none, 0, 0, [], rfl, hx, p1, (Els.nil (K := (kInt .i64))), rfl⟩
 ·
  have umw : x20 = false := by simpa using h42
  rw [umw]
  refine Goes.rn 8 [(29, .pointer none), (30, .string x1), (31, .i x2)] Ju8 ?_
  refine bind_some' h fun y44 e45 h => ?_
  refine Goes.cal (kc 42 [29, 30, 31] #[63, 9, 3]) 32 92 42 _ (W.z48 x1 x2 y44 e45  p1 ) ?_
  rintro _ w6 ⟨S6, u12t, u12u, u12v, rfl, z6, p6⟩
  refine bind_some' h fun y49 e50 h => ?_
  refine Goes.cal (kc 41 [32] #[92]) 33 58 41 _ (W.z4g y44.1 y44.2 y49 e50 u12t u12u u12v p6 ) ?_
  rintro _ w7 ⟨S7, u12w, u12x, u12y, u12z, rfl, z7, p7, u13, rfl⟩
  have p7 := ((p7.dp 1).dp 1).dp 1
  refine Goes.rn 4 [(34, .i x9), (6, .slice (Gp u12w) y49.length u12y), (7, .i x9)] Ju7 ?_
  obtain rfl := Option.some.inj h
  exact Goes.rt Try.f23 (.tuple #[.slice (Gp u12w) y49.length u12y, .i x9]) ⟨S7, u12w, y49.length, u12y, u12z, rfl, ((hx.trans z6).trans z7), p7, u13, rfl⟩

def Qny := sub [1, 1] B23
def Ju9 : List Item := [.code Qny]
def Qnz := sub [1, 0] B23
def Jua : List Item := .inRegion (opsOf Qnz) [2, 3, 4, 5, 6, 7] :: Ju9
def Qo0 := sub [1, 1, 0, 0, 1] B23
def Jub : List Item := .code Qo0 :: Ju4
def Qo1 := sub [1, 1, 0, 0, 1, 1, 0] B23
def Juc : List Item := .inRegion (opsOf Qo1) [3, 4, 5, 6, 7, 8] :: Ju5
def Qo2 := sub [1, 1, 0, 0, 1, 0, 1] B23
def Jud : List Item := .code Qo2 :: Ju4

theorem W.z46 (x0 : List T88) (x1 : ByteArray) (x2 : Int) (r : (List Int) × Int) (h : M.sim_Ends x0 x1 x2 = some r) {nz wz S0 w0 Lr} (Ax0 nx0 cx0) (p0 : Hp nz wz S0 w0 (Lr)) (fx0 : Rd kT88 S0 w0 Ax0 cx0 x0) (lx0 : x0.length = nx0) :
  Calls Try.prog 23 #[.slice Ax0 nx0 cx0, .string x1, .i x2] w0 (Rets (Post.z46 nz wz S0 w0 Lr r)) := by
 subst lx0
 refine calls_of_goes (fn := Try.f23) (c := B23) (by kernel_rfl) (by kernel_rfl) 32 (by kernel_rfl) ?_
 refine Goes.jp 35 [(0, .slice Ax0 x0.length cx0), (1, .string x1), (2, .i x2)] (fun junk => ?_)
 delta M.sim_Ends at h
 refine Goes.rn 9 [(6, .slice none 0 0), (7, .i 0), (11, .slice Ax0 x0.length cx0), (12, .string x1)] Jua ?_
 refine bind_some' h fun y1 e2 h => ?_
 rcases y1 with uj2 | uj3
 ·
  try dsimp only at h
  refine Goes.cal (kc 26 [11, 12] #[35, 9]) 13 64 26 _ (W.z39 x0 x1 (Sum.inl uj2) e2 Ax0 x0.length cx0 p0 fx0 rfl) ?_
  rintro _ w2 ⟨S2, uj4, uj5, uj6, uj7, uj8, uj9, uja, ujb, ujc, ujd, uje, ujf, ujg, ujh, uji, ujj, ujk, ujl, ujm, ujn, ujo, ujp, ujq, rfl, z2, p2, ujr, rfl, ujs, rfl, ujt, rfl, uju, rfl, ujv, rfl⟩
  refine Goes.rn 14 [(10, .tuple #[(pt uj4 0), .i uj2.2]), (14, (pt uj4 0)), (15, .i uj2.2), (8, (pt uj4 0)), (9, .i uj2.2), (17, .i uj2.2), (18, .bool (!(decide (uj2.2 = 0)))), (16, .bool (!(decide (uj2.2 = 0))))] Jub ?_
  refine ite_some h (fun h11 h => ?_) (fun h11 h => ?_)
  ·
   rw [decide_eq_true h11]
   refine Goes.rn 6 [(21, .i x2), (22, .bool (decide (x2 < 0))), (23, .bool (decide (x2 < 0)))] Juc ?_
   refine ite_some h (fun h12 h => ?_) (fun h12 h => ?_)
   ·
    rw [decide_eq_true h12]
    refine Goes.rn 7 [(24, undef), (25, undef), (26, undef), (27, undef), (28, .bool true), (20, .bool true)] Ju5 ?_
    exact Goes.jp 35 [(1, .string x1), (2, .i x2), (8, (pt uj4 0)), (9, .i uj2.2), (20, .bool true)] (W.z47 _ _ h _ _ ((Ext.refl S0 w0).trans z2) uj4 uj5 uj2.1.l.length uj7 uj8 uj9 uja uj2.1.now.place.length ujc ujd uje uj2.1.now.list.length ujg ujh uji ujj uj2.1.next.place.length ujl ujm ujn uj2.1.next.list.length ujp ujq p2 ujr rfl ujs rfl ujt rfl uju rfl ujv rfl)
   ·
    rw [decide_eq_false h12]
    refine Goes.rn 7 [(24, .i x2), (25, .string x1), (26, .i (x1.size : Int)), (27, .bool (decide (x2 > (x1.size : Int)))), (28, .bool (decide (x2 > (x1.size : Int)))), (20, .bool (decide (x2 > (x1.size : Int))))] Ju5 ?_
    exact Goes.jp 35 [(1, .string x1), (2, .i x2), (8, (pt uj4 0)), (9, .i uj2.2), (20, .bool (decide (x2 > (x1.size : Int))))] (W.z47 _ _ h _ _ ((Ext.refl S0 w0).trans z2) uj4 uj5 uj2.1.l.length uj7 uj8 uj9 uja uj2.1.now.place.length ujc ujd uje uj2.1.now.list.length ujg ujh uji ujj uj2.1.next.place.length ujl ujm ujn uj2.1.next.list.length ujp ujq p2 ujr rfl ujs rfl ujt rfl uju rfl ujv rfl)
  ·
   rw [decide_eq_false h11]
   refine Goes.rn 7 [(19, .i uj2.2), (6, .slice none 0 0), (7, .i uj2.2)] Jud ?_
   have p2 : Hp nz wz S2 w2 ((none, .row 3 [] (0 * (kInt .i64).size) 0) :: (some uj4, .row 97 [.slice (Gp uj5) uj2.1.l.length uj7, (pt uj9 0), (pt uji 0)] 3 0) :: (uj5, .row 89 uj8 (uj7 * kT88.size) 0) :: (some uj9, .row 106 [.slice (Gp uja) uj2.1.now.place.length ujc, .slice (Gp uje) uj2.1.now.list.length ujg] 2 0) :: (uja, .row 3 ujd (ujc * (kInt .i64).size) 0) :: (uje, .row 98 ujh (ujg * (kInt .i64).size) 0) :: (some uji, .row 106 [.slice (Gp ujj) uj2.1.next.place.length ujl, .slice (Gp ujn) uj2.1.next.list.length ujp] 2 0) :: (ujj, .row 3 ujm (ujl * (kInt .i64).size) 0) :: (ujn, .row 98 ujq (ujp * (kInt .i64).size) 0) :: Lr) := p2.nilRow' 3
   obtain rfl := Option.some.inj h
   have p2 := (((((((p2.dp 1).dp 1).dp 1).dp 1).dp 1).dp 1).dp 1).dp 1
   exact Goes.rt Try.f23 (.tuple #[.slice (Gp none) 0 0, .i uj2.2]) ⟨S2, none, 0, 0, [], rfl, ((Ext.refl S0 w0).trans z2), p2, (Els.nil (K := (kInt .i64))), rfl⟩
 ·
  try dsimp only at h
  refine Goes.cal (kc 26 [11, 12] #[35, 9]) 13 64 26 _ (W.z39 x0 x1 (Sum.inr uj3) e2 Ax0 x0.length cx0 p0 fx0 rfl) ?_
  rintro _ w3 ⟨S3, rfl, z3, p3⟩
  refine Goes.rn 14 [(10, .tuple #[.pointer none, .i uj3]), (14, .pointer none), (15, .i uj3), (8, .pointer none), (9, .i uj3), (17, .i uj3), (18, .bool (!(decide (uj3 = 0)))), (16, .bool (!(decide (uj3 = 0))))] Jub ?_
  refine ite_some h (fun h22 h => ?_) (fun h22 h => ?_)
  ·
   rw [decide_eq_true h22]
   refine Goes.rn 6 [(21, .i x2), (22, .bool (decide (x2 < 0))), (23, .bool (decide (x2 < 0)))] Juc ?_
   refine ite_some h (fun h23 h => ?_) (fun h23 h => ?_)
   ·
    rw [decide_eq_true h23]
    refine Goes.rn 7 [(24, undef), (25, undef), (26, undef), (27, undef), (28, .bool true), (20, .bool true)] Ju5 ?_
    exact Goes.jp 35 [(1, .string x1), (2, .i x2), (8, .pointer none), (9, .i uj3), (20, .bool true)] (W.z4h _ _ h _ _ ((Ext.refl S0 w0).trans z3) p3)
   ·
    rw [decide_eq_false h23]
    refine Goes.rn 7 [(24, .i x2), (25, .string x1), (26, .i (x1.size : Int)), (27, .bool (decide (x2 > (x1.size : Int)))), (28, .bool (decide (x2 > (x1.size : Int)))), (20, .bool (decide (x2 > (x1.size : Int))))] Ju5 ?_
    exact Goes.jp 35 [(1, .string x1), (2, .i x2), (8, .pointer none), (9, .i uj3), (20, .bool (decide (x2 > (x1.size : Int))))] (W.z4h _ _ h _ _ ((Ext.refl S0 w0).trans z3) p3)
  ·
   rw [decide_eq_false h22]
   refine Goes.rn 7 [(19, .i uj3), (6, .slice none 0 0), (7, .i uj3)] Jud ?_
   have p3 : Hp nz wz S3 w3 ((none, .row 3 [] (0 * (kInt .i64).size) 0) :: Lr) := p3.nilRow' 3
   obtain rfl := Option.some.inj h
   exact Goes.rt Try.f23 (.tuple #[.slice (Gp none) 0 0, .i uj3]) ⟨S3, none, 0, 0, [], rfl, ((Ext.refl S0 w0).trans z3), p3, (Els.nil (K := (kInt .i64))), rfl⟩

def Qo3 := sub [1, 1, 1] B24
def Jue : List Item := [.code Qo3]
def Juf : List Item := .inBlock 0 :: Jue
def Qo4 := sub [1, 1, 0, 1, 0, 0] B24
def Jug : List Item := .inLoop Qo4 :: Juf
def Juh : List Item := .code Qo4 :: Jug
def Qo5 := sub [1, 1, 0, 1, 0, 0, 1] B24
def Jui : List Item := .code Qo5 :: Jug
def Qo6 := sub [1, 1, 0, 1, 0, 0, 0, 1] B24
def Juj : List Item := .code Qo6 :: Jui
def Qo7 := sub [1, 1, 0, 1, 0, 0, 1, 1] B24
def Juk : List Item := .code Qo7 :: Jug
def Jul : List Item := .inBlock 1 :: Juk
def Qo8 := sub [1, 1, 0, 1, 0, 0, 1, 0, 0, 1] B24
def Jum : List Item := .code Qo8 :: Jul
def Qo9 := sub [1, 1, 0, 1, 0, 0, 1, 0, 0, 0] B24
def Jun : List Item := .code Qo9 :: Jum
def Qoa := sub [1, 1, 0, 1, 0, 0, 1, 0, 0, 1, 0, 1] B24
def Juo : List Item := .code Qoa :: Jul
def Qob := sub [1, 1, 1, 1] B24
def Jup : List Item := [.code Qob]

def Post.z4i (r : Bool) (v : Value) (w' : World) : Prop :=
 ∃ S', v = .bool r ∧ Ext S0 w0 S' w' ∧ Hp nz wz S' w' (Lr)

def L.z4j : (List Int) × (List Int) × Int → Bool → Prop := fun ⟨x0, x1, x5⟩ r => ∀ S1 w1, Ext S0 w0 S1 w1 → ∀ Ax0 nx0 cx0 Ax1 nx1 cx1 (_ : Hp nz wz S1 w1 (Lr)) (_ : Rd (kInt .i64) S1 w1 Ax0 cx0 x0) (_ : x0.length = nx0) (_ : Rd (kInt .i64) S1 w1 Ax1 cx1 x1) (_ : x1.length = nx1) (junk : Nat → Value),
 Goes Try.prog (base 24) Juh ⟨lfr 26 [(0, .slice Ax0 nx0 cx0), (1, .slice Ax1 nx1 cx1), (5, .i x5)] junk, []⟩ w1 (Done Try.prog 24 (Rets (Post.z4i nz wz S0 w0 Lr r)))

theorem W.z4j {nz wz S0 w0 Lr} : ∀ a r, M.tidepolebase_SameInts_l0 a = some r → (L.z4j nz wz S0 w0 Lr) a r := by
 refine M.tidepolebase_SameInts_l0.partial_correctness (motive := (L.z4j nz wz S0 w0 Lr)) ?_
 intro u130 u131 ⟨x0, x1, x5⟩ r h S1 w1 hx Ax0 nx0 cx0 Ax1 nx1 cx1 p1 fx0 lx0 fx1 lx1 junk
 try dsimp only at h
 subst lx0
 subst lx1
 refine Goes.rn 8 [(11, .i x5), (12, .slice Ax0 x0.length cx0), (13, .i (x0.length : Int)), (14, .bool (decide (x5 < (x0.length : Int))))] Juj ?_
 refine ite_some h (fun h2 h => ?_) (fun h2 h => ?_)
 ·
  rw [decide_eq_true h2]
  refine Goes.rn 5 [] Jun ?_
  have z2 : Ext S1 w1 S1 (w1).drew := Ext.draw
  have p2 := p1.draw
  refine Goes.drawn (s := []) (F := Fc S1 (w1).drew []) 6 9 (by kernel_rfl) (by kernel_rfl) (by kernel_rfl) (by kernel_rfl) ?_
  generalize (w1).drew = w2 at z2 p2 ⊢
  refine AnyG.pu 0 (.move (.tmp 0)) 17 58 (.slice Ax0 x0.length cx0) (Fc.here trivial) ?_
  refine AnyG.pu 1 (.move (.tmp 5)) 18 3 (.i x5) (Fc.here trivial) ?_
  refine guard_some' h fun g3 h => ?_
  refine AnyG.ixR_n (i := 2) 58 (.tmp 17) (.tmp 18) 19 0 3 .i64 x5 (gi x0 x5) rfl rfl (fx0.ext z2) (by kernel_rfl) (by kernel_rfl) (Fc.here trivial) (by kernel_rfl) (by kernel_rfl) (by kernel_rfl) (by kernel_rfl) g3 h2 ?_
  intro a4 _ f5 q6
  obtain rfl := q6
  refine AnyG.ld1 (i := 3) 3 (.tmp 19) 20 3 a4 (.i (gi x0 x5)) (by kernel_rfl) (by kernel_rfl) (Fc.here trivial) (by kernel_rfl) (by kernel_rfl) (fun _ h => f5.fc h 0 _ rfl) ?_
  refine AnyG.pu 4 (.move (.tmp 1)) 21 58 (.slice Ax1 x1.length cx1) (Fc.here trivial) ?_
  refine AnyG.pu 5 (.move (.tmp 5)) 22 3 (.i x5) (Fc.here trivial) ?_
  refine guard_some' h fun g7 h => ?_
  refine AnyG.ixR_n (i := 6) 58 (.tmp 21) (.tmp 22) 23 0 3 .i64 x5 (gi x1 x5) rfl rfl (fx1.ext z2) (by kernel_rfl) (by kernel_rfl) (Fc.here trivial) (by kernel_rfl) (by kernel_rfl) (by kernel_rfl) (by kernel_rfl) g3 g7 ?_
  intro a8 _ f9 q10
  obtain rfl := q10
  refine AnyG.ld1 (i := 7) 3 (.tmp 23) 24 3 a8 (.i (gi x1 x5)) (by kernel_rfl) (by kernel_rfl) (Fc.here trivial) (by kernel_rfl) (by kernel_rfl) (fun _ h => f9.fc h 0 _ rfl) ?_
  refine AnyG.pu 8 (.binOp .neq 3 (.tmp 20) (.tmp 24) 3) 25 4 (.bool (!(decide (gi x0 x5 = gi x1 x5)))) (Fc.here trivial) ?_
  refine AnyG.done (by kernel_rfl) ?_ _
  refine ite_some h (fun h11 h => ?_) (fun h11 h => ?_)
  ·
   rw [decide_eq_true h11]
   refine Goes.rn 9 [(15, .i x5), (16, .i (wr .i64 (x5 + 1))), (5, .i (wr .i64 (x5 + 1)))] Juh ?_
   exact Goes.jp 26 [(0, .slice Ax0 x0.length cx0), (1, .slice Ax1 x1.length cx1), (5, .i (wr .i64 (x5 + 1)))] (u131 _ _ h _ _ (hx.trans z2) Ax0 x0.length cx0 Ax1 x1.length cx1 p2 (fx0.ext z2) rfl (fx1.ext z2) rfl)
  ·
   rw [decide_eq_false h11]
   refine Goes.rn 5 [(4, .bool false)] Juo ?_
   obtain rfl := Option.some.inj h
   exact Goes.rt Try.f24 (.bool false) ⟨S1, rfl, (hx.trans z2), p2⟩
 ·
  rw [decide_eq_false h2]
  refine Goes.rn 6 [(4, .bool true)] Jup ?_
  obtain rfl := Option.some.inj h
  exact Goes.rt Try.f24 (.bool true) ⟨S1, rfl, hx, p1⟩

def Qoc := sub [1, 1] B24
def Juq : List Item := [.code Qoc]
def Qod := sub [1, 0, 1] B24
def Jur : List Item := .code Qod :: Juq
def Qoe := sub [1, 0, 1, 0, 1] B24
def Jus : List Item := .code Qoe :: Juq

theorem W.z4i (x0 : List Int) (x1 : List Int) (r : Bool) (h : M.tidepolebase_SameInts x0 x1 = some r) {nz wz S0 w0 Lr} (Ax0 nx0 cx0 Ax1 nx1 cx1) (p0 : Hp nz wz S0 w0 (Lr)) (fx0 : Rd (kInt .i64) S0 w0 Ax0 cx0 x0) (lx0 : x0.length = nx0) (fx1 : Rd (kInt .i64) S0 w0 Ax1 cx1 x1) (lx1 : x1.length = nx1) :
  Calls Try.prog 24 #[.slice Ax0 nx0 cx0, .slice Ax1 nx1 cx1] w0 (Rets (Post.z4i nz wz S0 w0 Lr r)) := by
 subst lx0
 subst lx1
 refine calls_of_goes (fn := Try.f24) (c := B24) (by kernel_rfl) (by kernel_rfl) 24 (by kernel_rfl) ?_
 refine Goes.jp 26 [(0, .slice Ax0 x0.length cx0), (1, .slice Ax1 x1.length cx1)] (fun junk => ?_)
 delta M.tidepolebase_SameInts at h
 refine Goes.rn 13 [(4, .bool false), (6, .slice Ax0 x0.length cx0), (7, .i (x0.length : Int)), (8, .slice Ax1 x1.length cx1), (9, .i (x1.length : Int)), (10, .bool (!(decide ((x0.length : Int) = (x1.length : Int)))))] Jur ?_
 refine ite_some h (fun h1 h => ?_) (fun h1 h => ?_)
 ·
  rw [decide_eq_true h1]
  refine Goes.rn 9 [(5, .i 0)] Juh ?_
  exact Goes.jp 26 [(0, .slice Ax0 x0.length cx0), (1, .slice Ax1 x1.length cx1), (5, .i 0)] (W.z4j _ _ h _ _ (Ext.refl S0 w0) Ax0 x0.length cx0 Ax1 x1.length cx1 p0 fx0 rfl fx1 rfl)
 ·
  rw [decide_eq_false h1]
  refine Goes.rn 5 [(4, .bool false)] Jus ?_
  obtain rfl := Option.some.inj h
  exact Goes.rt Try.f24 (.bool false) ⟨S0, rfl, (Ext.refl S0 w0), p0⟩

def Qof := sub [1, 1] B11
def Jut : List Item := [.code Qof]
def Qog := sub [1, 0] B11
def Juu : List Item := .inRegion (opsOf Qog) [0, 1, 2, 3, 4, 5, 6, 7] :: Jut
def Qoh := sub [1, 1, 1] B11
def Juv : List Item := [.code Qoh]
def Qoi := sub [1, 1, 0] B11
def Juw : List Item := .inRegion (opsOf Qoi) [0, 1, 2, 3, 4, 5, 6, 7] :: Juv
def Qoj := sub [1, 1, 1, 1] B11
def Jux : List Item := [.code Qoj]
def Qok := sub [1, 1, 1, 0] B11
def Juy : List Item := .inRegion (opsOf Qok) [0, 1, 2, 3, 4, 5, 6, 7, 8] :: Jux
def Juz : List Item := .inRegion (opsOf Qok) [5, 6, 7, 8] :: Jux
def Qol := sub [1, 1, 1, 1, 1] B11
def Jv0 : List Item := [.code Qol]
def Qom := sub [1, 1, 1, 1, 0] B11
def Jv1 : List Item := .inRegion (opsOf Qom) [0, 1, 2, 3, 4, 5, 6] :: Jv0
def Qon := sub [1, 1, 1, 1, 1, 1] B11
def Jv2 : List Item := [.code Qon]
def Qoo := sub [1, 1, 1, 1, 1, 0] B11
def Jv3 : List Item := .inRegion (opsOf Qoo) [1, 2, 3, 4, 5, 6] :: Jv2
def Qop := sub [1, 1, 1, 1, 1, 1, 1] B11
def Jv4 : List Item := [.code Qop]
def Qoq := sub [1, 1, 1, 1, 1, 1, 0] B11
def Jv5 : List Item := .inRegion (opsOf Qoq) [2, 3, 4, 5, 6, 7, 8, 9, 10, 11, 12, 13, 14, 15, 16, 17, 18, 19, 20, 21, 22] :: Jv4
def Jv6 : List Item := .inRegion (opsOf Qoq) [6, 7, 8, 9, 10, 11, 12, 13, 14, 15, 16, 17, 18, 19, 20, 21, 22] :: Jv4
def Jv7 : List Item := .inRegion (opsOf Qoq) [10, 11, 12, 13, 14, 15, 16, 17, 18, 19, 20, 21, 22] :: Jv4
def Jv8 : List Item := .inRegion (opsOf Qoq) [14, 15, 16, 17, 18, 19, 20, 21, 22] :: Jv4
def Jv9 : List Item := .inRegion (opsOf Qoq) [15, 16, 17, 18, 19, 20, 21, 22] :: Jv4
def Jva : List Item := .inRegion (opsOf Qoq) [19, 20, 21, 22] :: Jv4
def Jvb : List Item := .inRegion (opsOf Qoq) [20, 21, 22] :: Jv4
def Jvc : List Item := .inRegion (opsOf Qoq) [16, 17, 18, 19, 20, 21, 22] :: Jv4

def Post.z4k (r : Bool) (v : Value) (w' : World) : Prop :=
 ∃ S', v = .bool r ∧ Ext S0 w0 S' w' ∧ Hp nz wz S' w' (Lr)

theorem W.z4k (r : Bool) (h : M.tidepolelaw12_works = some r) {nz wz S0 w0 Lr} (p0 : Hp nz wz S0 w0 (Lr)) :
  Calls Try.prog 11 #[] w0 (Rets (Post.z4k nz wz S0 w0 Lr r)) := by
 refine calls_of_goes (fn := Try.f11) (c := B11) (by kernel_rfl) (by kernel_rfl) 61 (by kernel_rfl) ?_
 refine Goes.jp 61 [] (fun junk => ?_)
 delta M.tidepolelaw12_works at h
 refine Goes.rn 6 [(0, .bool false)] Juu ?_
 refine bind_some' h fun y1 e2 h => ?_
 refine Goes.cal (.call { callee := .value (.func 16), args := #[(.const (.string ⟨#[40, 97, 124, 98, 41, 42, 99]⟩)), (.const (.string ⟨#[97, 98, 97, 99]⟩))], argTypes := #[9, 9] }) 15 42 16 _ (W.z3w (⟨#[40, 97, 124, 98, 41, 42, 99]⟩ : ByteArray) (⟨#[97, 98, 97, 99]⟩ : ByteArray) y1 e2  p0 ) ?_
 rintro _ w2 ⟨S2, rfl, z2, p2⟩
 refine Goes.rn 10 [(14, .tuple #[.bool y1.1, .i y1.2.1, .i y1.2.2]), (16, .bool y1.1), (17, .i y1.2.1), (18, .i y1.2.2), (1, .bool y1.1), (2, .i y1.2.1), (3, .i y1.2.2)] Juw ?_
 refine bind_some' h fun y3 e4 h => ?_
 refine Goes.cal (.call { callee := .value (.func 16), args := #[(.const (.string ⟨#[40, 97, 124, 98, 41, 42, 99]⟩)), (.const (.string ⟨#[97, 98]⟩))], argTypes := #[9, 9] }) 20 42 16 _ (W.z3w (⟨#[40, 97, 124, 98, 41, 42, 99]⟩ : ByteArray) (⟨#[97, 98]⟩ : ByteArray) y3 e4  p2 ) ?_
 rintro _ w3 ⟨S3, rfl, z3, p3⟩
 refine Goes.rn 10 [(19, .tuple #[.bool y3.1, .i y3.2.1, .i y3.2.2]), (21, .bool y3.1), (22, .i y3.2.1), (23, .i y3.2.2), (4, .bool y3.1), (5, .i y3.2.1), (6, .i y3.2.2)] Juy ?_
 refine bind_some' h fun y5 e6 h => ?_
 refine Goes.cal (.call { callee := .value (.func 8), args := #[(.const (.string ⟨#[97, 42]⟩))], argTypes := #[9] }) 25 30 8 _ (W.z1i (⟨#[97, 42]⟩ : ByteArray) y5 e6  p3 ) ?_
 rintro _ w4 ⟨S4, u132, u133, u134, rfl, z4, p4, u135, u136, rfl⟩
 refine Goes.rn 4 [(24, .tuple #[(ag (.i y5.1.Kind :: U4 y5.1.Set [.slice u132 y5.1.L.length u134, .i y5.1.Min, .i y5.1.Max])), .i y5.2.1, .i y5.2.2]), (26, (ag (.i y5.1.Kind :: U4 y5.1.Set [.slice u132 y5.1.L.length u134, .i y5.1.Min, .i y5.1.Max]))), (27, .i y5.2.1), (28, .i y5.2.2)] Juz ?_
 refine Op_.alloc 28 7 0 (.agg #[.i 0, .u 0, .u 0, .u 0, .u 0, .slice none 0 0, .i 0, .i 0]) [.i 0, .u 0, .u 0, .u 0, .u 0, .slice none 0 0, .i 0, .i 0] p4 Goes.v (by kernel_rfl) (by kernel_rfl) ?_
 intro b7 w5 z5 p5
 refine Op_.st 28 (.tmp 7) (.tmp 26) 0 0 b7 0 (ag (.i y5.1.Kind :: U4 y5.1.Set [.slice u132 y5.1.L.length u134, .i y5.1.Min, .i y5.1.Max])) (.i y5.1.Kind :: U4 y5.1.Set [.slice u132 y5.1.L.length u134, .i y5.1.Min, .i y5.1.Max]) p5 rfl Goes.s (by kernel_rfl) (by kernel_rfl) (by kernel_rfl) (by kernel_rfl) (Nat.zero_le _) (by simp only [List.length_cons, List.length_nil]; omega) (by simp [Value.oneCell']) ?_
 intro w6 z6 p6
 have p6 : Hp nz wz S4 w6 ((some b7, .row 28 (.i y5.1.Kind :: U4 y5.1.Set [.slice u132 y5.1.L.length u134, .i y5.1.Min, .i y5.1.Max]) 8 0) :: Lr) := p6
 refine Goes.rn 5 [(8, .i y5.2.1), (9, .i y5.2.2)] Jv1 ?_
 refine Goes.ldN 28 (.tmp 7) 30 28 ⟨b7, 0, none⟩ (.i y5.1.Kind :: U4 y5.1.Set [.slice u132 y5.1.L.length u134, .i y5.1.Min, .i y5.1.Max]) (p6.pa 0 0) ?_
 refine bind_some' h fun y9 e10 h => ?_
 refine Goes.cal (kc 22 [30] #[28]) 31 56 22 _ (W.z2t y5.1 y9 e10 u132 y5.1.L.length u134 p6 u135 (u136.ext (z5.trans z6)) rfl) ?_
 rintro _ w7 ⟨S7, u137, u138, u139, u13a, rfl, z7, p7, u13b, rfl⟩
 have p7 := p7.dp 1
 refine Goes.rn 9 [(29, .tuple #[.slice (Gp u137) y9.1.length u139, .i y9.2]), (32, .slice (Gp u137) y9.1.length u139), (33, .i y9.2), (10, .slice (Gp u137) y9.1.length u139), (11, .i y9.2), (35, .slice (Gp u137) y9.1.length u139)] Jv3 ?_
 obtain ⟨S8, z8, p8, f12⟩ := p7.freezeRd 0 rfl u13b (by decide)
 refine bind_some' h fun y13 e14 h => ?_
 refine Goes.cal (.call { callee := .value (.func 23), args := #[(.tmp 35), (.const (.string ⟨#[98, 97, 97, 98]⟩)), (.const (.int .i64 1))], argTypes := #[35, 9, 3] }) 36 59 23 _ (W.z46 y9.1 (⟨#[98, 97, 97, 98]⟩ : ByteArray) 1 y13 e14 (Gp u137) y9.1.length u139 p8 f12 rfl) ?_
 rintro _ w9 ⟨S9, u13c, u13d, u13e, u13f, rfl, z9, p9, u13g, rfl⟩
 have p9 := p9.dp 1
 refine Goes.rn 10 [(34, .tuple #[.slice (Gp u13c) y13.1.length u13e, .i y13.2]), (37, .slice (Gp u13c) y13.1.length u13e), (38, .i y13.2), (12, .slice (Gp u13c) y13.1.length u13e), (13, .i y13.2), (39, .bool y1.1), (40, .bool y1.1)] Jv5 ?_
 refine ite_some h (fun h16 h => ?_) (fun h16 h => ?_)
 ·
  rw [h16]
  refine Goes.rn 4 [(41, .i y1.2.2), (42, .bool (decide (y1.2.2 = 0))), (43, .bool (decide (y1.2.2 = 0))), (44, .bool (decide (y1.2.2 = 0)))] Jv6 ?_
  refine ite_some h (fun h17 h => ?_) (fun h17 h => ?_)
  ·
   rw [decide_eq_true h17]
   refine Goes.rn 4 [(45, .bool y3.1), (46, .bool (!y3.1)), (47, .bool (!y3.1)), (48, .bool (!y3.1))] Jv7 ?_
   refine ite_some h (fun h18 h => ?_) (fun h18 h => ?_)
   ·
    rw [h18]
    refine Goes.rn 14 [(49, undef), (50, undef), (51, .bool false), (52, .bool false), (53, undef), (54, undef), (55, undef), (56, .bool false), (57, .bool false), (58, undef), (59, undef), (60, .bool false), (0, .bool false)] Jv4 ?_
    obtain rfl := Option.some.inj h
    have p9 := p9.dp 0
    exact Goes.rt Try.f11 (.bool false) ⟨S9, rfl, (((((((((Ext.refl S0 w0).trans z2).trans z3).trans z4).trans z5).trans z6).trans z7).trans z8).trans z9), p9⟩
   ·
    have u5c : y3.1 = false := by simpa using h18
    rw [u5c]
    refine Goes.rn 4 [(49, .i y3.2.2), (50, .bool (decide (y3.2.2 = 0))), (51, .bool (decide (y3.2.2 = 0))), (52, .bool (decide (y3.2.2 = 0)))] Jv8 ?_
    refine ite_some h (fun h19 h => ?_) (fun h19 h => ?_)
    ·
     rw [decide_eq_true h19]
     refine Goes.rn 1 [(53, .slice (Gp u13c) y13.1.length u13e)] Jv9 ?_
     have f21 : Els (kInt .i64) S9 w9 ([.i 1, .i 2, .i 3] : List Value) [1, 2, 3] := by exact (Els.cons (K := (kInt .i64)) (vs := [.i 1]) (x := 1) rfl (Els.cons (K := (kInt .i64)) (vs := [.i 2]) (x := 2) rfl (Els.cons (K := (kInt .i64)) (vs := [.i 3]) (x := 3) rfl Els.nil)))
     refine Op_.made (.buildSlice 58 3 #[(0, (.const (.int .i64 1))), (1, (.const (.int .i64 2))), (2, (.const (.int .i64 3)))]) 54 58 (fun b => .slice (Gp (some b)) 3 3) 3 ([.i 1, .i 2, .i 3] : List Value) p9 Goes.v (by kernel_rfl) ?_
     intro b20 w10 z10 p10
     have p10 : Hp nz wz S9 w10 (((some b20), .row 3 ([.i 1, .i 2, .i 3] : List Value) (3 * (kInt .i64).size) 0) :: (u13c, .row 3 u13f (u13e * (kInt .i64).size) 0) :: Lr) := p10
     obtain ⟨S11, z11, p11, f23⟩ := p10.freezeRd 1 rfl (u13g.ext z10) (by decide)
     obtain ⟨S12, z12, p12, f24⟩ := p11.freezeRd 0 rfl (f21.ext (z10.trans z11)) (by decide)
     refine bind_some' h fun y25 e26 h => ?_
     refine Goes.cal (kc 24 [53, 54] #[58, 58]) 55 4 24 _ (W.z4i y13.1 [1, 2, 3] y25 e26 (Gp u13c) y13.1.length u13e (Gp (some b20)) 3 3 p12 (f23.ext z12) rfl f24 rfl) ?_
     rintro _ w13 ⟨S13, rfl, z13, p13⟩
     have p13 := (p13.dp 0).dp 0
     refine Goes.rn 2 [(56, .bool y25), (57, .bool y25)] Jva ?_
     refine ite_some h (fun h27 h => ?_) (fun h27 h => ?_)
     ·
      rw [h27]
      refine Goes.rn 5 [(58, .i y13.2), (59, .bool (decide (y13.2 = 0))), (60, .bool (decide (y13.2 = 0))), (0, .bool (decide (y13.2 = 0)))] Jv4 ?_
      obtain rfl := Option.some.inj h
      exact Goes.rt Try.f11 (.bool (decide (y13.2 = 0))) ⟨S13, rfl, (((((((((((((Ext.refl S0 w0).trans z2).trans z3).trans z4).trans z5).trans z6).trans z7).trans z8).trans z9).trans z10).trans z11).trans z12).trans z13), p13⟩
     ·
      have u13h : y25 = false := by simpa using h27
      rw [u13h]
      refine Goes.rn 5 [(58, undef), (59, undef), (60, .bool false), (0, .bool false)] Jv4 ?_
      obtain rfl := Option.some.inj h
      exact Goes.rt Try.f11 (.bool false) ⟨S13, rfl, (((((((((((((Ext.refl S0 w0).trans z2).trans z3).trans z4).trans z5).trans z6).trans z7).trans z8).trans z9).trans z10).trans z11).trans z12).trans z13), p13⟩
    ·
     rw [decide_eq_false h19]
     refine Goes.rn 10 [(53, undef), (54, undef), (55, undef), (56, .bool false), (57, .bool false), (58, undef), (59, undef), (60, .bool false), (0, .bool false)] Jv4 ?_
     obtain rfl := Option.some.inj h
     have p9 := p9.dp 0
     exact Goes.rt Try.f11 (.bool false) ⟨S9, rfl, (((((((((Ext.refl S0 w0).trans z2).trans z3).trans z4).trans z5).trans z6).trans z7).trans z8).trans z9), p9⟩
  ·
   rw [decide_eq_false h17]
   refine Goes.rn 14 [(45, undef), (46, undef), (47, .bool false), (48, .bool false), (49, undef), (50, undef), (51, .bool false), (52, .bool false), (53, undef), (54, undef), (55, undef), (56, .bool false), (57, .bool false), (58, undef)] Jvb ?_
   refine Goes.rn 4 [(59, undef), (60, .bool false), (0, .bool false)] Jv4 ?_
   obtain rfl := Option.some.inj h
   have p9 := p9.dp 0
   exact Goes.rt Try.f11 (.bool false) ⟨S9, rfl, (((((((((Ext.refl S0 w0).trans z2).trans z3).trans z4).trans z5).trans z6).trans z7).trans z8).trans z9), p9⟩
 ·
  have u38 : y1.1 = false := by simpa using h16
  rw [u38]
  refine Goes.rn 14 [(41, undef), (42, undef), (43, .bool false), (44, .bool false), (45, undef), (46, undef), (47, .bool false), (48, .bool false), (49, undef), (50, undef), (51, .bool false), (52, .bool false), (53, undef), (54, undef)] Jvc ?_
  refine Goes.rn 8 [(55, undef), (56, .bool false), (57, .bool false), (58, undef), (59, undef), (60, .bool false), (0, .bool false)] Jv4 ?_
  obtain rfl := Option.some.inj h
  have p9 := p9.dp 0
  exact Goes.rt Try.f11 (.bool false) ⟨S9, rfl, (((((((((Ext.refl S0 w0).trans z2).trans z3).trans z4).trans z5).trans z6).trans z7).trans z8).trans z9), p9⟩

def Qor := sub [1, 1] B30
def Jvd : List Item := [.code Qor]
def Jve : List Item := .inBlock 0 :: Jvd
def Qos := sub [1, 0, 0, 1] B30
def Jvf : List Item := .code Qos :: Jve
def Qot := sub [1, 0, 0, 0, 1, 1, 1] B30
def Jvg : List Item := .code Qot :: Jvf
def Qou := sub [1, 0, 0, 1, 0, 1] B30
def Jvh : List Item := .code Qou :: Jve
def Qov := sub [1, 0, 0, 0, 1, 1, 1, 1] B30
def Jvi : List Item := .inRegion (opsOf Qov) [3, 4, 5, 6] :: Jvf
def Qow := sub [1, 1, 1] B30
def Jvj : List Item := [.code Qow]
def Qox := sub [1, 1, 0] B30
def Jvk : List Item := .inRegion (opsOf Qox) [1, 2, 3] :: Jvj

def Post.z4l (r : Bool) (v : Value) (w' : World) : Prop :=
 ∃ S', v = .bool r ∧ Ext S0 w0 S' w' ∧ Hp nz wz S' w' (Lr)

def L.z4m : Int × Bool → Bool → Prop := fun ⟨x0, x3⟩ r => ∀ S1 w1, Ext S0 w0 S1 w1 → ∀ (_ : Hp nz wz S1 w1 (Lr)) (junk : Nat → Value),
 Goes Try.prog (base 30) Jvg ⟨lfr 25 [(0, .int .u8 x0), (3, .bool x3)] junk, []⟩ w1 (Done Try.prog 30 (Rets (Post.z4l nz wz S0 w0 Lr r)))

theorem W.z4m {nz wz S0 w0 Lr} : ∀ a r, M.syntax_asIs_l1 a = some r → L.z4m nz wz S0 w0 Lr a r := by
 intro ⟨x0, x3⟩ r h S1 w1 hx p1 junk
 rw [M.syntax_asIs_l1] at h
 try dsimp only at h
 refine ite_some h (fun h4 h => ?_) (fun h4 h => ?_)
 ·
  rw [h4]
  refine Goes.rn 7 [(2, .bool true)] Jvh ?_
  obtain rfl := Option.some.inj h
  exact Goes.rt Try.f30 (.bool true) ⟨S1, rfl, hx, p1⟩
 ·
  have h4' : x3 = false := by simpa using h4
  rw [h4']
  refine Goes.rn 5 [(16, .int .u8 x0), (17, .bool (decide (x0 ≥ 65))), (18, .bool (decide (x0 ≥ 65)))] Jvi ?_
  refine ite_some h (fun h5 h => ?_) (fun h5 h => ?_)
  ·
   rw [decide_eq_true h5]
   refine Goes.rn 5 [(19, .int .u8 x0), (20, .bool (decide (x0 ≤ 90))), (21, .bool (decide (x0 ≤ 90))), (3, .bool (decide (x0 ≤ 90)))] Jvf ?_
   refine ite_some h (fun h6 h => ?_) (fun h6 h => ?_)
   ·
    rw [decide_eq_true h6]
    refine Goes.rn 5 [(2, .bool true)] Jvh ?_
    obtain rfl := Option.some.inj h
    exact Goes.rt Try.f30 (.bool true) ⟨S1, rfl, hx, p1⟩
   ·
    rw [decide_eq_false h6]
    refine Goes.rn 6 [(22, .int .u8 x0)] Jvk ?_
    refine bind_some' h fun y7 e8 h => ?_
    refine Goes.cal (.call { callee := .value (.func 52), args := #[(.const (.string ⟨#[95, 44, 58, 59, 60, 61, 62, 64, 33, 34, 35, 37, 38, 39, 126]⟩)), (.tmp 22)], argTypes := #[9, 5] }) 23 3 52 _ (W.zi (⟨#[95, 44, 58, 59, 60, 61, 62, 64, 33, 34, 35, 37, 38, 39, 126]⟩ : ByteArray) x0 y7 e8  p1 ) ?_
    rintro _ w2 ⟨S2, rfl, z2, p2⟩
    refine Goes.rn 3 [(24, .bool (decide (y7 ≥ 0))), (2, .bool (decide (y7 ≥ 0)))] Jvj ?_
    obtain rfl := Option.some.inj h
    exact Goes.rt Try.f30 (.bool (decide (y7 ≥ 0))) ⟨S2, rfl, (hx.trans z2), p2⟩
  ·
   rw [decide_eq_false h5]
   refine Goes.rn 11 [(19, undef), (20, undef), (21, .bool false), (3, .bool false), (22, .int .u8 x0)] Jvk ?_
   refine bind_some' h fun y9 e10 h => ?_
   refine Goes.cal (.call { callee := .value (.func 52), args := #[(.const (.string ⟨#[95, 44, 58, 59, 60, 61, 62, 64, 33, 34, 35, 37, 38, 39, 126]⟩)), (.tmp 22)], argTypes := #[9, 5] }) 23 3 52 _ (W.zi (⟨#[95, 44, 58, 59, 60, 61, 62, 64, 33, 34, 35, 37, 38, 39, 126]⟩ : ByteArray) x0 y9 e10  p1 ) ?_
   rintro _ w3 ⟨S3, rfl, z3, p3⟩
   refine Goes.rn 3 [(24, .bool (decide (y9 ≥ 0))), (2, .bool (decide (y9 ≥ 0)))] Jvj ?_
   obtain rfl := Option.some.inj h
   exact Goes.rt Try.f30 (.bool (decide (y9 ≥ 0))) ⟨S3, rfl, (hx.trans z3), p3⟩

def Qoy := sub [1, 0, 0, 0, 1] B30
def Jvl : List Item := .code Qoy :: Jvf
def Qoz := sub [1, 0, 0, 0, 1, 1, 0] B30
def Jvm : List Item := .inRegion (opsOf Qoz) [3, 4, 5, 6] :: Jvg

def L.z4n : Int × Bool → Bool → Prop := fun ⟨x0, x3⟩ r => ∀ S1 w1, Ext S0 w0 S1 w1 → ∀ (_ : Hp nz wz S1 w1 (Lr)) (junk : Nat → Value),
 Goes Try.prog (base 30) Jvl ⟨lfr 25 [(0, .int .u8 x0), (3, .bool x3)] junk, []⟩ w1 (Done Try.prog 30 (Rets (Post.z4l nz wz S0 w0 Lr r)))

theorem W.z4n {nz wz S0 w0 Lr} : ∀ a r, M.syntax_asIs_l0 a = some r → L.z4n nz wz S0 w0 Lr a r := by
 intro ⟨x0, x3⟩ r h S1 w1 hx p1 junk
 rw [M.syntax_asIs_l0] at h
 try dsimp only at h
 refine ite_some h (fun h2 h => ?_) (fun h2 h => ?_)
 ·
  rw [h2]
  refine Goes.rn 7 [(2, .bool true)] Jvh ?_
  obtain rfl := Option.some.inj h
  exact Goes.rt Try.f30 (.bool true) ⟨S1, rfl, hx, p1⟩
 ·
  have h2' : x3 = false := by simpa using h2
  rw [h2']
  refine Goes.rn 6 [(10, .int .u8 x0), (11, .bool (decide (x0 ≥ 97))), (12, .bool (decide (x0 ≥ 97)))] Jvm ?_
  refine ite_some h (fun h3 h => ?_) (fun h3 h => ?_)
  ·
   rw [decide_eq_true h3]
   refine Goes.rn 5 [(13, .int .u8 x0), (14, .bool (decide (x0 ≤ 122))), (15, .bool (decide (x0 ≤ 122))), (3, .bool (decide (x0 ≤ 122)))] Jvg ?_
   exact Goes.jp 25 [(0, .int .u8 x0), (3, .bool (decide (x0 ≤ 122)))] (W.z4m _ _ h _ _ hx p1)
  ·
   rw [decide_eq_false h3]
   refine Goes.rn 5 [(13, undef), (14, undef), (15, .bool false), (3, .bool false)] Jvg ?_
   exact Goes.jp 25 [(0, .int .u8 x0), (3, .bool false)] (W.z4m _ _ h _ _ hx p1)

def Qp0 := sub [1, 0, 0, 0, 0] B30
def Jvn : List Item := .inRegion (opsOf Qp0) [3, 4, 5, 6] :: Jvl

theorem W.z4l (x0 : Int) (r : Bool) (h : M.syntax_asIs x0 = some r) {nz wz S0 w0 Lr} (p0 : Hp nz wz S0 w0 (Lr)) :
  Calls Try.prog 30 #[.int .u8 x0] w0 (Rets (Post.z4l nz wz S0 w0 Lr r)) := by
 refine calls_of_goes (fn := Try.f30) (c := B30) (by kernel_rfl) (by kernel_rfl) 24 (by kernel_rfl) ?_
 refine Goes.jp 25 [(0, .int .u8 x0)] (fun junk => ?_)
 delta M.syntax_asIs at h
 refine Goes.rn 12 [(2, .bool false), (4, .int .u8 x0), (5, .bool (decide (x0 ≥ 48))), (6, .bool (decide (x0 ≥ 48)))] Jvn ?_
 refine ite_some h (fun h1 h => ?_) (fun h1 h => ?_)
 ·
  rw [decide_eq_true h1]
  refine Goes.rn 5 [(7, .int .u8 x0), (8, .bool (decide (x0 ≤ 57))), (9, .bool (decide (x0 ≤ 57))), (3, .bool (decide (x0 ≤ 57)))] Jvl ?_
  exact Goes.jp 25 [(0, .int .u8 x0), (3, .bool (decide (x0 ≤ 57)))] (W.z4n _ _ h _ _ (Ext.refl S0 w0) p0)
 ·
  rw [decide_eq_false h1]
  refine Goes.rn 5 [(7, undef), (8, undef), (9, .bool false), (3, .bool false)] Jvl ?_
  exact Goes.jp 25 [(0, .int .u8 x0), (3, .bool false)] (W.z4n _ _ h _ _ (Ext.refl S0 w0) p0)

def Qp1 := sub [1] B53
def Jvo : List Item := [.code Qp1]
def Qp2 := sub [0] B53
def Jvp : List Item := .inRegion (opsOf Qp2) [3, 4] :: Jvo
def Qp3 := sub [1, 0] B53
def Jvq : List Item := [.inRegion (opsOf Qp3) [2, 3, 4, 5, 6, 7]]
def Jvr : List Item := [.inRegion (opsOf Qp3) [7]]

def Post.z4o (gx0 : Nat) (r : List Int) (v : Value) (w' : World) : Prop :=
 ∃ S' ugh ugi ugj ugk, v = .tuple #[] ∧ Ext S0 w0 S' w' ∧ Hp nz wz S' w' ((some gx0, .row 72 [(pt gx0 0), .slice (Gp ugh) ugi ugj] 2 0) :: (ugh, .row 5 ugk (ugj * (kInt .u8).size) 0) :: Lr) ∧ Els (kInt .u8) S' w' ugk r ∧ r.length = ugi

theorem W.z4o (u13i : List Int) (r : List Int) (h : M.strings_Builder_copyCheck u13i = some r) {nz wz S0 w0 Lr} (gx0 ugl ugm ugn ugo) (p0 : Hp nz wz S0 w0 ((some gx0, .row 72 [.pointer none, .slice (Gp ugl) ugm ugn] 2 0) :: (ugl, .row 5 ugo (ugn * (kInt .u8).size) 0) :: Lr)) (ugp : Els (kInt .u8) S0 w0 ugo u13i) (ugq : u13i.length = ugm) :
  Calls Try.prog 53 #[(pt gx0 0)] w0 (Rets (Post.z4o nz wz S0 w0 Lr gx0 r)) := by
 subst ugq
 refine calls_of_goes (fn := Try.f53) (c := B53) (by kernel_rfl) (by kernel_rfl) 19 (by kernel_rfl) ?_
 refine Goes.jp 20 [(0, (pt gx0 0))] (fun junk => ?_)
 delta M.strings_Builder_copyCheck at h
 refine Goes.rn 5 [(2, (pt gx0 0)), (3, (pt gx0 0)), (4, (pt gx0 0))] Jvp ?_
 refine Goes.ld 69 (.tmp 4) 5 69 ⟨gx0, 0, none⟩ (.pointer none) (p0.c 0 0) ?_
 refine Goes.rn 6 [(6, .bool true), (7, (pt gx0 0)), (8, (pt gx0 0))] Jvq ?_
 refine Op_.toU 69 127 (.tmp 8) 9 127 0 gx0 0 p0 rfl Goes.v (by kernel_rfl) (by kernel_rfl) (by kernel_rfl) ?_
 refine Op_.ext { callee := .value (.func 72), args := #[(.tmp 9)], argTypes := #[127] } 10 127 72 #[(pt gx0 0)] Try.f72 Extern.AbiNoEscape.same ((pt gx0 0)) Goes.v (by kernel_rfl) (by kernel_rfl) (by kernel_rfl) (by kernel_rfl) (by kernel_rfl) (by kernel_rfl) (same_run _) ?_
 refine Op_.frU 127 69 (.tmp 10) 11 69 0 gx0 0 p0 rfl Goes.v (by kernel_rfl) (by kernel_rfl) ?_
 refine Goes.rn 2 [(12, (pt gx0 0)), (13, (pt gx0 0))] Jvr ?_
 refine Op_.st 69 (.tmp 13) (.tmp 11) 0 0 gx0 0 ((pt gx0 0)) [(pt gx0 0)] p0 rfl Goes.s (by kernel_rfl) (by kernel_rfl) (by kernel_rfl) (by kernel_rfl) (Nat.zero_le _) (by simp only [List.length_cons, List.length_nil]; omega) (by simp [Value.oneCell']) ?_
 intro w2 z2 p2
 have p2 : Hp nz wz S0 w2 ((some gx0, .row 72 [(pt gx0 0), .slice (Gp ugl) u13i.length ugn] 2 0) :: (ugl, .row 5 ugo (ugn * (kInt .u8).size) 0) :: Lr) := p2
 refine Goes.rn 1 [] [] ?_
 obtain rfl := Option.some.inj h
 exact Goes.end_ (fn := Try.f53) (by kernel_rfl) (v := .tuple #[]) (by kernel_rfl) ⟨S0, ugl, u13i.length, ugn, ugo, rfl, ((Ext.refl S0 w0).trans z2), p2, (ugp.ext z2), rfl⟩

def Qp4 := sub [1, 1] B31
def Jvs : List Item := [.code Qp4]
def Qp5 := sub [1, 0] B31
def Jvt : List Item := .inRegion (opsOf Qp5) [1] :: Jvs
def Qp6 := sub [1, 1, 1] B31
def Jvu : List Item := [.code Qp6]
def Qp7 := sub [1, 1, 0] B31
def Jvv : List Item := .inRegion (opsOf Qp7) [4, 5, 6, 7, 8, 9, 10] :: Jvu
def Jvw : List Item := .inRegion (opsOf Qp7) [6, 7, 8, 9, 10] :: Jvu
def Jvx : List Item := .inRegion (opsOf Qp7) [10] :: Jvu
def Qp8 := sub [1, 1, 1, 1] B31
def Jvy : List Item := [.code Qp8]

def Post.z4p (gx0 : Nat) (r : List Int) (v : Value) (w' : World) : Prop :=
 ∃ S' ugh ugi ugj ugk, v = .nilIface ∧ Ext S0 w0 S' w' ∧ Hp nz wz S' w' ((some gx0, .row 72 [(pt gx0 0), .slice (Gp ugh) ugi ugj] 2 0) :: (ugh, .row 5 ugk (ugj * (kInt .u8).size) 0) :: Lr) ∧ Els (kInt .u8) S' w' ugk r ∧ r.length = ugi

theorem W.z4p (u13i : List Int) (x1 : Int) (r : List Int) (h : M.strings_Builder_WriteByte u13i x1 = some r) {nz wz S0 w0 Lr} (gx0 ugl ugm ugn ugo) (p0 : Hp nz wz S0 w0 ((some gx0, .row 72 [.pointer none, .slice (Gp ugl) ugm ugn] 2 0) :: (ugl, .row 5 ugo (ugn * (kInt .u8).size) 0) :: Lr)) (ugp : Els (kInt .u8) S0 w0 ugo u13i) (ugq : u13i.length = ugm) :
  Calls Try.prog 31 #[(pt gx0 0), .int .u8 x1] w0 (Rets (Post.z4p nz wz S0 w0 Lr gx0 r)) := by
 subst ugq
 refine calls_of_goes (fn := Try.f31) (c := B31) (by kernel_rfl) (by kernel_rfl) 15 (by kernel_rfl) ?_
 refine Goes.jp 17 [(0, (pt gx0 0)), (1, .int .u8 x1)] (fun junk => ?_)
 delta M.strings_Builder_WriteByte at h
 refine Goes.rn 7 [(4, .nilIface), (5, (pt gx0 0))] Jvt ?_
 refine bind_some' h fun y3 e4 h => ?_
 refine Goes.cal (kc 53 [5] #[69]) 6 0 53 _ (W.z4o u13i y3 e4 gx0 ugl u13i.length ugn ugo p0 ugp rfl) ?_
 rintro _ w2 ⟨S2, u13j, u13k, u13l, u13m, rfl, z2, p2, u13n, rfl⟩
 refine Goes.rn 7 [(7, (pt gx0 0)), (8, (pt gx0 0)), (9, (pt gx0 0)), (10, (pt gx0 1))] Jvv ?_
 refine Goes.ld 70 (.tmp 10) 11 70 ⟨gx0, 1, none⟩ (.slice (Gp u13j) y3.length u13l) (p2.c 0 1) ?_
 refine Goes.rn 1 [(12, .int .u8 x1)] Jvw ?_
 have f7 : Els (kInt .u8) S2 w2 ([.int .u8 x1] : List Value) [x1] := by exact (Els.cons (K := (kInt .u8)) (vs := [.int .u8 x1]) (x := x1) rfl Els.nil)
 refine Op_.made (.buildSlice 70 1 #[(0, (.tmp 12))]) 13 70 (fun b => .slice (Gp (some b)) 1 1) 5 ([.int .u8 x1] : List Value) p2 Goes.v (by kernel_rfl) ?_
 intro b6 w3 z3 p3
 have p3 : Hp nz wz S2 w3 (((some b6), .row 5 ([.int .u8 x1] : List Value) (1 * (kInt .u8).size) 0) :: (some gx0, .row 72 [(pt gx0 0), .slice (Gp u13j) y3.length u13l] 2 0) :: (u13j, .row 5 u13m (u13l * (kInt .u8).size) 0) :: Lr) := p3
 refine guard_some' h fun g12 h => ?_
 refine Op_.ap_n (K := (kInt .u8)) 70 (.tmp 11) (.tmp 13) 14 70 5 2 (.int .u8 0) 1 y3.length u13l 1 y3 [x1] (y3 ++ [x1]) (Gp (some b6)) 1 rfl rfl rfl p3 rfl (u13n.ext z3) Goes.v (by kernel_rfl) (by kernel_rfl) (by kernel_rfl) (by kernel_rfl) rfl (by decide) (f7.ext z3) (src_own p3 (q := 0) rfl) (by have := g12; omega) (by have := g12; omega) ?_
 intro w4 G13 c14 uf z4 p4 f16
 refine Goes.rn 2 [(15, (pt gx0 0)), (16, (pt gx0 1))] Jvx ?_
 refine Op_.st 70 (.tmp 16) (.tmp 14) 0 1 gx0 1 (.slice (Gp G13) ((y3 ++ [x1]).length) c14) [.slice (Gp G13) ((y3 ++ [x1]).length) c14] p4 rfl Goes.s (by kernel_rfl) (by kernel_rfl) (by kernel_rfl) (by kernel_rfl) (Nat.zero_le _) (by simp only [List.length_cons, List.length_nil]; omega) (by simp [Value.oneCell']) ?_
 intro w5 z5 p5
 have p5 : Hp nz wz S2 w5 (((some b6), .row 5 ([.int .u8 x1] : List Value) (1 * (kInt .u8).size) 0) :: (some gx0, .row 72 [(pt gx0 0), .slice (Gp G13) ((y3 ++ [x1]).length) c14] 2 0) :: (G13, .row 5 uf (c14 * (kInt .u8).size) 0) :: Lr) := p5
 refine Goes.rn 5 [(4, .nilIface)] Jvy ?_
 obtain rfl := Option.some.inj h
 have p5 := p5.dp 0
 exact Goes.rt Try.f31 (.nilIface) ⟨S2, G13, (y3 ++ [x1]).length, c14, uf, rfl, (((((Ext.refl S0 w0).trans z2).trans z3).trans z4).trans z5), p5, (f16.ext z5), rfl⟩

def Qp9 := sub [1, 1, 1] B53
def Jvz : List Item := [.code Qp9]
def Qpa := sub [1, 1, 0] B53
def Jw0 : List Item := .inRegion (opsOf Qpa) [3, 4, 5] :: Jvz
def Jw1 : List Item := .inRegion (opsOf Qpa) [5] :: Jvz

def Post.z4q (gx0 : Nat) (ugl : Option Nat) (ugm : Nat) (ugn : Nat) (ugo : List Value) (u13i : List Int) (r : Unit) (v : Value) (w' : World) : Prop :=
 ∃ S', v = .tuple #[] ∧ Ext S0 w0 S' w' ∧ Hp nz wz S' w' ((some gx0, .row 72 [(pt gx0 0), .slice (Gp ugl) ugm ugn] 2 0) :: (ugl, .row 5 ugo (ugn * (kInt .u8).size) 0) :: Lr)

theorem W.z4q (u13i : List Int) (r : Unit) (h : M.strings_Builder_copyCheck_2 u13i = some r) {nz wz S0 w0 Lr} (gx0 ugl ugm ugn ugo) (p0 : Hp nz wz S0 w0 ((some gx0, .row 72 [(pt gx0 0), .slice (Gp ugl) ugm ugn] 2 0) :: (ugl, .row 5 ugo (ugn * (kInt .u8).size) 0) :: Lr)) (ugp : Els (kInt .u8) S0 w0 ugo u13i) (ugq : u13i.length = ugm) :
  Calls Try.prog 53 #[(pt gx0 0)] w0 (Rets (Post.z4q nz wz S0 w0 Lr gx0 ugl ugm ugn ugo u13i r)) := by
 subst ugq
 refine calls_of_goes (fn := Try.f53) (c := B53) (by kernel_rfl) (by kernel_rfl) 19 (by kernel_rfl) ?_
 refine Goes.jp 20 [(0, (pt gx0 0))] (fun junk => ?_)
 delta M.strings_Builder_copyCheck_2 at h
 refine Goes.rn 5 [(2, (pt gx0 0)), (3, (pt gx0 0)), (4, (pt gx0 0))] Jvp ?_
 refine Goes.ld 69 (.tmp 4) 5 69 ⟨gx0, 0, none⟩ ((pt gx0 0)) (p0.c 0 0) ?_
 refine Goes.rn 8 [(6, .bool false), (14, (pt gx0 0)), (15, (pt gx0 0)), (16, (pt gx0 0))] Jw0 ?_
 refine Goes.ld 69 (.tmp 16) 17 69 ⟨gx0, 0, none⟩ ((pt gx0 0)) (p0.c 0 0) ?_
 refine Goes.rn 1 [(18, (pt gx0 0))] Jw1 ?_
 refine Op_.neqP 69 (.tmp 17) (.tmp 18) 69 19 4 ⟨gx0, 0, none⟩ Goes.v (by kernel_rfl) (by kernel_rfl) (by kernel_rfl) ?_
 refine Goes.rn 3 [] [] ?_
 obtain rfl := Option.some.inj h
 exact Goes.end_ (fn := Try.f53) (by kernel_rfl) (v := .tuple #[]) (by kernel_rfl) ⟨S0, rfl, (Ext.refl S0 w0), p0⟩

def Post.z4r (gx0 : Nat) (r : List Int) (v : Value) (w' : World) : Prop :=
 ∃ S' ugh ugi ugj ugk, v = .nilIface ∧ Ext S0 w0 S' w' ∧ Hp nz wz S' w' ((some gx0, .row 72 [(pt gx0 0), .slice (Gp ugh) ugi ugj] 2 0) :: (ugh, .row 5 ugk (ugj * (kInt .u8).size) 0) :: Lr) ∧ Els (kInt .u8) S' w' ugk r ∧ r.length = ugi

theorem W.z4r (u13i : List Int) (x1 : Int) (r : List Int) (h : M.strings_Builder_WriteByte_2 u13i x1 = some r) {nz wz S0 w0 Lr} (gx0 ugl ugm ugn ugo) (p0 : Hp nz wz S0 w0 ((some gx0, .row 72 [(pt gx0 0), .slice (Gp ugl) ugm ugn] 2 0) :: (ugl, .row 5 ugo (ugn * (kInt .u8).size) 0) :: Lr)) (ugp : Els (kInt .u8) S0 w0 ugo u13i) (ugq : u13i.length = ugm) :
  Calls Try.prog 31 #[(pt gx0 0), .int .u8 x1] w0 (Rets (Post.z4r nz wz S0 w0 Lr gx0 r)) := by
 subst ugq
 refine calls_of_goes (fn := Try.f31) (c := B31) (by kernel_rfl) (by kernel_rfl) 15 (by kernel_rfl) ?_
 refine Goes.jp 17 [(0, (pt gx0 0)), (1, .int .u8 x1)] (fun junk => ?_)
 delta M.strings_Builder_WriteByte_2 at h
 refine Goes.rn 7 [(4, .nilIface), (5, (pt gx0 0))] Jvt ?_
 refine bind_some' h fun y3 e4 h => ?_
 refine Goes.cal (kc 53 [5] #[69]) 6 0 53 _ (W.z4q u13i y3 e4 gx0 ugl u13i.length ugn ugo p0 ugp rfl) ?_
 rintro _ w2 ⟨S2, rfl, z2, p2⟩
 refine Goes.rn 7 [(7, (pt gx0 0)), (8, (pt gx0 0)), (9, (pt gx0 0)), (10, (pt gx0 1))] Jvv ?_
 refine Goes.ld 70 (.tmp 10) 11 70 ⟨gx0, 1, none⟩ (.slice (Gp ugl) u13i.length ugn) (p2.c 0 1) ?_
 refine Goes.rn 1 [(12, .int .u8 x1)] Jvw ?_
 have f6 : Els (kInt .u8) S2 w2 ([.int .u8 x1] : List Value) [x1] := by exact (Els.cons (K := (kInt .u8)) (vs := [.int .u8 x1]) (x := x1) rfl Els.nil)
 refine Op_.made (.buildSlice 70 1 #[(0, (.tmp 12))]) 13 70 (fun b => .slice (Gp (some b)) 1 1) 5 ([.int .u8 x1] : List Value) p2 Goes.v (by kernel_rfl) ?_
 intro b5 w3 z3 p3
 have p3 : Hp nz wz S2 w3 (((some b5), .row 5 ([.int .u8 x1] : List Value) (1 * (kInt .u8).size) 0) :: (some gx0, .row 72 [(pt gx0 0), .slice (Gp ugl) u13i.length ugn] 2 0) :: (ugl, .row 5 ugo (ugn * (kInt .u8).size) 0) :: Lr) := p3
 refine guard_some' h fun g11 h => ?_
 refine Op_.ap_n (K := (kInt .u8)) 70 (.tmp 11) (.tmp 13) 14 70 5 2 (.int .u8 0) 1 u13i.length ugn 1 u13i [x1] (u13i ++ [x1]) (Gp (some b5)) 1 rfl rfl rfl p3 rfl (ugp.ext (z2.trans z3)) Goes.v (by kernel_rfl) (by kernel_rfl) (by kernel_rfl) (by kernel_rfl) rfl (by decide) (f6.ext z3) (src_own p3 (q := 0) rfl) (by have := g11; omega) (by have := g11; omega) ?_
 intro w4 G12 c13 uai z4 p4 f15
 refine Goes.rn 2 [(15, (pt gx0 0)), (16, (pt gx0 1))] Jvx ?_
 refine Op_.st 70 (.tmp 16) (.tmp 14) 0 1 gx0 1 (.slice (Gp G12) ((u13i ++ [x1]).length) c13) [.slice (Gp G12) ((u13i ++ [x1]).length) c13] p4 rfl Goes.s (by kernel_rfl) (by kernel_rfl) (by kernel_rfl) (by kernel_rfl) (Nat.zero_le _) (by simp only [List.length_cons, List.length_nil]; omega) (by simp [Value.oneCell']) ?_
 intro w5 z5 p5
 have p5 : Hp nz wz S2 w5 (((some b5), .row 5 ([.int .u8 x1] : List Value) (1 * (kInt .u8).size) 0) :: (some gx0, .row 72 [(pt gx0 0), .slice (Gp G12) ((u13i ++ [x1]).length) c13] 2 0) :: (G12, .row 5 uai (c13 * (kInt .u8).size) 0) :: Lr) := p5
 refine Goes.rn 5 [(4, .nilIface)] Jvy ?_
 obtain rfl := Option.some.inj h
 have p5 := p5.dp 0
 exact Goes.rt Try.f31 (.nilIface) ⟨S2, G12, (u13i ++ [x1]).length, c13, uai, rfl, (((((Ext.refl S0 w0).trans z2).trans z3).trans z4).trans z5), p5, (f15.ext z5), rfl⟩

def Qpb := sub [1, 1] B32
def Jw2 : List Item := [.code Qpb]
def Qpc := sub [1, 0] B32
def Jw3 : List Item := .inRegion (opsOf Qpc) [1] :: Jw2
def Qpd := sub [1, 1, 1] B32
def Jw4 : List Item := [.code Qpd]
def Qpe := sub [1, 1, 0] B32
def Jw5 : List Item := .inRegion (opsOf Qpe) [4, 5, 6, 7, 8, 9] :: Jw4
def Jw6 : List Item := .inRegion (opsOf Qpe) [6, 7, 8, 9] :: Jw4
def Jw7 : List Item := .inRegion (opsOf Qpe) [9] :: Jw4
def Qpf := sub [1, 1, 1, 1] B32
def Jw8 : List Item := [.code Qpf]

def Post.z4s (gx0 : Nat) (r : Int × (List Int)) (v : Value) (w' : World) : Prop :=
 ∃ S' ugh ugi ugj ugk, v = .tuple #[.i r.1, .nilIface] ∧ Ext S0 w0 S' w' ∧ Hp nz wz S' w' ((some gx0, .row 72 [(pt gx0 0), .slice (Gp ugh) ugi ugj] 2 0) :: (ugh, .row 5 ugk (ugj * (kInt .u8).size) 0) :: Lr) ∧ Els (kInt .u8) S' w' ugk r.2 ∧ r.2.length = ugi

theorem W.z4s (u13i : List Int) (x1 : ByteArray) (r : Int × (List Int)) (h : M.strings_Builder_WriteString_2 u13i x1 = some r) {nz wz S0 w0 Lr} (gx0 ugl ugm ugn ugo) (p0 : Hp nz wz S0 w0 ((some gx0, .row 72 [(pt gx0 0), .slice (Gp ugl) ugm ugn] 2 0) :: (ugl, .row 5 ugo (ugn * (kInt .u8).size) 0) :: Lr)) (ugp : Els (kInt .u8) S0 w0 ugo u13i) (ugq : u13i.length = ugm) :
  Calls Try.prog 32 #[(pt gx0 0), .string x1] w0 (Rets (Post.z4s nz wz S0 w0 Lr gx0 r)) := by
 subst ugq
 refine calls_of_goes (fn := Try.f32) (c := B32) (by kernel_rfl) (by kernel_rfl) 17 (by kernel_rfl) ?_
 refine Goes.jp 19 [(0, (pt gx0 0)), (1, .string x1)] (fun junk => ?_)
 delta M.strings_Builder_WriteString_2 at h
 refine Goes.rn 8 [(4, .i 0), (5, .nilIface), (6, (pt gx0 0))] Jw3 ?_
 refine bind_some' h fun y3 e4 h => ?_
 refine Goes.cal (kc 53 [6] #[69]) 7 0 53 _ (W.z4q u13i y3 e4 gx0 ugl u13i.length ugn ugo p0 ugp rfl) ?_
 rintro _ w2 ⟨S2, rfl, z2, p2⟩
 refine Goes.rn 7 [(8, (pt gx0 0)), (9, (pt gx0 0)), (10, (pt gx0 0)), (11, (pt gx0 1))] Jw5 ?_
 refine Goes.ld 70 (.tmp 11) 12 70 ⟨gx0, 1, none⟩ (.slice (Gp ugl) u13i.length ugn) (p2.c 0 1) ?_
 refine Goes.rn 1 [(13, .string x1)] Jw6 ?_
 refine guard_some' h fun g8 h => ?_
 refine Op_.apS 70 9 (.tmp 12) (.tmp 13) 14 70 5 1 1 u13i.length ugn u13i (u13i ++ s2b x1) x1 rfl rfl p2 rfl (ugp.ext z2) Goes.v (by kernel_rfl) (by kernel_rfl) (by kernel_rfl) (by kernel_rfl) (by kernel_rfl) (by have := g8; omega) (by have := g8; omega) ?_
 intro w3 G9 c10 u13o z3 p3 f12
 refine Goes.rn 2 [(15, (pt gx0 0)), (16, (pt gx0 1))] Jw7 ?_
 refine Op_.st 70 (.tmp 16) (.tmp 14) 0 0 gx0 1 (.slice (Gp G9) ((u13i ++ s2b x1).length) c10) [.slice (Gp G9) ((u13i ++ s2b x1).length) c10] p3 rfl Goes.s (by kernel_rfl) (by kernel_rfl) (by kernel_rfl) (by kernel_rfl) (Nat.zero_le _) (by simp only [List.length_cons, List.length_nil]; omega) (by simp [Value.oneCell']) ?_
 intro w4 z4 p4
 have p4 : Hp nz wz S2 w4 ((some gx0, .row 72 [(pt gx0 0), .slice (Gp G9) ((u13i ++ s2b x1).length) c10] 2 0) :: (G9, .row 5 u13o (c10 * (kInt .u8).size) 0) :: Lr) := p4
 refine Goes.rn 8 [(17, .string x1), (18, .i (x1.size : Int)), (4, .i (x1.size : Int)), (5, .nilIface)] Jw8 ?_
 obtain rfl := Option.some.inj h
 exact Goes.rt Try.f32 (.tuple #[.i (x1.size : Int), .nilIface]) ⟨S2, G9, (u13i ++ s2b x1).length, c10, u13o, rfl, ((((Ext.refl S0 w0).trans z2).trans z3).trans z4), p4, (f12.ext z4), rfl⟩

def Qpg := sub [1, 1] B33
def Jw9 : List Item := [.code Qpg]
def Qph := sub [1, 0] B33
def Jwa : List Item := .code Qph :: Jw9

def Post.z4t (gx0 : Nat) (r : ByteArray × (List Int)) (v : Value) (w' : World) : Prop :=
 ∃ S' u13p ugi ugj, v = .string r.1 ∧ Ext S0 w0 S' w' ∧ Hp nz wz S' w' ((some gx0, .row 72 [(pt gx0 0), .slice u13p ugi ugj] 2 0) :: Lr) ∧ Rd (kInt .u8) S' w' u13p ugj r.2 ∧ r.2.length = ugi

theorem W.z4t (u13i : List Int) (r : ByteArray × (List Int)) (h : M.strings_Builder_String_2 u13i = some r) {nz wz S0 w0 Lr} (gx0 ugl ugm ugn ugo) (p0 : Hp nz wz S0 w0 ((some gx0, .row 72 [(pt gx0 0), .slice (Gp ugl) ugm ugn] 2 0) :: (ugl, .row 5 ugo (ugn * (kInt .u8).size) 0) :: Lr)) (ugp : Els (kInt .u8) S0 w0 ugo u13i) (ugq : u13i.length = ugm) :
  Calls Try.prog 33 #[(pt gx0 0)] w0 (Rets (Post.z4t nz wz S0 w0 Lr gx0 r)) := by
 subst ugq
 refine calls_of_goes (fn := Try.f33) (c := B33) (by kernel_rfl) (by kernel_rfl) 13 (by kernel_rfl) ?_
 refine Goes.jp 14 [(0, (pt gx0 0))] (fun junk => ?_)
 delta M.strings_Builder_String_2 at h
 refine Goes.rn 5 [(2, .string (⟨#[]⟩ : ByteArray))] Jwa ?_
 have z2 : Ext S0 w0 S0 (w0).drew := Ext.draw
 have p2 := p0.draw
 refine Goes.drawn (s := [10]) (F := Fc S0 (w0).drew [(⟨gx0, 1, none⟩, .slice (Gp ugl) u13i.length ugn)]) 1 12 (by kernel_rfl) (by kernel_rfl) (by kernel_rfl) (by kernel_rfl) ?_
 generalize (w0).drew = w2 at z2 p2 ⊢
 refine AnyG.pu 0 (.move (.tmp 0)) 3 69 ((pt gx0 0)) (Fc.here (p2.cs [(0, 1, 1)])) ?_
 refine AnyG.pu 1 (.nilCheck (.tmp 3)) 4 0 ((pt gx0 0)) (Fc.here (p2.cs [(0, 1, 1)])) ?_
 refine AnyG.pu 2 (.fieldAddr 72 (.tmp 4) 1) 5 0 ((pt gx0 1)) (Fc.here (p2.cs [(0, 1, 1)])) ?_
 refine AnyG.ld1 (i := 3) 70 (.tmp 5) 6 70 ⟨gx0, 1, none⟩ (.slice (Gp ugl) u13i.length ugn) (by kernel_rfl) (by kernel_rfl) (Fc.here (p2.cs [(0, 1, 1)])) (by kernel_rfl) (by kernel_rfl) (fun _ h => h.2.at_ 0 rfl) ?_
 refine AnyG.pu 5 (.move (.tmp 0)) 8 69 ((pt gx0 0)) (Fc.here (p2.cs [(0, 1, 1)])) ?_
 refine AnyG.pu 6 (.nilCheck (.tmp 8)) 9 0 ((pt gx0 0)) (Fc.here (p2.cs [(0, 1, 1)])) ?_
 refine AnyG.pu 7 (.fieldAddr 72 (.tmp 9) 1) 10 0 ((pt gx0 1)) (Fc.here (p2.cs [(0, 1, 1)])) ?_
 refine AnyG.ld1 (i := 8) 70 (.tmp 10) 11 70 ⟨gx0, 1, none⟩ (.slice (Gp ugl) u13i.length ugn) (by kernel_rfl) (by kernel_rfl) (Fc.here (p2.cs [(0, 1, 1)])) (by kernel_rfl) (by kernel_rfl) (fun _ h => h.2.at_ 0 rfl) ?_
 refine AnyG.pu 9 (.call { callee := .builtin .len, args := #[(.tmp 11)], argTypes := #[70] }) 12 3 (.i (u13i.length : Int)) (Fc.here (p2.cs [(0, 1, 1)])) ?_
 refine Op_.ssd 70 (.tmp 6) 7 110 5 1 u13i.length ugn p2 rfl (AnyG.vs (i := 4) (by kernel_rfl) (by kernel_rfl)) (by kernel_rfl) (by kernel_rfl) ?_
 intro a3 w3 z3 p3 q4
 refine AnyG.next z3 ⟨(p3.c 0 1), trivial⟩ ?_
 refine guard_some' h fun g5 h => ?_
 refine Op_.ustr 110 3 (.tmp 7) (.tmp 12) 13 9 5 1 (b2s u13i) rfl rfl p3 rfl (ugp.ext (z2.trans z3)) q4 (by have := g5; omega) (AnyG.vs (i := 10) (by kernel_rfl) (by kernel_rfl)) (by kernel_rfl) (by kernel_rfl) (by kernel_rfl) (by kernel_rfl) ?_
 intro S4 w4 z4 p4 f6
 refine AnyG.last [] (Fc S4 w4 []) (by decide) ?_
 refine AnyG.pu 11 (.assign (.tmp 13)) 2 9 (.string (b2s u13i)) (Fc.here trivial) ?_
 refine AnyG.done (by kernel_rfl) ?_ _
 obtain rfl := Option.some.inj h
 exact Goes.rt Try.f33 (.string (b2s u13i)) ⟨S4, (Gp ugl), u13i.length, ugn, rfl, ((((Ext.refl S0 w0).trans z2).trans z3).trans z4), p4, f6, rfl⟩

def Qpi := sub [1, 1, 1] B17
def Jwb : List Item := [.code Qpi]
def Jwc : List Item := .inBlock 0 :: Jwb
def Qpj := sub [1, 1, 0, 1, 0, 0] B17
def Jwd : List Item := .inLoop Qpj :: Jwc
def Jwe : List Item := .code Qpj :: Jwd
def Qpk := sub [1, 1, 0, 1, 0, 0, 1, 1] B17
def Jwf : List Item := .code Qpk :: Jwd
def Qpl := sub [1, 1, 0, 1, 0, 0, 1, 0] B17
def Jwg : List Item := .code Qpl :: Jwf
def Qpm := sub [1, 1, 0, 1, 0, 0, 1, 1, 1] B17
def Jwh : List Item := .code Qpm :: Jwd
def Jwi : List Item := .inBlock 1 :: Jwh
def Qpn := sub [1, 1, 0, 1, 0, 0, 1, 1, 0, 0, 1, 1] B17
def Jwj : List Item := .code Qpn :: Jwi
def Qpo := sub [1, 1, 0, 1, 0, 0, 1, 1, 0, 0, 1, 0] B17
def Jwk : List Item := .inRegion (opsOf Qpo) [2, 3] :: Jwj
def Qpp := sub [1, 1, 0, 1, 0, 0, 1, 1, 0, 0, 1, 1, 1] B17
def Jwl : List Item := .code Qpp :: Jwi
def Qpq := sub [1, 1, 0, 1, 0, 0, 1, 1, 0, 0, 1, 1, 0, 1] B17
def Jwm : List Item := .code Qpq :: Jwl
def Qpr := sub [1, 1, 0, 1, 0, 0, 1, 1, 0, 0, 1, 1, 0, 0] B17
def Jwn : List Item := .inRegion (opsOf Qpr) [1] :: Jwm
def Qps := sub [1, 1, 0, 1, 0, 0, 1, 1, 0, 0, 1, 1, 0, 1, 0, 1] B17
def Jwo : List Item := .code Qps :: Jwl
def Qpt := sub [1, 1, 0, 1, 0, 0, 1, 1, 0, 0, 1, 1, 0, 1, 0, 0] B17
def Jwp : List Item := .inRegion (opsOf Qpt) [1] :: Jwo
def Qpu := sub [1, 1, 1, 1] B17
def Jwq : List Item := [.code Qpu]
def Qpv := sub [1, 1, 1, 0] B17
def Jwr : List Item := .inRegion (opsOf Qpv) [0, 1] :: Jwq

def Post.z4u (r : ByteArray) (v : Value) (w' : World) : Prop :=
 ∃ S', v = .string r ∧ Ext S0 w0 S' w' ∧ Hp nz wz S' w' (Lr)

def L.z4v : ByteArray × (List Int) × Int × Int → ByteArray → Prop := fun ⟨x0, u13q, x7, x8⟩ r => ∀ S1 w1, Ext S0 w0 S1 w1 → ∀ gx3 u13r u13s u13t u13u (_ : Hp nz wz S1 w1 ((some gx3, .row 72 [(pt gx3 0), .slice (Gp u13r) u13s u13t] 2 0) :: (u13r, .row 5 u13u (u13t * (kInt .u8).size) 0) :: Lr)) (_ : Els (kInt .u8) S1 w1 u13u u13q) (_ : u13q.length = u13s) (junk : Nat → Value),
 Goes Try.prog (base 17) Jwe ⟨lfr 35 [(0, .string x0), (3, (pt gx3 0)), (7, .i x7), (8, .i x8)] junk, []⟩ w1 (Done Try.prog 17 (Rets (Post.z4u nz wz S0 w0 Lr r)))

theorem W.z4v {nz wz S0 w0 Lr} : ∀ a r, M.syntax_Quote_l1 a = some r → (L.z4v nz wz S0 w0 Lr) a r := by
 refine M.syntax_Quote_l1.partial_correctness (motive := (L.z4v nz wz S0 w0 Lr)) ?_
 intro u13v u13w ⟨x0, u13q, x7, x8⟩ r h S1 w1 hx gx3 u13r u13s u13t u13u p1 u13x u9j junk
 try dsimp only at h
 subst u9j
 refine Goes.rn 5 [(9, .bool (decide (x8 < x7)))] Jwg ?_
 refine ite_some h (fun h34 h => ?_) (fun h34 h => ?_)
 ·
  rw [decide_eq_true h34]
  refine Goes.rn 13 [(10, .i x8), (4, .i x8), (11, .string x0), (12, .i x8)] Jwk ?_
  refine guard_some' h fun g35 h => ?_
  refine guard_some' h fun g36 h => ?_
  refine Op_.ixS 9 (.tmp 11) (.tmp 12) 13 5 .i64 x0 x8 Goes.v (by kernel_rfl) (by kernel_rfl) (by kernel_rfl) g35 g36 ?_
  refine Goes.rn 6 [(5, .int .u8 (bt x0 x8)), (14, .int .u8 (bt x0 x8))] Jwn ?_
  refine bind_some' h fun y37 e38 h => ?_
  refine Goes.cal (kc 30 [14] #[5]) 15 4 30 _ (W.z4l (bt x0 x8) y37 e38  p1 ) ?_
  rintro _ w8 ⟨S8, rfl, z8, p8⟩
  refine Goes.rn 1 [] Jwm ?_
  refine ite_some h (fun h39 h => ?_) (fun h39 h => ?_)
  ·
   rw [h39]
   refine Goes.rn 4 [(16, .int .u8 (bt x0 x8))] Jwp ?_
   refine bind_some' h fun y40 e41 h => ?_
   refine Goes.cal (kc 31 [3, 16] #[72, 5]) 17 74 31 _ (W.z4r u13q (bt x0 x8) y40 e41 gx3 u13r u13q.length u13t u13u p8 (u13x.ext z8) rfl) ?_
   rintro _ w9 ⟨S9, u13y, u13z, u140, u141, rfl, z9, p9, u142, rfl⟩
   refine Goes.rn 7 [(33, .i (wr .i64 (x8 + 1))), (8, .i (wr .i64 (x8 + 1)))] Jwe ?_
   exact Goes.jp 35 [(0, .string x0), (3, (pt gx3 0)), (7, .i x7), (8, .i (wr .i64 (x8 + 1)))] (u13w _ _ h _ _ ((hx.trans z8).trans z9) gx3 u13y y40.length u140 u141 p9 u142 rfl)
  ·
   have u8i : y37 = false := by simpa using h39
   rw [u8i]
   refine Goes.rn 2 [] Jwl ?_
   have z10 : Ext S8 w8 S8 (w8).drew := Ext.draw
   have p10 := p8.draw
   refine Goes.drawn (s := [14]) (F := Fc S8 (w8).drew []) 8 15 (by kernel_rfl) (by kernel_rfl) (by kernel_rfl) (by kernel_rfl) ?_
   generalize (w8).drew = w10 at z10 p10 ⊢
   refine AnyG.pu 0 (.move (.tmp 5)) 18 5 (.int .u8 (bt x0 x8)) (Fc.here trivial) ?_
   refine AnyG.pu 1 (.binOp .shr 5 (.tmp 18) (.const (.int .u64 4)) 78) 19 5 (.int .u8 (ishr .u8 (bt x0 x8) 4)) (Fc.here trivial) ?_
   refine AnyG.pu 2 (.move (.tmp 5)) 20 5 (.int .u8 (bt x0 x8)) (Fc.here trivial) ?_
   refine AnyG.pu 3 (.binOp .shr 5 (.tmp 20) (.const (.int .u64 4)) 78) 21 5 (.int .u8 (ishr .u8 (bt x0 x8) 4)) (Fc.here trivial) ?_
   refine AnyG.pu 4 (.binOp .add 5 (.tmp 21) (.const (.int .u8 1)) 5) 22 5 (.int .u8 (wr .u8 ((ishr .u8 (bt x0 x8) 4) + 1))) (Fc.here trivial) ?_
   refine guard_some' h fun g43 h => ?_
   refine guard_some' h fun g44 h => ?_
   refine guard_some' h fun g45 h => ?_
   refine AnyG.slS (i := 5) 9 (.const (.string ⟨#[48, 49, 50, 51, 52, 53, 54, 55, 56, 57, 97, 98, 99, 100, 101, 102]⟩)) (some (.tmp 19)) (some (.tmp 22)) 23 9 (⟨#[48, 49, 50, 51, 52, 53, 54, 55, 56, 57, 97, 98, 99, 100, 101, 102]⟩ : ByteArray) (ishr .u8 (bt x0 x8) 4) (wr .u8 ((ishr .u8 (bt x0 x8) 4) + 1)) (by kernel_rfl) (by kernel_rfl) (Fc.here trivial) (by kernel_rfl) (by kernel_rfl) (Bnd.at_ .u8 (by kernel_rfl)) (Bnd.at_ .u8 (by kernel_rfl)) g43 g44 g45 ?_
   refine AnyG.pu 7 (.move (.tmp 5)) 25 5 (.int .u8 (bt x0 x8)) (Fc.here trivial) ?_
   refine AnyG.pu 8 (.binOp .and 5 (.tmp 25) (.const (.int .u8 15)) 5) 26 5 (.int .u8 (iand .u8 (bt x0 x8) 15)) (Fc.here trivial) ?_
   refine AnyG.pu 9 (.move (.tmp 5)) 27 5 (.int .u8 (bt x0 x8)) (Fc.here trivial) ?_
   refine AnyG.pu 10 (.binOp .and 5 (.tmp 27) (.const (.int .u8 15)) 5) 28 5 (.int .u8 (iand .u8 (bt x0 x8) 15)) (Fc.here trivial) ?_
   refine AnyG.pu 11 (.binOp .add 5 (.tmp 28) (.const (.int .u8 1)) 5) 29 5 (.int .u8 (wr .u8 ((iand .u8 (bt x0 x8) 15) + 1))) (Fc.here trivial) ?_
   refine guard_some' h fun g46 h => ?_
   refine guard_some' h fun g47 h => ?_
   refine guard_some' h fun g48 h => ?_
   refine AnyG.slS (i := 12) 9 (.const (.string ⟨#[48, 49, 50, 51, 52, 53, 54, 55, 56, 57, 97, 98, 99, 100, 101, 102]⟩)) (some (.tmp 26)) (some (.tmp 29)) 30 9 (⟨#[48, 49, 50, 51, 52, 53, 54, 55, 56, 57, 97, 98, 99, 100, 101, 102]⟩ : ByteArray) (iand .u8 (bt x0 x8) 15) (wr .u8 ((iand .u8 (bt x0 x8) 15) + 1)) (by kernel_rfl) (by kernel_rfl) (Fc.here trivial) (by kernel_rfl) (by kernel_rfl) (Bnd.at_ .u8 (by kernel_rfl)) (Bnd.at_ .u8 (by kernel_rfl)) g46 g47 g48 ?_
   refine guard_some' h fun g49 h => ?_
   refine let_some h fun v50 e51 h => ?_
   refine Op_.cat_n 9 (.const (.string ⟨#[92, 120]⟩)) (.tmp 23) 9 24 9 (⟨#[92, 120]⟩ : ByteArray) (ss (⟨#[48, 49, 50, 51, 52, 53, 54, 55, 56, 57, 97, 98, 99, 100, 101, 102]⟩ : ByteArray) (ishr .u8 (bt x0 x8) 4) (wr .u8 ((ishr .u8 (bt x0 x8) 4) + 1))) v50 e51 (AnyG.vs (i := 6) (by kernel_rfl) (by kernel_rfl)) (by kernel_rfl) (by kernel_rfl) g49 ?_
   refine AnyG.next (Ext.refl _ _) trivial ?_
   refine guard_some' h fun g52 h => ?_
   refine let_some h fun v53 e54 h => ?_
   refine Op_.cat_n 9 (.tmp 24) (.tmp 30) 9 31 9 v50 (ss (⟨#[48, 49, 50, 51, 52, 53, 54, 55, 56, 57, 97, 98, 99, 100, 101, 102]⟩ : ByteArray) (iand .u8 (bt x0 x8) 15) (wr .u8 ((iand .u8 (bt x0 x8) 15) + 1))) v53 e54 (AnyG.vs (i := 13) (by kernel_rfl) (by kernel_rfl)) (by kernel_rfl) (by kernel_rfl) g52 ?_
   refine AnyG.next (Ext.refl _ _) trivial ?_
   refine bind_some' h fun y55 e56 h => ?_
   refine Op_.call (kc 32 [3, 31] #[72, 9]) 32 76 32 #[(pt gx3 0), .string v53] (AnyG.cs (i := 14) (by kernel_rfl) (by kernel_rfl)) (by kernel_rfl) (W.z4s u13q v53 y55 e56 gx3 u13r u13q.length u13t u13u p10 (u13x.ext (z8.trans z10)) rfl) ?_
   rintro _ w11 ⟨S11, u143, u144, u145, u146, rfl, z11, p11, u147, rfl⟩
   refine AnyG.last [] (Fc S11 w11 []) (by decide) ?_
   refine AnyG.done (by kernel_rfl) ?_ _
   refine Goes.rn 6 [(33, .i (wr .i64 (x8 + 1))), (8, .i (wr .i64 (x8 + 1)))] Jwe ?_
   exact Goes.jp 35 [(0, .string x0), (3, (pt gx3 0)), (7, .i x7), (8, .i (wr .i64 (x8 + 1)))] (u13w _ _ h _ _ (((hx.trans z8).trans z10).trans z11) gx3 u143 y55.2.length u145 u146 p11 u147 rfl)
 ·
  rw [decide_eq_false h34]
  refine Goes.rn 4 [] Jwr ?_
  refine bind_some' h fun y58 e59 h => ?_
  refine Goes.cal (kc 33 [3] #[72]) 34 9 33 _ (W.z4t u13q y58 e59 gx3 u13r u13q.length u13t u13u p1 u13x rfl) ?_
  rintro _ w12 ⟨S12, u148, u149, u14a, rfl, z12, p12, u14b, rfl⟩
  have p12 := p12.dp 0
  refine Goes.rn 2 [(2, .string y58.1)] Jwq ?_
  obtain rfl := Option.some.inj h
  exact Goes.rt Try.f17 (.string y58.1) ⟨S12, rfl, (hx.trans z12), p12⟩

def Post.z4w (gx0 : Nat) (r : Int × (List Int)) (v : Value) (w' : World) : Prop :=
 ∃ S' ugh ugi ugj ugk, v = .tuple #[.i r.1, .nilIface] ∧ Ext S0 w0 S' w' ∧ Hp nz wz S' w' ((some gx0, .row 72 [(pt gx0 0), .slice (Gp ugh) ugi ugj] 2 0) :: (ugh, .row 5 ugk (ugj * (kInt .u8).size) 0) :: Lr) ∧ Els (kInt .u8) S' w' ugk r.2 ∧ r.2.length = ugi

theorem W.z4w (u13i : List Int) (x1 : ByteArray) (r : Int × (List Int)) (h : M.strings_Builder_WriteString u13i x1 = some r) {nz wz S0 w0 Lr} (gx0 ugl ugm ugn ugo) (p0 : Hp nz wz S0 w0 ((some gx0, .row 72 [.pointer none, .slice (Gp ugl) ugm ugn] 2 0) :: (ugl, .row 5 ugo (ugn * (kInt .u8).size) 0) :: Lr)) (ugp : Els (kInt .u8) S0 w0 ugo u13i) (ugq : u13i.length = ugm) :
  Calls Try.prog 32 #[(pt gx0 0), .string x1] w0 (Rets (Post.z4w nz wz S0 w0 Lr gx0 r)) := by
 subst ugq
 refine calls_of_goes (fn := Try.f32) (c := B32) (by kernel_rfl) (by kernel_rfl) 17 (by kernel_rfl) ?_
 refine Goes.jp 19 [(0, (pt gx0 0)), (1, .string x1)] (fun junk => ?_)
 delta M.strings_Builder_WriteString at h
 refine Goes.rn 8 [(4, .i 0), (5, .nilIface), (6, (pt gx0 0))] Jw3 ?_
 refine bind_some' h fun y3 e4 h => ?_
 refine Goes.cal (kc 53 [6] #[69]) 7 0 53 _ (W.z4o u13i y3 e4 gx0 ugl u13i.length ugn ugo p0 ugp rfl) ?_
 rintro _ w2 ⟨S2, u13j, u13k, u13l, u13m, rfl, z2, p2, u13n, rfl⟩
 refine Goes.rn 7 [(8, (pt gx0 0)), (9, (pt gx0 0)), (10, (pt gx0 0)), (11, (pt gx0 1))] Jw5 ?_
 refine Goes.ld 70 (.tmp 11) 12 70 ⟨gx0, 1, none⟩ (.slice (Gp u13j) y3.length u13l) (p2.c 0 1) ?_
 refine Goes.rn 1 [(13, .string x1)] Jw6 ?_
 refine guard_some' h fun g9 h => ?_
 refine Op_.apS 70 9 (.tmp 12) (.tmp 13) 14 70 5 1 1 y3.length u13l y3 (y3 ++ s2b x1) x1 rfl rfl p2 rfl u13n Goes.v (by kernel_rfl) (by kernel_rfl) (by kernel_rfl) (by kernel_rfl) (by kernel_rfl) (by have := g9; omega) (by have := g9; omega) ?_
 intro w3 G10 c11 ufm z3 p3 f13
 refine Goes.rn 2 [(15, (pt gx0 0)), (16, (pt gx0 1))] Jw7 ?_
 refine Op_.st 70 (.tmp 16) (.tmp 14) 0 0 gx0 1 (.slice (Gp G10) ((y3 ++ s2b x1).length) c11) [.slice (Gp G10) ((y3 ++ s2b x1).length) c11] p3 rfl Goes.s (by kernel_rfl) (by kernel_rfl) (by kernel_rfl) (by kernel_rfl) (Nat.zero_le _) (by simp only [List.length_cons, List.length_nil]; omega) (by simp [Value.oneCell']) ?_
 intro w4 z4 p4
 have p4 : Hp nz wz S2 w4 ((some gx0, .row 72 [(pt gx0 0), .slice (Gp G10) ((y3 ++ s2b x1).length) c11] 2 0) :: (G10, .row 5 ufm (c11 * (kInt .u8).size) 0) :: Lr) := p4
 refine Goes.rn 8 [(17, .string x1), (18, .i (x1.size : Int)), (4, .i (x1.size : Int)), (5, .nilIface)] Jw8 ?_
 obtain rfl := Option.some.inj h
 exact Goes.rt Try.f32 (.tuple #[.i (x1.size : Int), .nilIface]) ⟨S2, G10, (y3 ++ s2b x1).length, c11, ufm, rfl, ((((Ext.refl S0 w0).trans z2).trans z3).trans z4), p4, (f13.ext z4), rfl⟩

def Post.z4x (gx0 : Nat) (r : ByteArray × (List Int)) (v : Value) (w' : World) : Prop :=
 ∃ S' u13p ugi ugj, v = .string r.1 ∧ Ext S0 w0 S' w' ∧ Hp nz wz S' w' ((some gx0, .row 72 [.pointer none, .slice u13p ugi ugj] 2 0) :: Lr) ∧ Rd (kInt .u8) S' w' u13p ugj r.2 ∧ r.2.length = ugi

theorem W.z4x (u13i : List Int) (r : ByteArray × (List Int)) (h : M.strings_Builder_String u13i = some r) {nz wz S0 w0 Lr} (gx0 ugl ugm ugn ugo) (p0 : Hp nz wz S0 w0 ((some gx0, .row 72 [.pointer none, .slice (Gp ugl) ugm ugn] 2 0) :: (ugl, .row 5 ugo (ugn * (kInt .u8).size) 0) :: Lr)) (ugp : Els (kInt .u8) S0 w0 ugo u13i) (ugq : u13i.length = ugm) :
  Calls Try.prog 33 #[(pt gx0 0)] w0 (Rets (Post.z4x nz wz S0 w0 Lr gx0 r)) := by
 subst ugq
 refine calls_of_goes (fn := Try.f33) (c := B33) (by kernel_rfl) (by kernel_rfl) 13 (by kernel_rfl) ?_
 refine Goes.jp 14 [(0, (pt gx0 0))] (fun junk => ?_)
 delta M.strings_Builder_String at h
 refine Goes.rn 5 [(2, .string (⟨#[]⟩ : ByteArray))] Jwa ?_
 have z2 : Ext S0 w0 S0 (w0).drew := Ext.draw
 have p2 := p0.draw
 refine Goes.drawn (s := [10]) (F := Fc S0 (w0).drew [(⟨gx0, 1, none⟩, .slice (Gp ugl) u13i.length ugn)]) 1 12 (by kernel_rfl) (by kernel_rfl) (by kernel_rfl) (by kernel_rfl) ?_
 generalize (w0).drew = w2 at z2 p2 ⊢
 refine AnyG.pu 0 (.move (.tmp 0)) 3 69 ((pt gx0 0)) (Fc.here (p2.cs [(0, 1, 1)])) ?_
 refine AnyG.pu 1 (.nilCheck (.tmp 3)) 4 0 ((pt gx0 0)) (Fc.here (p2.cs [(0, 1, 1)])) ?_
 refine AnyG.pu 2 (.fieldAddr 72 (.tmp 4) 1) 5 0 ((pt gx0 1)) (Fc.here (p2.cs [(0, 1, 1)])) ?_
 refine AnyG.ld1 (i := 3) 70 (.tmp 5) 6 70 ⟨gx0, 1, none⟩ (.slice (Gp ugl) u13i.length ugn) (by kernel_rfl) (by kernel_rfl) (Fc.here (p2.cs [(0, 1, 1)])) (by kernel_rfl) (by kernel_rfl) (fun _ h => h.2.at_ 0 rfl) ?_
 refine AnyG.pu 5 (.move (.tmp 0)) 8 69 ((pt gx0 0)) (Fc.here (p2.cs [(0, 1, 1)])) ?_
 refine AnyG.pu 6 (.nilCheck (.tmp 8)) 9 0 ((pt gx0 0)) (Fc.here (p2.cs [(0, 1, 1)])) ?_
 refine AnyG.pu 7 (.fieldAddr 72 (.tmp 9) 1) 10 0 ((pt gx0 1)) (Fc.here (p2.cs [(0, 1, 1)])) ?_
 refine AnyG.ld1 (i := 8) 70 (.tmp 10) 11 70 ⟨gx0, 1, none⟩ (.slice (Gp ugl) u13i.length ugn) (by kernel_rfl) (by kernel_rfl) (Fc.here (p2.cs [(0, 1, 1)])) (by kernel_rfl) (by kernel_rfl) (fun _ h => h.2.at_ 0 rfl) ?_
 refine AnyG.pu 9 (.call { callee := .builtin .len, args := #[(.tmp 11)], argTypes := #[70] }) 12 3 (.i (u13i.length : Int)) (Fc.here (p2.cs [(0, 1, 1)])) ?_
 refine Op_.ssd 70 (.tmp 6) 7 110 5 1 u13i.length ugn p2 rfl (AnyG.vs (i := 4) (by kernel_rfl) (by kernel_rfl)) (by kernel_rfl) (by kernel_rfl) ?_
 intro a3 w3 z3 p3 q4
 refine AnyG.next z3 ⟨(p3.c 0 1), trivial⟩ ?_
 refine guard_some' h fun g5 h => ?_
 refine Op_.ustr 110 3 (.tmp 7) (.tmp 12) 13 9 5 1 (b2s u13i) rfl rfl p3 rfl (ugp.ext (z2.trans z3)) q4 (by have := g5; omega) (AnyG.vs (i := 10) (by kernel_rfl) (by kernel_rfl)) (by kernel_rfl) (by kernel_rfl) (by kernel_rfl) (by kernel_rfl) ?_
 intro S4 w4 z4 p4 f6
 refine AnyG.last [] (Fc S4 w4 []) (by decide) ?_
 refine AnyG.pu 11 (.assign (.tmp 13)) 2 9 (.string (b2s u13i)) (Fc.here trivial) ?_
 refine AnyG.done (by kernel_rfl) ?_ _
 obtain rfl := Option.some.inj h
 exact Goes.rt Try.f33 (.string (b2s u13i)) ⟨S4, (Gp ugl), u13i.length, ugn, rfl, ((((Ext.refl S0 w0).trans z2).trans z3).trans z4), p4, f6, rfl⟩

def L.z4y : ByteArray × (List Int) × Int × Int → ByteArray → Prop := fun ⟨x0, u13q, x7, x8⟩ r => ∀ S1 w1, Ext S0 w0 S1 w1 → ∀ gx3 u13r u13s u13t u13u (_ : Hp nz wz S1 w1 ((some gx3, .row 72 [.pointer none, .slice (Gp u13r) u13s u13t] 2 0) :: (u13r, .row 5 u13u (u13t * (kInt .u8).size) 0) :: Lr)) (_ : Els (kInt .u8) S1 w1 u13u u13q) (_ : u13q.length = u13s) (junk : Nat → Value),
 Goes Try.prog (base 17) Jwe ⟨lfr 35 [(0, .string x0), (3, (pt gx3 0)), (7, .i x7), (8, .i x8)] junk, []⟩ w1 (Done Try.prog 17 (Rets (Post.z4u nz wz S0 w0 Lr r)))

theorem W.z4y {nz wz S0 w0 Lr} : ∀ a r, M.syntax_Quote_l0 a = some r → L.z4y nz wz S0 w0 Lr a r := by
 intro ⟨x0, u13q, x7, x8⟩ r h S1 w1 hx gx3 u13r u13s u13t u13u p1 u13x u9j junk
 rw [M.syntax_Quote_l0] at h
 try dsimp only at h
 subst u9j
 refine Goes.rn 5 [(9, .bool (decide (x8 < x7)))] Jwg ?_
 refine ite_some h (fun h6 h => ?_) (fun h6 h => ?_)
 ·
  rw [decide_eq_true h6]
  refine Goes.rn 13 [(10, .i x8), (4, .i x8), (11, .string x0), (12, .i x8)] Jwk ?_
  refine guard_some' h fun g7 h => ?_
  refine guard_some' h fun g8 h => ?_
  refine Op_.ixS 9 (.tmp 11) (.tmp 12) 13 5 .i64 x0 x8 Goes.v (by kernel_rfl) (by kernel_rfl) (by kernel_rfl) g7 g8 ?_
  refine Goes.rn 6 [(5, .int .u8 (bt x0 x8)), (14, .int .u8 (bt x0 x8))] Jwn ?_
  refine bind_some' h fun y9 e10 h => ?_
  refine Goes.cal (kc 30 [14] #[5]) 15 4 30 _ (W.z4l (bt x0 x8) y9 e10  p1 ) ?_
  rintro _ w3 ⟨S3, rfl, z3, p3⟩
  refine Goes.rn 1 [] Jwm ?_
  refine ite_some h (fun h11 h => ?_) (fun h11 h => ?_)
  ·
   rw [h11]
   refine Goes.rn 4 [(16, .int .u8 (bt x0 x8))] Jwp ?_
   refine bind_some' h fun y12 e13 h => ?_
   refine Goes.cal (kc 31 [3, 16] #[72, 5]) 17 74 31 _ (W.z4p u13q (bt x0 x8) y12 e13 gx3 u13r u13q.length u13t u13u p3 (u13x.ext z3) rfl) ?_
   rintro _ w4 ⟨S4, unx, uny, unz, uo0, rfl, z4, p4, uo1, rfl⟩
   refine Goes.rn 7 [(33, .i (wr .i64 (x8 + 1))), (8, .i (wr .i64 (x8 + 1)))] Jwe ?_
   exact Goes.jp 35 [(0, .string x0), (3, (pt gx3 0)), (7, .i x7), (8, .i (wr .i64 (x8 + 1)))] (W.z4v _ _ h _ _ ((hx.trans z3).trans z4) gx3 unx y12.length unz uo0 p4 uo1 rfl)
  ·
   have u2t : y9 = false := by simpa using h11
   rw [u2t]
   refine Goes.rn 2 [] Jwl ?_
   have z5 : Ext S3 w3 S3 (w3).drew := Ext.draw
   have p5 := p3.draw
   refine Goes.drawn (s := [14]) (F := Fc S3 (w3).drew []) 8 15 (by kernel_rfl) (by kernel_rfl) (by kernel_rfl) (by kernel_rfl) ?_
   generalize (w3).drew = w5 at z5 p5 ⊢
   refine AnyG.pu 0 (.move (.tmp 5)) 18 5 (.int .u8 (bt x0 x8)) (Fc.here trivial) ?_
   refine AnyG.pu 1 (.binOp .shr 5 (.tmp 18) (.const (.int .u64 4)) 78) 19 5 (.int .u8 (ishr .u8 (bt x0 x8) 4)) (Fc.here trivial) ?_
   refine AnyG.pu 2 (.move (.tmp 5)) 20 5 (.int .u8 (bt x0 x8)) (Fc.here trivial) ?_
   refine AnyG.pu 3 (.binOp .shr 5 (.tmp 20) (.const (.int .u64 4)) 78) 21 5 (.int .u8 (ishr .u8 (bt x0 x8) 4)) (Fc.here trivial) ?_
   refine AnyG.pu 4 (.binOp .add 5 (.tmp 21) (.const (.int .u8 1)) 5) 22 5 (.int .u8 (wr .u8 ((ishr .u8 (bt x0 x8) 4) + 1))) (Fc.here trivial) ?_
   refine guard_some' h fun g17 h => ?_
   refine guard_some' h fun g18 h => ?_
   refine guard_some' h fun g19 h => ?_
   refine AnyG.slS (i := 5) 9 (.const (.string ⟨#[48, 49, 50, 51, 52, 53, 54, 55, 56, 57, 97, 98, 99, 100, 101, 102]⟩)) (some (.tmp 19)) (some (.tmp 22)) 23 9 (⟨#[48, 49, 50, 51, 52, 53, 54, 55, 56, 57, 97, 98, 99, 100, 101, 102]⟩ : ByteArray) (ishr .u8 (bt x0 x8) 4) (wr .u8 ((ishr .u8 (bt x0 x8) 4) + 1)) (by kernel_rfl) (by kernel_rfl) (Fc.here trivial) (by kernel_rfl) (by kernel_rfl) (Bnd.at_ .u8 (by kernel_rfl)) (Bnd.at_ .u8 (by kernel_rfl)) g17 g18 g19 ?_
   refine AnyG.pu 7 (.move (.tmp 5)) 25 5 (.int .u8 (bt x0 x8)) (Fc.here trivial) ?_
   refine AnyG.pu 8 (.binOp .and 5 (.tmp 25) (.const (.int .u8 15)) 5) 26 5 (.int .u8 (iand .u8 (bt x0 x8) 15)) (Fc.here trivial) ?_
   refine AnyG.pu 9 (.move (.tmp 5)) 27 5 (.int .u8 (bt x0 x8)) (Fc.here trivial) ?_
   refine AnyG.pu 10 (.binOp .and 5 (.tmp 27) (.const (.int .u8 15)) 5) 28 5 (.int .u8 (iand .u8 (bt x0 x8) 15)) (Fc.here trivial) ?_
   refine AnyG.pu 11 (.binOp .add 5 (.tmp 28) (.const (.int .u8 1)) 5) 29 5 (.int .u8 (wr .u8 ((iand .u8 (bt x0 x8) 15) + 1))) (Fc.here trivial) ?_
   refine guard_some' h fun g20 h => ?_
   refine guard_some' h fun g21 h => ?_
   refine guard_some' h fun g22 h => ?_
   refine AnyG.slS (i := 12) 9 (.const (.string ⟨#[48, 49, 50, 51, 52, 53, 54, 55, 56, 57, 97, 98, 99, 100, 101, 102]⟩)) (some (.tmp 26)) (some (.tmp 29)) 30 9 (⟨#[48, 49, 50, 51, 52, 53, 54, 55, 56, 57, 97, 98, 99, 100, 101, 102]⟩ : ByteArray) (iand .u8 (bt x0 x8) 15) (wr .u8 ((iand .u8 (bt x0 x8) 15) + 1)) (by kernel_rfl) (by kernel_rfl) (Fc.here trivial) (by kernel_rfl) (by kernel_rfl) (Bnd.at_ .u8 (by kernel_rfl)) (Bnd.at_ .u8 (by kernel_rfl)) g20 g21 g22 ?_
   refine guard_some' h fun g23 h => ?_
   refine let_some h fun v24 e25 h => ?_
   refine Op_.cat_n 9 (.const (.string ⟨#[92, 120]⟩)) (.tmp 23) 9 24 9 (⟨#[92, 120]⟩ : ByteArray) (ss (⟨#[48, 49, 50, 51, 52, 53, 54, 55, 56, 57, 97, 98, 99, 100, 101, 102]⟩ : ByteArray) (ishr .u8 (bt x0 x8) 4) (wr .u8 ((ishr .u8 (bt x0 x8) 4) + 1))) v24 e25 (AnyG.vs (i := 6) (by kernel_rfl) (by kernel_rfl)) (by kernel_rfl) (by kernel_rfl) g23 ?_
   refine AnyG.next (Ext.refl _ _) trivial ?_
   refine guard_some' h fun g26 h => ?_
   refine let_some h fun v27 e28 h => ?_
   refine Op_.cat_n 9 (.tmp 24) (.tmp 30) 9 31 9 v24 (ss (⟨#[48, 49, 50, 51, 52, 53, 54, 55, 56, 57, 97, 98, 99, 100, 101, 102]⟩ : ByteArray) (iand .u8 (bt x0 x8) 15) (wr .u8 ((iand .u8 (bt x0 x8) 15) + 1))) v27 e28 (AnyG.vs (i := 13) (by kernel_rfl) (by kernel_rfl)) (by kernel_rfl) (by kernel_rfl) g26 ?_
   refine AnyG.next (Ext.refl _ _) trivial ?_
   refine bind_some' h fun y29 e30 h => ?_
   refine Op_.call (kc 32 [3, 31] #[72, 9]) 32 76 32 #[(pt gx3 0), .string v27] (AnyG.cs (i := 14) (by kernel_rfl) (by kernel_rfl)) (by kernel_rfl) (W.z4w u13q v27 y29 e30 gx3 u13r u13q.length u13t u13u p5 (u13x.ext (z3.trans z5)) rfl) ?_
   rintro _ w6 ⟨S6, u14c, u14d, u14e, u14f, rfl, z6, p6, u14g, rfl⟩
   refine AnyG.last [] (Fc S6 w6 []) (by decide) ?_
   refine AnyG.done (by kernel_rfl) ?_ _
   refine Goes.rn 6 [(33, .i (wr .i64 (x8 + 1))), (8, .i (wr .i64 (x8 + 1)))] Jwe ?_
   exact Goes.jp 35 [(0, .string x0), (3, (pt gx3 0)), (7, .i x7), (8, .i (wr .i64 (x8 + 1)))] (W.z4v _ _ h _ _ (((hx.trans z3).trans z5).trans z6) gx3 u14c y29.2.length u14e u14f p6 u14g rfl)
 ·
  rw [decide_eq_false h6]
  refine Goes.rn 4 [] Jwr ?_
  refine bind_some' h fun y32 e33 h => ?_
  refine Goes.cal (kc 33 [3] #[72]) 34 9 33 _ (W.z4x u13q y32 e33 gx3 u13r u13q.length u13t u13u p1 u13x rfl) ?_
  rintro _ w7 ⟨S7, u14h, u14i, u14j, rfl, z7, p7, u14k, rfl⟩
  have p7 := p7.dp 0
  refine Goes.rn 2 [(2, .string y32.1)] Jwq ?_
  obtain rfl := Option.some.inj h
  exact Goes.rt Try.f17 (.string y32.1) ⟨S7, rfl, (hx.trans z7), p7⟩

def Qpw := sub [1, 1] B17
def Jws : List Item := [.code Qpw]
def Qpx := sub [1, 0] B17
def Jwt : List Item := .inRegion (opsOf Qpx) [0] :: Jws

theorem W.z4u (x0 : ByteArray) (r : ByteArray) (h : M.syntax_Quote x0 = some r) {nz wz S0 w0 Lr} (p0 : Hp nz wz S0 w0 (Lr)) :
  Calls Try.prog 17 #[.string x0] w0 (Rets (Post.z4u nz wz S0 w0 Lr r)) := by
 refine calls_of_goes (fn := Try.f17) (c := B17) (by kernel_rfl) (by kernel_rfl) 34 (by kernel_rfl) ?_
 refine Goes.jp 35 [(0, .string x0)] (fun junk => ?_)
 delta M.syntax_Quote at h
 refine Goes.rn 6 [(2, .string (⟨#[]⟩ : ByteArray))] Jwt ?_
 refine Op_.alloc 72 3 0 (.agg #[.pointer none, .slice none 0 0]) [.pointer none, .slice none 0 0] p0 Goes.v (by kernel_rfl) (by kernel_rfl) ?_
 intro b1 w2 z2 p2
 refine Goes.rn 10 [(6, .string x0), (7, .i (x0.size : Int)), (8, .i 0)] Jwe ?_
 have p2 : Hp nz wz S0 w2 ((none, .row 5 [] (0 * (kInt .u8).size) 0) :: (some b1, .row 72 [.pointer none, .slice none 0 0] 2 0) :: Lr) := p2.nilRow' 5
 have p2 := (p2.fr 0).fr 1
 exact Goes.jp 35 [(0, .string x0), (3, (pt b1 0)), (7, .i (x0.size : Int)), (8, .i 0)] (W.z4y _ _ h _ _ ((Ext.refl S0 w0).trans z2) b1 none 0 0 [] p2 (Els.nil (K := (kInt .u8))) rfl)

def Qpy := sub [1, 1] B6
def Jwu : List Item := [.code Qpy]
def Qpz := sub [1, 0, 1] B6
def Jwv : List Item := .code Qpz :: Jwu
def Qq0 := sub [1, 0, 0] B6
def Jww : List Item := .inRegion (opsOf Qq0) [0, 1] :: Jwv
def Qq1 := sub [1, 1, 1] B6
def Jwx : List Item := [.code Qq1]
def Qq2 := sub [1, 1, 0] B6
def Jwy : List Item := .code Qq2 :: Jwx
def Qq3 := sub [1, 1, 1, 1] B6
def Jwz : List Item := [.code Qq3]
def Qq4 := sub [1, 1, 1, 0] B6
def Jx0 : List Item := .inRegion (opsOf Qq4) [1, 2, 3, 4, 5, 6, 7, 8, 9, 10] :: Jwz
def Jx1 : List Item := .inRegion (opsOf Qq4) [3, 4, 5, 6, 7, 8, 9, 10] :: Jwz
def Qq5 := sub [1, 1, 1, 1, 1] B6
def Jx2 : List Item := [.code Qq5]
def Qq6 := sub [1, 1, 1, 1, 0] B6
def Jx3 : List Item := .inRegion (opsOf Qq6) [1, 2, 3, 4, 5, 6, 7, 8, 9, 10] :: Jx2
def Jx4 : List Item := .inRegion (opsOf Qq6) [3, 4, 5, 6, 7, 8, 9, 10] :: Jx2
def Qq7 := sub [1, 1, 1, 1, 1, 1] B6
def Jx5 : List Item := [.code Qq7]
def Qq8 := sub [1, 1, 1, 1, 1, 0] B6
def Jx6 : List Item := .inRegion (opsOf Qq8) [3, 4, 5, 6, 7, 8, 9, 10, 11, 12, 13, 14, 15, 16] :: Jx5
def Jx7 : List Item := .inRegion (opsOf Qq8) [7, 8, 9, 10, 11, 12, 13, 14, 15, 16] :: Jx5
def Jx8 : List Item := .inRegion (opsOf Qq8) [14, 15, 16] :: Jx5
def Jx9 : List Item := .inRegion (opsOf Qq8) [] :: Jx5
def Qq9 := sub [1, 0, 1, 0, 1] B6
def Jxa : List Item := .code Qq9 :: Jwu

def Post.z4z (r : Bool) (v : Value) (w' : World) : Prop :=
 ∃ S', v = .bool r ∧ Ext S0 w0 S' w' ∧ Hp nz wz S' w' (Lr)

theorem W.z4z (x0 : ByteArray) (x1 : ByteArray) (r : Bool) (h : M.tidepolelaw12_SimQuotes x0 x1 = some r) {nz wz S0 w0 Lr} (p0 : Hp nz wz S0 w0 (Lr)) :
  Calls Try.prog 6 #[.string x0, .string x1] w0 (Rets (Post.z4z nz wz S0 w0 Lr r)) := by
 refine calls_of_goes (fn := Try.f6) (c := B6) (by kernel_rfl) (by kernel_rfl) 53 (by kernel_rfl) ?_
 refine Goes.jp 55 [(0, .string x0), (1, .string x1)] (fun junk => ?_)
 delta M.tidepolelaw12_SimQuotes at h
 refine Goes.rn 7 [(4, .bool false)] Jww ?_
 refine bind_some' h fun y1 e2 h => ?_
 refine Goes.cal (kc 11 [] #[]) 11 4 11 _ (W.z4k y1 e2  p0 ) ?_
 rintro _ w2 ⟨S2, rfl, z2, p2⟩
 refine Goes.rn 2 [(12, .bool (!y1))] Jwv ?_
 refine ite_some h (fun h3 h => ?_) (fun h3 h => ?_)
 ·
  rw [h3]
  refine Goes.rn 3 [] Jwy ?_
  have z3 : Ext S2 w2 S2 (w2).drew := Ext.draw
  have p3 := p2.draw
  refine Goes.drawn (s := []) (F := Fc S2 (w2).drew []) 3 12 (by kernel_rfl) (by kernel_rfl) (by kernel_rfl) (by kernel_rfl) ?_
  generalize (w2).drew = w3 at z3 p3 ⊢
  refine AnyG.pu 0 (.move (.tmp 0)) 13 9 (.string x0) (Fc.here trivial) ?_
  refine AnyG.pu 1 (.move (.tmp 0)) 14 9 (.string x0) (Fc.here trivial) ?_
  refine AnyG.pu 2 (.call { callee := .builtin .len, args := #[(.tmp 14)], argTypes := #[9] }) 15 3 (.i (x0.size : Int)) (Fc.here trivial) ?_
  refine AnyG.pu 3 (.call { callee := .builtin .min, args := #[(.tmp 15), (.const (.int .i64 60))], argTypes := #[3, 3] }) 16 3 (.i (imn (x0.size : Int) 60)) (Fc.here trivial) ?_
  refine guard_some' h fun g4 h => ?_
  refine guard_some' h fun g5 h => ?_
  refine AnyG.slS (i := 4) 9 (.tmp 13) none (some (.tmp 16)) 17 9 x0 0 (imn (x0.size : Int) 60) (by kernel_rfl) (by kernel_rfl) (Fc.here trivial) (by kernel_rfl) (by kernel_rfl) Bnd.no (Bnd.at_ .i64 (by kernel_rfl)) (by decide : (0 : Int) ≤ 0) g4 g5 ?_
  refine AnyG.pu 5 (.move (.tmp 1)) 18 9 (.string x1) (Fc.here trivial) ?_
  refine AnyG.pu 6 (.move (.tmp 1)) 19 9 (.string x1) (Fc.here trivial) ?_
  refine AnyG.pu 7 (.call { callee := .builtin .len, args := #[(.tmp 19)], argTypes := #[9] }) 20 3 (.i (x1.size : Int)) (Fc.here trivial) ?_
  refine AnyG.pu 8 (.call { callee := .builtin .min, args := #[(.tmp 20), (.const (.int .i64 60))], argTypes := #[3, 3] }) 21 3 (.i (imn (x1.size : Int) 60)) (Fc.here trivial) ?_
  refine guard_some' h fun g6 h => ?_
  refine guard_some' h fun g7 h => ?_
  refine AnyG.slS (i := 9) 9 (.tmp 18) none (some (.tmp 21)) 22 9 x1 0 (imn (x1.size : Int) 60) (by kernel_rfl) (by kernel_rfl) (Fc.here trivial) (by kernel_rfl) (by kernel_rfl) Bnd.no (Bnd.at_ .i64 (by kernel_rfl)) (by decide : (0 : Int) ≤ 0) g6 g7 ?_
  refine AnyG.pu 10 (.assign (.tmp 17)) 0 9 (.string (ss x0 0 (imn (x0.size : Int) 60))) (Fc.here trivial) ?_
  refine AnyG.pu 11 (.assign (.tmp 22)) 1 9 (.string (ss x1 0 (imn (x1.size : Int) 60))) (Fc.here trivial) ?_
  refine AnyG.done (by kernel_rfl) ?_ _
  refine Goes.rn 3 [(24, .string (ss x0 0 (imn (x0.size : Int) 60)))] Jx0 ?_
  refine bind_some' h fun y8 e9 h => ?_
  refine Goes.cal (kc 17 [24] #[9]) 25 9 17 _ (W.z4u (ss x0 0 (imn (x0.size : Int) 60)) y8 e9  p3 ) ?_
  rintro _ w4 ⟨S4, rfl, z4, p4⟩
  refine Goes.rn 1 [(26, .string (ss x1 0 (imn (x1.size : Int) 60)))] Jx1 ?_
  refine bind_some' h fun y10 e11 h => ?_
  refine Goes.cal (kc 16 [25, 26] #[9, 9]) 27 42 16 _ (W.z3w y8 (ss x1 0 (imn (x1.size : Int) 60)) y10 e11  p4 ) ?_
  rintro _ w5 ⟨S5, rfl, z5, p5⟩
  refine Goes.rn 11 [(23, .tuple #[.bool y10.1, .i y10.2.1, .i y10.2.2]), (28, .bool y10.1), (29, .i y10.2.1), (30, .i y10.2.2), (5, .bool y10.1), (6, .i y10.2.1), (7, .i y10.2.2), (32, .string (ss x0 0 (imn (x0.size : Int) 60)))] Jx3 ?_
  refine bind_some' h fun y12 e13 h => ?_
  refine Goes.cal (kc 17 [32] #[9]) 33 9 17 _ (W.z4u (ss x0 0 (imn (x0.size : Int) 60)) y12 e13  p5 ) ?_
  rintro _ w6 ⟨S6, rfl, z6, p6⟩
  refine Goes.rn 1 [(34, .string (ss x0 0 (imn (x0.size : Int) 60)))] Jx4 ?_
  refine bind_some' h fun y14 e15 h => ?_
  refine Goes.cal (kc 16 [33, 34] #[9, 9]) 35 42 16 _ (W.z3w y12 (ss x0 0 (imn (x0.size : Int) 60)) y14 e15  p6 ) ?_
  rintro _ w7 ⟨S7, rfl, z7, p7⟩
  refine Goes.rn 13 [(31, .tuple #[.bool y14.1, .i y14.2.1, .i y14.2.2]), (36, .bool y14.1), (37, .i y14.2.1), (38, .i y14.2.2), (8, .bool y14.1), (9, .i y14.2.1), (10, .i y14.2.2), (39, .i y10.2.2), (40, .bool (decide (y10.2.2 = 0))), (41, .bool (decide (y10.2.2 = 0)))] Jx6 ?_
  refine ite_some h (fun h16 h => ?_) (fun h16 h => ?_)
  ·
   rw [decide_eq_true h16]
   refine Goes.rn 4 [(42, .i y14.2.2), (43, .bool (decide (y14.2.2 = 0))), (44, .bool (decide (y14.2.2 = 0))), (45, .bool (decide (y14.2.2 = 0)))] Jx7 ?_
   refine ite_some h (fun h17 h => ?_) (fun h17 h => ?_)
   ·
    rw [decide_eq_true h17]
    refine Goes.rn 7 [(46, .bool y10.1), (47, .string (ss x0 0 (imn (x0.size : Int) 60))), (48, .string (ss x1 0 (imn (x1.size : Int) 60))), (49, .bool ((ss x0 0 (imn (x0.size : Int) 60)).toList == (ss x1 0 (imn (x1.size : Int) 60)).toList)), (50, .bool (y10.1 == ((ss x0 0 (imn (x0.size : Int) 60)).toList == (ss x1 0 (imn (x1.size : Int) 60)).toList))), (51, .bool (y10.1 == ((ss x0 0 (imn (x0.size : Int) 60)).toList == (ss x1 0 (imn (x1.size : Int) 60)).toList))), (52, .bool (y10.1 == ((ss x0 0 (imn (x0.size : Int) 60)).toList == (ss x1 0 (imn (x1.size : Int) 60)).toList)))] Jx8 ?_
    refine ite_some h (fun h18 h => ?_) (fun h18 h => ?_)
    ·
     rw [h18]
     refine Goes.rn 4 [(53, .bool y14.1), (54, .bool y14.1), (4, .bool y14.1)] Jx5 ?_
     obtain rfl := Option.some.inj h
     exact Goes.rt Try.f6 (.bool y14.1) ⟨S7, rfl, (((((((Ext.refl S0 w0).trans z2).trans z3).trans z4).trans z5).trans z6).trans z7), p7⟩
    ·
     have u5c : (y10.1 == ((ss x0 0 (imn (x0.size : Int) 60)).toList == (ss x1 0 (imn (x1.size : Int) 60)).toList)) = false := by simpa using h18
     rw [u5c]
     refine Goes.rn 4 [(53, undef), (54, .bool false), (4, .bool false)] Jx5 ?_
     obtain rfl := Option.some.inj h
     exact Goes.rt Try.f6 (.bool false) ⟨S7, rfl, (((((((Ext.refl S0 w0).trans z2).trans z3).trans z4).trans z5).trans z6).trans z7), p7⟩
   ·
    rw [decide_eq_false h17]
    refine Goes.rn 11 [(46, undef), (47, undef), (48, undef), (49, undef), (50, undef), (51, .bool false), (52, .bool false), (53, undef), (54, .bool false), (4, .bool false)] Jx5 ?_
    obtain rfl := Option.some.inj h
    exact Goes.rt Try.f6 (.bool false) ⟨S7, rfl, (((((((Ext.refl S0 w0).trans z2).trans z3).trans z4).trans z5).trans z6).trans z7), p7⟩
  ·
   rw [decide_eq_false h16]
   refine Goes.rn 14 [(42, undef), (43, undef), (44, .bool false), (45, .bool false), (46, undef), (47, undef), (48, undef), (49, undef), (50, undef), (51, .bool false), (52, .bool false), (53, undef), (54, .bool false), (4, .bool false)] Jx9 ?_
   refine Goes.rn 1 [] Jx5 ?_
   obtain rfl := Option.some.inj h
   exact Goes.rt Try.f6 (.bool false) ⟨S7, rfl, (((((((Ext.refl S0 w0).trans z2).trans z3).trans z4).trans z5).trans z6).trans z7), p7⟩
 ·
  have h3' : y1 = false := by simpa using h3
  rw [h3']
  refine Goes.rn 5 [(4, .bool false)] Jxa ?_
  obtain rfl := Option.some.inj h
  exact Goes.rt Try.f6 (.bool false) ⟨S2, rfl, ((Ext.refl S0 w0).trans z2), p2⟩

end

end Go.Gx
