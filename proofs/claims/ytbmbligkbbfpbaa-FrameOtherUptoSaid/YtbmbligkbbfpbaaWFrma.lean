import Derived.Test.YtbmbligkbbfpbaaMFrm

import Derived.Test.YtbmbligkbbfpbaaGC

import Derived.Test.YtbmbligkbbfpbaaProg

set_option linter.unusedVariables false

set_option maxRecDepth 100000

namespace Go.Gx

open Go.RowKit Go.Proofs

def kT72 : Kd T72 := kMap (fun s => (s.b, s.flags)) (kProd (kSl (kInt .u8)) (kInt .i64))

noncomputable def B7 : Code := (Try.f7.body).getD .skip

noncomputable def B8 : Code := (Try.f8.body).getD .skip

noncomputable def B9 : Code := (Try.f9.body).getD .skip

noncomputable def B10 : Code := (Try.f10.body).getD .skip

noncomputable def B12 : Code := (Try.f12.body).getD .skip

noncomputable def B13 : Code := (Try.f13.body).getD .skip

noncomputable def B14 : Code := (Try.f14.body).getD .skip

noncomputable def B15 : Code := (Try.f15.body).getD .skip

noncomputable def B16 : Code := (Try.f16.body).getD .skip

noncomputable def B17 : Code := (Try.f17.body).getD .skip

noncomputable def B23 : Code := (Try.f23.body).getD .skip

noncomputable def B24 : Code := (Try.f24.body).getD .skip

noncomputable def B27 : Code := (Try.f27.body).getD .skip

noncomputable def B28 : Code := (Try.f28.body).getD .skip

noncomputable def B29 : Code := (Try.f29.body).getD .skip

noncomputable def B30 : Code := (Try.f30.body).getD .skip

noncomputable def B31 : Code := (Try.f31.body).getD .skip

noncomputable def B32 : Code := (Try.f32.body).getD .skip

noncomputable def B33 : Code := (Try.f33.body).getD .skip

noncomputable def B34 : Code := (Try.f34.body).getD .skip

noncomputable def B35 : Code := (Try.f35.body).getD .skip

noncomputable def B36 : Code := (Try.f36.body).getD .skip

noncomputable def B37 : Code := (Try.f37.body).getD .skip

noncomputable def B38 : Code := (Try.f38.body).getD .skip

noncomputable def B39 : Code := (Try.f39.body).getD .skip

noncomputable def B40 : Code := (Try.f40.body).getD .skip

noncomputable def B41 : Code := (Try.f41.body).getD .skip

noncomputable def B42 : Code := (Try.f42.body).getD .skip

noncomputable def B43 : Code := (Try.f43.body).getD .skip

noncomputable def B44 : Code := (Try.f44.body).getD .skip

noncomputable def B45 : Code := (Try.f45.body).getD .skip

noncomputable def B46 : Code := (Try.f46.body).getD .skip

noncomputable def B47 : Code := (Try.f47.body).getD .skip

noncomputable def B48 : Code := (Try.f48.body).getD .skip

noncomputable def B49 : Code := (Try.f49.body).getD .skip

def pend_36_2 : Nat → Option Code
  | 1 => some (.exit 0)
  | _ => none

/-! tidepole/tidepolebase.Bytes -/
def Post.tidepolebase_Bytes (nz : Nat) (wz : World) (S0 : Fz) (w0 : World) (Lr : List Ent) (r : List Int) (v : Value) (w' : World) : Prop :=
  ∃ (S' : Fz) (Gq : Option Nat) (nq : Nat) (cq : Nat) (csq : List Value), v = .slice (Gp Gq) nq cq ∧ Ext S0 w0 S' w' ∧ Hp nz wz S' w' ((Gq, .row 5 csq (cq * (kInt .u8).size) 0) :: Lr) ∧ Els (kInt .u8) S' w' csq r ∧ r.length = nq

theorem W.tidepolebase_Bytes (x0 : List Int) (r : List Int) (h : M.tidepolebase_Bytes x0 = some r) (nz : Nat) (wz : World) (S0 : Fz) (w0 : World) (Lr : List Ent) (Ax0 : Option Addr) (nx0 : Nat) (cx0 : Nat) (p0 : Hp nz wz S0 w0 (Lr)) (fx0 : Rd (kInt .u8) S0 w0 Ax0 cx0 x0) (lx0 : x0.length = nx0) :
    Calls Try.prog 12 #[.slice Ax0 nx0 cx0] w0 (Rets (Post.tidepolebase_Bytes nz wz S0 w0 Lr r)) := by
  subst lx0
  refine calls_of_goes (fn := Try.f12) (c := B12) (by kernel_rfl) (by kernel_rfl) 5 (by kernel_rfl) ?_
  refine Goes.jump 6 [(0, .slice Ax0 x0.length cx0)] (by kernel_rfl) (fun junk => ?_)
  delta M.tidepolebase_Bytes at h
  refine Goes.runs 6 [(2, .slice none 0 0)] [.inRegion (opsOf (sub [1, 0] B12)) [0, 1, 2, 3], .code (sub [1, 1] B12)] (by kernel_rfl) ?_
  have f2 : Els (kInt .u8) S0 w0 ([] : List Value) ([] : List Int) := by exact Els.nil
  refine Op_.made (.buildSlice 23 0 #[]) 3 23 (fun b => .slice (Gp (some b)) 0 0) 5 ([] : List Value) p0 (Goes.vs (by kernel_rfl)) (by kernel_rfl) ?_
  intro b1 w2 z2 p2
  have p2 : Hp nz wz S0 w2 (((some b1), .row 5 ([] : List Value) (0 * (kInt .u8).size) 0) :: Lr) := p2
  refine Goes.runs 1 [(4, .slice Ax0 x0.length cx0)] [.inRegion (opsOf (sub [1, 0] B12)) [2, 3], .code (sub [1, 1] B12)] (by kernel_rfl) ?_
  obtain ⟨ns4, f5, f6⟩ := src_rd (fx0.ext z2)
  refine guard_some' h fun g7 h => ?_
  refine Op_.ap_n (K := (kInt .u8)) 23 (.tmp 3) (.tmp 4) 5 23 5 0 (.int .u8 0) 1 0 0 x0.length ([] : List Int) x0 x0 Ax0 cx0 rfl rfl (List.nil_append _) p2 rfl (f2.ext z2) (Goes.vs (by kernel_rfl)) (by kernel_rfl) (by kernel_rfl) (by kernel_rfl) (by kernel_rfl) rfl (by decide) f5 f6 (by have := g7; omega) (by have := g7; omega) ?_
  intro w3 G8 c9 cs10 z3 p3 f11
  refine Goes.runs 2 [(2, .slice (Gp G8) x0.length c9)] [.code (sub [1, 1] B12)] (by kernel_rfl) ?_
  obtain rfl := Option.some.inj h
  exact Goes.ret (fn := Try.f12) (by kernel_rfl) (v := .slice (Gp G8) x0.length c9) (by kernel_rfl) ⟨S0, G8, x0.length, c9, cs10, rfl, (((Ext.refl S0 w0).trans z2).trans z3), p3, f11, rfl⟩

/-! tidepole/tidepolelaw03.few -/
def Post.tidepolelaw03_few (nz : Nat) (wz : World) (S0 : Fz) (w0 : World) (Lr : List Ent) (r : List (List Int)) (v : Value) (w' : World) : Prop :=
  ∃ (S' : Fz) (Gq : Option Nat) (nq : Nat) (cq : Nat) (csq : List Value), v = .slice (Gp Gq) nq cq ∧ Ext S0 w0 S' w' ∧ Hp nz wz S' w' ((Gq, .row 23 csq (cq * (kSl (kInt .u8)).size) 0) :: Lr) ∧ Els (kSl (kInt .u8)) S' w' csq r ∧ r.length = nq

def L.tidepolelaw03_few_l0 (nz : Nat) (wz : World) (S0 : Fz) (w0 : World) (Lr : List Ent) : (List (List Int)) × (List (List Int)) × Int × Int → (List (List Int)) → Prop := fun ⟨x0, x3, x4, x5⟩ r => ∀ S1 w1, Ext S0 w0 S1 w1 → ∀ (Ax0 : Option Addr) (nx0 : Nat) (cx0 : Nat) (Gx3 : Option Nat) (nx3 : Nat) (cx3 : Nat) (csx3 : List Value) (_ : Hp nz wz S1 w1 ((Gx3, .row 23 csx3 (cx3 * (kSl (kInt .u8)).size) 0) :: Lr)) (_ : Rd (kSl (kInt .u8)) S1 w1 Ax0 cx0 x0) (_ : x0.length = nx0) (_ : Els (kSl (kInt .u8)) S1 w1 csx3 x3) (_ : x3.length = nx3) (junk : Nat → Value),
  Goes Try.prog (base 28) [.code (sub [1, 1, 1, 0, 1, 0, 0] B28), .inLoop (sub [1, 1, 1, 0, 1, 0, 0] B28), .inBlock 0, .code (sub [1, 1, 1, 1] B28)] ⟨lfr 43 [(0, .slice Ax0 nx0 cx0), (3, .slice (Gp Gx3) nx3 cx3), (4, .int .i64 x4), (5, .int .i64 x5)] junk, []⟩ w1 (Done Try.prog 28 (Rets (Post.tidepolelaw03_few nz wz S0 w0 Lr r)))

def L.tidepolelaw03_few_l1 (nz : Nat) (wz : World) (S0 : Fz) (w0 : World) (Lr : List Ent) : (List (List Int)) × (List (List Int)) × Int × Int × Bool → (List (List Int)) → Prop := fun ⟨x0, x3, x4, x5, x15⟩ r => ∀ S1 w1, Ext S0 w0 S1 w1 → ∀ (Ax0 : Option Addr) (nx0 : Nat) (cx0 : Nat) (Gx3 : Option Nat) (nx3 : Nat) (cx3 : Nat) (csx3 : List Value) (_ : Hp nz wz S1 w1 ((Gx3, .row 23 csx3 (cx3 * (kSl (kInt .u8)).size) 0) :: Lr)) (_ : Rd (kSl (kInt .u8)) S1 w1 Ax0 cx0 x0) (_ : x0.length = nx0) (_ : Els (kSl (kInt .u8)) S1 w1 csx3 x3) (_ : x3.length = nx3) (junk : Nat → Value),
  Goes Try.prog (base 28) [.code (sub [1, 1, 1, 0, 1, 0, 0, 0, 1] B28), .code (sub [1, 1, 1, 0, 1, 0, 0, 1] B28), .inLoop (sub [1, 1, 1, 0, 1, 0, 0] B28), .inBlock 0, .code (sub [1, 1, 1, 1] B28)] ⟨lfr 43 [(0, .slice Ax0 nx0 cx0), (3, .slice (Gp Gx3) nx3 cx3), (4, .int .i64 x4), (5, .int .i64 x5), (15, .bool x15)] junk, []⟩ w1 (Done Try.prog 28 (Rets (Post.tidepolelaw03_few nz wz S0 w0 Lr r)))

def L.tidepolelaw03_few_l2 (nz : Nat) (wz : World) (S0 : Fz) (w0 : World) (Lr : List Ent) : (List (List Int)) × (List (List Int)) × Int × Int × (List Int) → (List (List Int)) → Prop := fun ⟨x0, x3, x4, x5, x6⟩ r => ∀ S1 w1, Ext S0 w0 S1 w1 → ∀ (Ax0 : Option Addr) (nx0 : Nat) (cx0 : Nat) (Gx3 : Option Nat) (nx3 : Nat) (cx3 : Nat) (csx3 : List Value) (Ax6 : Option Addr) (nx6 : Nat) (cx6 : Nat) (_ : Hp nz wz S1 w1 ((Gx3, .row 23 csx3 (cx3 * (kSl (kInt .u8)).size) 0) :: Lr)) (_ : Rd (kSl (kInt .u8)) S1 w1 Ax0 cx0 x0) (_ : x0.length = nx0) (_ : Els (kSl (kInt .u8)) S1 w1 csx3 x3) (_ : x3.length = nx3) (_ : Rd (kInt .u8) S1 w1 Ax6 cx6 x6) (_ : x6.length = nx6) (junk : Nat → Value),
  Goes Try.prog (base 28) [.code (sub [1, 1, 1, 0, 1, 0, 0, 1, 0, 0, 1, 1] B28), .inBlock 1, .code (sub [1, 1, 1, 0, 1, 0, 0, 1, 1] B28), .inLoop (sub [1, 1, 1, 0, 1, 0, 0] B28), .inBlock 0, .code (sub [1, 1, 1, 1] B28)] ⟨lfr 43 [(0, .slice Ax0 nx0 cx0), (3, .slice (Gp Gx3) nx3 cx3), (4, .int .i64 x4), (5, .int .i64 x5), (6, .slice Ax6 nx6 cx6)] junk, []⟩ w1 (Done Try.prog 28 (Rets (Post.tidepolelaw03_few nz wz S0 w0 Lr r)))

theorem W.tidepolelaw03_few_l0_all (nz : Nat) (wz : World) (S0 : Fz) (w0 : World) (Lr : List Ent) : (∀ a r, M.tidepolelaw03_few_l0 a = some r → (L.tidepolelaw03_few_l0 nz wz S0 w0 Lr) a r) ∧ (∀ a r, M.tidepolelaw03_few_l1 a = some r → (L.tidepolelaw03_few_l1 nz wz S0 w0 Lr) a r) ∧ (∀ a r, M.tidepolelaw03_few_l2 a = some r → (L.tidepolelaw03_few_l2 nz wz S0 w0 Lr) a r) := by
  refine M.tidepolelaw03_few_l0.mutual_partial_correctness (L.tidepolelaw03_few_l0 nz wz S0 w0 Lr) (L.tidepolelaw03_few_l1 nz wz S0 w0 Lr) (L.tidepolelaw03_few_l2 nz wz S0 w0 Lr) ?_ ?_ ?_
  · intro rec_tidepolelaw03_few_l1 ih_tidepolelaw03_few_l1 ⟨x0, x3, x4, x5⟩ r h S1 w1 hx Ax0 nx0 cx0 Gx3 nx3 cx3 csx3 p1 fx0 lx0 fx3 lx3 junk
    dsimp only at h
    subst lx0
    subst lx3
    refine Goes.runs 8 [(8, .int .i64 x5), (9, .slice Ax0 x0.length cx0), (10, .int .i64 (x0.length : Int)), (11, .bool (decide (x5 < (x0.length : Int)))), (12, .bool (decide (x5 < (x0.length : Int))))] [.inRegion (opsOf (sub [1, 1, 1, 0, 1, 0, 0, 0, 0] B28)) [5, 6, 7], .code (sub [1, 1, 1, 0, 1, 0, 0, 0, 1] B28), .code (sub [1, 1, 1, 0, 1, 0, 0, 1] B28), .inLoop (sub [1, 1, 1, 0, 1, 0, 0] B28), .inBlock 0, .code (sub [1, 1, 1, 1] B28)] (by kernel_rfl) ?_
    refine ite_some h (fun h5 h => ?_) (fun h5 h => ?_)
    · rw [decide_eq_true h5]
      refine Goes.runs 4 [(13, .int .i64 x5), (14, .bool (decide (x5 < 12))), (15, .bool (decide (x5 < 12)))] [.code (sub [1, 1, 1, 0, 1, 0, 0, 0, 1] B28), .code (sub [1, 1, 1, 0, 1, 0, 0, 1] B28), .inLoop (sub [1, 1, 1, 0, 1, 0, 0] B28), .inBlock 0, .code (sub [1, 1, 1, 1] B28)] (by kernel_rfl) ?_
      exact Goes.jump 43 [(0, .slice Ax0 x0.length cx0), (3, .slice (Gp Gx3) x3.length cx3), (4, .int .i64 x4), (5, .int .i64 x5), (15, .bool (decide (x5 < 12)))] (by kernel_rfl) (ih_tidepolelaw03_few_l1 _ _ h _ _ hx Ax0 x0.length cx0 Gx3 x3.length cx3 csx3 p1 fx0 rfl fx3 rfl)
    · rw [decide_eq_false h5]
      refine Goes.runs 4 [(13, undef), (14, undef), (15, .bool false)] [.code (sub [1, 1, 1, 0, 1, 0, 0, 0, 1] B28), .code (sub [1, 1, 1, 0, 1, 0, 0, 1] B28), .inLoop (sub [1, 1, 1, 0, 1, 0, 0] B28), .inBlock 0, .code (sub [1, 1, 1, 1] B28)] (by kernel_rfl) ?_
      exact Goes.jump 43 [(0, .slice Ax0 x0.length cx0), (3, .slice (Gp Gx3) x3.length cx3), (4, .int .i64 x4), (5, .int .i64 x5), (15, .bool false)] (by kernel_rfl) (ih_tidepolelaw03_few_l1 _ _ h _ _ hx Ax0 x0.length cx0 Gx3 x3.length cx3 csx3 p1 fx0 rfl fx3 rfl)
  · intro rec_tidepolelaw03_few_l2 ih_tidepolelaw03_few_l2 ⟨x0, x3, x4, x5, x15⟩ r h S1 w1 hx Ax0 nx0 cx0 Gx3 nx3 cx3 csx3 p1 fx0 lx0 fx3 lx3 junk
    dsimp only at h
    subst lx0
    subst lx3
    refine ite_some h (fun h7 h => ?_) (fun h7 h => ?_)
    · rw [h7]
      refine Goes.runs 8 [(18, .slice Ax0 x0.length cx0), (19, .int .i64 x5)] [.inRegion (opsOf (sub [1, 1, 1, 0, 1, 0, 0, 1, 0, 0, 0] B28)) [2, 3, 4], .code (sub [1, 1, 1, 0, 1, 0, 0, 1, 0, 0, 1] B28), .inBlock 1, .code (sub [1, 1, 1, 0, 1, 0, 0, 1, 1] B28), .inLoop (sub [1, 1, 1, 0, 1, 0, 0] B28), .inBlock 0, .code (sub [1, 1, 1, 1] B28)] (by kernel_rfl) ?_
      refine guard_some' h fun g8 h => ?_
      refine guard_some' h fun g9 h => ?_
      refine Op_.ixR_n 41 (.tmp 18) (.tmp 19) 20 0 23 .i64 x5 (gi x0 x5) rfl rfl fx0 (Goes.vs (by kernel_rfl)) (by kernel_rfl) (by kernel_rfl) (by kernel_rfl) (by kernel_rfl) g8 g9 ?_
      intro a10 _ f11 q12
      obtain ⟨A13, c14, rfl, f15⟩ := q12
      refine Op_.ld1 23 (.tmp 20) 21 23 a10 (.slice A13 ((gi x0 x5).length) c14) (Goes.vs (by kernel_rfl)) (by kernel_rfl) (by kernel_rfl) (f11.cell 0 _ rfl) ?_
      refine Goes.runs 9 [(6, .slice A13 ((gi x0 x5).length) c14), (22, .slice A13 ((gi x0 x5).length) c14), (23, .int .i64 ((gi x0 x5).length : Int)), (24, .bool (decide (((gi x0 x5).length : Int) > 65536)))] [.code (sub [1, 1, 1, 0, 1, 0, 0, 1, 0, 0, 1, 0, 1] B28), .code (sub [1, 1, 1, 0, 1, 0, 0, 1, 0, 0, 1, 1] B28), .inBlock 1, .code (sub [1, 1, 1, 0, 1, 0, 0, 1, 1] B28), .inLoop (sub [1, 1, 1, 0, 1, 0, 0] B28), .inBlock 0, .code (sub [1, 1, 1, 1] B28)] (by kernel_rfl) ?_
      refine ite_some h (fun h16 h => ?_) (fun h16 h => ?_)
      · rw [decide_eq_true h16]
        refine Goes.runs 3 [(25, .slice A13 ((gi x0 x5).length) c14)] [.inRegion (opsOf (sub [1, 1, 1, 0, 1, 0, 0, 1, 0, 0, 1, 0, 1, 0] B28)) [1, 2], .code (sub [1, 1, 1, 0, 1, 0, 0, 1, 0, 0, 1, 1] B28), .inBlock 1, .code (sub [1, 1, 1, 0, 1, 0, 0, 1, 1] B28), .inLoop (sub [1, 1, 1, 0, 1, 0, 0] B28), .inBlock 0, .code (sub [1, 1, 1, 1] B28)] (by kernel_rfl) ?_
        refine guard_some' h fun g17 h => ?_
        refine Op_.slR_n 23 (.tmp 25) none (some (.const (.int .i64 65537))) 26 23 5 0 65537 (sl (gi x0 x5) 0 65537) rfl rfl f15 (Goes.vs (by kernel_rfl)) (by kernel_rfl) (by kernel_rfl) (by kernel_rfl) Bnd.no (Bnd.at_ .i64 (by kernel_rfl)) (by decide : (0 : Int) ≤ 0) (by decide : (0 : Int) ≤ 65537) g17 ?_
        intro A18 c19 f20
        refine Goes.runs 2 [(6, .slice A18 ((sl (gi x0 x5) 0 65537).length) c19)] [.code (sub [1, 1, 1, 0, 1, 0, 0, 1, 0, 0, 1, 1] B28), .inBlock 1, .code (sub [1, 1, 1, 0, 1, 0, 0, 1, 1] B28), .inLoop (sub [1, 1, 1, 0, 1, 0, 0] B28), .inBlock 0, .code (sub [1, 1, 1, 1] B28)] (by kernel_rfl) ?_
        exact Goes.jump 43 [(0, .slice Ax0 x0.length cx0), (3, .slice (Gp Gx3) x3.length cx3), (4, .int .i64 x4), (5, .int .i64 x5), (6, .slice A18 ((sl (gi x0 x5) 0 65537).length) c19)] (by kernel_rfl) (ih_tidepolelaw03_few_l2 _ _ h _ _ hx Ax0 x0.length cx0 Gx3 x3.length cx3 csx3 A18 ((sl (gi x0 x5) 0 65537).length) c19 p1 fx0 rfl fx3 rfl f20 rfl)
      · rw [decide_eq_false h16]
        refine Goes.runs 8 [(27, .slice A13 ((gi x0 x5).length) c14), (28, .slice A13 ((gi x0 x5).length) c14), (29, .int .i64 ((gi x0 x5).length : Int)), (30, .int .i64 x4), (31, .int .i64 (imn ((gi x0 x5).length : Int) x4))] [.inRegion (opsOf (sub [1, 1, 1, 0, 1, 0, 0, 1, 0, 0, 1, 0, 1, 1, 0] B28)) [5, 6], .code (sub [1, 1, 1, 0, 1, 0, 0, 1, 0, 0, 1, 0, 1, 1, 1] B28), .code (sub [1, 1, 1, 0, 1, 0, 0, 1, 0, 0, 1, 1] B28), .inBlock 1, .code (sub [1, 1, 1, 0, 1, 0, 0, 1, 1] B28), .inLoop (sub [1, 1, 1, 0, 1, 0, 0] B28), .inBlock 0, .code (sub [1, 1, 1, 1] B28)] (by kernel_rfl) ?_
        refine guard_some' h fun g22 h => ?_
        refine guard_some' h fun g23 h => ?_
        refine let_some h fun v27 e28 h => ?_
        refine Op_.slR_n 23 (.tmp 27) none (some (.tmp 31)) 32 23 5 0 (imn ((gi x0 x5).length : Int) x4) v27 rfl e28 f15 (Goes.vs (by kernel_rfl)) (by kernel_rfl) (by kernel_rfl) (by kernel_rfl) Bnd.no (Bnd.at_ .i64 (by kernel_rfl)) (by decide : (0 : Int) ≤ 0) g22 g23 ?_
        intro A24 c25 f26
        refine Goes.runs 9 [(6, .slice A24 v27.length c25), (33, .int .i64 x4), (34, .slice A24 v27.length c25), (35, .int .i64 (v27.length : Int)), (36, .int .i64 (wr .i64 (x4 - (v27.length : Int)))), (4, .int .i64 (wr .i64 (x4 - (v27.length : Int))))] [.code (sub [1, 1, 1, 0, 1, 0, 0, 1, 0, 0, 1, 1] B28), .inBlock 1, .code (sub [1, 1, 1, 0, 1, 0, 0, 1, 1] B28), .inLoop (sub [1, 1, 1, 0, 1, 0, 0] B28), .inBlock 0, .code (sub [1, 1, 1, 1] B28)] (by kernel_rfl) ?_
        exact Goes.jump 43 [(0, .slice Ax0 x0.length cx0), (3, .slice (Gp Gx3) x3.length cx3), (4, .int .i64 (wr .i64 (x4 - (v27.length : Int)))), (5, .int .i64 x5), (6, .slice A24 v27.length c25)] (by kernel_rfl) (ih_tidepolelaw03_few_l2 _ _ h _ _ hx Ax0 x0.length cx0 Gx3 x3.length cx3 csx3 A24 v27.length c25 p1 fx0 rfl fx3 rfl f26 rfl)
    · have h7' : x15 = false := by simpa using h7
      rw [h7']
      refine Goes.runs 7 [(42, .slice (Gp Gx3) x3.length cx3), (2, .slice (Gp Gx3) x3.length cx3)] [.code (sub [1, 1, 1, 1, 1] B28)] (by kernel_rfl) ?_
      obtain rfl := Option.some.inj h
      exact Goes.ret (fn := Try.f28) (by kernel_rfl) (v := .slice (Gp Gx3) x3.length cx3) (by kernel_rfl) ⟨S1, Gx3, x3.length, cx3, csx3, rfl, hx, p1, fx3, rfl⟩
  · intro rec_tidepolelaw03_few_l0 ih_tidepolelaw03_few_l0 ⟨x0, x3, x4, x5, x6⟩ r h S1 w1 hx Ax0 nx0 cx0 Gx3 nx3 cx3 csx3 Ax6 nx6 cx6 p1 fx0 lx0 fx3 lx3 fx6 lx6 junk
    dsimp only at h
    subst lx0
    subst lx3
    subst lx6
    refine Goes.runs 3 [(37, .slice (Gp Gx3) x3.length cx3), (38, .slice Ax6 x6.length cx6)] [.inRegion (opsOf (sub [1, 1, 1, 0, 1, 0, 0, 1, 0, 0, 1, 1] B28)) [2, 3, 4, 5], .inBlock 1, .code (sub [1, 1, 1, 0, 1, 0, 0, 1, 1] B28), .inLoop (sub [1, 1, 1, 0, 1, 0, 0] B28), .inBlock 0, .code (sub [1, 1, 1, 1] B28)] (by kernel_rfl) ?_
    refine bind_some' h fun y29 e30 h => ?_
    refine Op_.call (.call { callee := .value (.func 12), args := #[(.tmp 38)], argTypes := #[23] }) 39 23 12 #[.slice Ax6 x6.length cx6] (Goes.cs (by kernel_rfl)) (by kernel_rfl) (W.tidepolebase_Bytes x6 y29 e30 nz wz S1 w1 ((Gx3, .row 23 csx3 (cx3 * (kSl (kInt .u8)).size) 0) :: Lr) Ax6 x6.length cx6 p1 fx6 rfl) ?_
    rintro _ w3 ⟨S3, Gr_3, nr_3, cr_3, csr_3, rfl, z3, p3, fr_3, rfl⟩
    obtain ⟨S4, z4, p4, f32⟩ := p3.freezeRd 0 rfl fr_3 (by decide)
    have f34 : Els (kSl (kInt .u8)) S4 w3 ([.slice (Gp Gr_3) y29.length cr_3] : List Value) [y29] := by exact (Els.cons (K := (kSl (kInt .u8))) (vs := [.slice (Gp Gr_3) y29.length cr_3]) (x := y29) ⟨_, _, rfl, f32⟩ Els.nil)
    refine Op_.made (.buildSlice 41 1 #[(0, (.tmp 39))]) 40 41 (fun b => .slice (Gp (some b)) 1 1) 23 ([.slice (Gp Gr_3) y29.length cr_3] : List Value) p4 (Goes.vs (by kernel_rfl)) (by kernel_rfl) ?_
    intro b33 w5 z5 p5
    have p5 : Hp nz wz S4 w5 (((some b33), .row 23 ([.slice (Gp Gr_3) y29.length cr_3] : List Value) (1 * (kSl (kInt .u8)).size) 0) :: (Gr_3, .row 5 csr_3 (cr_3 * (kInt .u8).size) csr_3.length) :: (Gx3, .row 23 csx3 (cx3 * (kSl (kInt .u8)).size) 0) :: Lr) := p5
    refine guard_some' h fun g39 h => ?_
    refine Op_.ap_n (K := (kSl (kInt .u8))) 41 (.tmp 37) (.tmp 40) 41 41 23 2 (.slice none 0 0) 24 x3.length cx3 1 x3 [y29] (x3 ++ [y29]) (Gp (some b33)) 1 rfl rfl rfl p5 rfl (fx3.ext ((z3.trans z4).trans z5)) (Goes.vs (by kernel_rfl)) (by kernel_rfl) (by kernel_rfl) (by kernel_rfl) (by kernel_rfl) rfl (by decide) (f34.ext z5) (src_own p5 (q := 0) rfl) (by have := g39; omega) (by have := g39; omega) ?_
    intro w6 G40 c41 cs42 z6 p6 f43
    refine Goes.runs 9 [(3, .slice (Gp G40) ((x3 ++ [y29]).length) c41), (16, .int .i64 x5), (17, .int .i64 (wr .i64 (x5 + 1))), (5, .int .i64 (wr .i64 (x5 + 1)))] [.code (sub [1, 1, 1, 0, 1, 0, 0] B28), .inLoop (sub [1, 1, 1, 0, 1, 0, 0] B28), .inBlock 0, .code (sub [1, 1, 1, 1] B28)] (by kernel_rfl) ?_
    have p6 := (p6.front 0 _ rfl).drop
    have p6 := (p6.front 0 _ rfl).drop
    exact Goes.jump 43 [(0, .slice Ax0 x0.length cx0), (3, .slice (Gp G40) ((x3 ++ [y29]).length) c41), (4, .int .i64 x4), (5, .int .i64 (wr .i64 (x5 + 1)))] (by kernel_rfl) (ih_tidepolelaw03_few_l0 _ _ h _ _ ((((hx.trans z3).trans z4).trans z5).trans z6) Ax0 x0.length cx0 G40 ((x3 ++ [y29]).length) c41 cs42 p6 (fx0.ext (((z3.trans z4).trans z5).trans z6)) rfl f43 rfl)

theorem W.tidepolelaw03_few_l0 (nz : Nat) (wz : World) (S0 : Fz) (w0 : World) (Lr : List Ent) : ∀ a r, M.tidepolelaw03_few_l0 a = some r → (L.tidepolelaw03_few_l0 nz wz S0 w0 Lr) a r := (W.tidepolelaw03_few_l0_all nz wz S0 w0 Lr).1

theorem W.tidepolelaw03_few_l1 (nz : Nat) (wz : World) (S0 : Fz) (w0 : World) (Lr : List Ent) : ∀ a r, M.tidepolelaw03_few_l1 a = some r → (L.tidepolelaw03_few_l1 nz wz S0 w0 Lr) a r := (W.tidepolelaw03_few_l0_all nz wz S0 w0 Lr).2.1

theorem W.tidepolelaw03_few_l2 (nz : Nat) (wz : World) (S0 : Fz) (w0 : World) (Lr : List Ent) : ∀ a r, M.tidepolelaw03_few_l2 a = some r → (L.tidepolelaw03_few_l2 nz wz S0 w0 Lr) a r := (W.tidepolelaw03_few_l0_all nz wz S0 w0 Lr).2.2

/-! tidepole/tidepolelaw03.few -/
theorem W.tidepolelaw03_few (x0 : List (List Int)) (r : List (List Int)) (h : M.tidepolelaw03_few x0 = some r) (nz : Nat) (wz : World) (S0 : Fz) (w0 : World) (Lr : List Ent) (Ax0 : Option Addr) (nx0 : Nat) (cx0 : Nat) (p0 : Hp nz wz S0 w0 (Lr)) (fx0 : Rd (kSl (kInt .u8)) S0 w0 Ax0 cx0 x0) (lx0 : x0.length = nx0) :
    Calls Try.prog 28 #[.slice Ax0 nx0 cx0] w0 (Rets (Post.tidepolelaw03_few nz wz S0 w0 Lr r)) := by
  subst lx0
  refine calls_of_goes (fn := Try.f28) (c := B28) (by kernel_rfl) (by kernel_rfl) 42 (by kernel_rfl) ?_
  refine Goes.jump 43 [(0, .slice Ax0 x0.length cx0)] (by kernel_rfl) (fun junk => ?_)
  delta M.tidepolelaw03_few at h
  refine Goes.runs 6 [(2, .slice none 0 0)] [.inRegion (opsOf (sub [1, 0] B28)) [0, 1], .code (sub [1, 1] B28)] (by kernel_rfl) ?_
  have f2 : Els (kSl (kInt .u8)) S0 w0 ([] : List Value) ([] : List (List Int)) := by exact Els.nil
  refine Op_.made (.buildSlice 41 0 #[]) 7 41 (fun b => .slice (Gp (some b)) 0 0) 23 ([] : List Value) p0 (Goes.vs (by kernel_rfl)) (by kernel_rfl) ?_
  intro b1 w2 z2 p2
  have p2 : Hp nz wz S0 w2 (((some b1), .row 23 ([] : List Value) (0 * (kSl (kInt .u8)).size) 0) :: Lr) := p2
  refine Goes.runs 13 [(3, .slice (Gp (some b1)) 0 0), (4, .int .i64 5000), (5, .int .i64 0)] [.code (sub [1, 1, 1, 0, 1, 0, 0] B28), .inLoop (sub [1, 1, 1, 0, 1, 0, 0] B28), .inBlock 0, .code (sub [1, 1, 1, 1] B28)] (by kernel_rfl) ?_
  exact Goes.jump 43 [(0, .slice Ax0 x0.length cx0), (3, .slice (Gp (some b1)) 0 0), (4, .int .i64 5000), (5, .int .i64 0)] (by kernel_rfl) (W.tidepolelaw03_few_l0 nz wz S0 w0 Lr _ _ h _ _ ((Ext.refl S0 w0).trans z2) Ax0 x0.length cx0 (some b1) 0 0 ([] : List Value) p2 (fx0.ext z2) rfl (f2.ext z2) rfl)

/-! tidepole/frame.need[[]byte] -/
def Post.frame_need_byte (nz : Nat) (wz : World) (S0 : Fz) (w0 : World) (Lr : List Ent) (r : Int) (v : Value) (w' : World) : Prop :=
  ∃ (S' : Fz), v = .int .i64 r ∧ Ext S0 w0 S' w' ∧ Hp nz wz S' w' (Lr)

theorem W.frame_need_byte (x0 : List Int) (r : Int) (h : M.frame_need_byte x0 = some r) (nz : Nat) (wz : World) (S0 : Fz) (w0 : World) (Lr : List Ent) (Ax0 : Option Addr) (nx0 : Nat) (cx0 : Nat) (p0 : Hp nz wz S0 w0 (Lr)) (fx0 : Rd (kInt .u8) S0 w0 Ax0 cx0 x0) (lx0 : x0.length = nx0) :
    Calls Try.prog 43 #[.slice Ax0 nx0 cx0] w0 (Rets (Post.frame_need_byte nz wz S0 w0 Lr r)) := by
  subst lx0
  refine calls_of_goes (fn := Try.f43) (c := B43) (by kernel_rfl) (by kernel_rfl) 8 (by kernel_rfl) ?_
  refine Goes.jump 9 [(0, .slice Ax0 x0.length cx0)] (by kernel_rfl) (fun junk => ?_)
  delta M.frame_need_byte at h
  refine Goes.runs 14 [(2, .int .i64 (imx 1 (iquo .i64 (wr .i64 ((wr .i64 ((x0.length : Int) + 244)) - 1)) 244))), (3, .slice Ax0 x0.length cx0), (4, .int .i64 (x0.length : Int)), (5, .int .i64 (wr .i64 ((x0.length : Int) + 244))), (6, .int .i64 (wr .i64 ((wr .i64 ((x0.length : Int) + 244)) - 1))), (7, .int .i64 (iquo .i64 (wr .i64 ((wr .i64 ((x0.length : Int) + 244)) - 1)) 244)), (8, .int .i64 (imx 1 (iquo .i64 (wr .i64 ((wr .i64 ((x0.length : Int) + 244)) - 1)) 244)))] [.code (sub [1, 1] B43)] (by kernel_rfl) ?_
  obtain rfl := Option.some.inj h
  exact Goes.ret (fn := Try.f43) (by kernel_rfl) (v := .int .i64 (imx 1 (iquo .i64 (wr .i64 ((wr .i64 ((x0.length : Int) + 244)) - 1)) 244))) (by kernel_rfl) ⟨S0, rfl, (Ext.refl S0 w0), p0⟩

/-! tidepole/frame.Need -/
def Post.frame_Need (nz : Nat) (wz : World) (S0 : Fz) (w0 : World) (Lr : List Ent) (r : Int × Int) (v : Value) (w' : World) : Prop :=
  ∃ (S' : Fz), v = .tuple #[.int .i64 r.1, .int .i64 r.2] ∧ Ext S0 w0 S' w' ∧ Hp nz wz S' w' (Lr)

def L.frame_Need_l0 (nz : Nat) (wz : World) (S0 : Fz) (w0 : World) (Lr : List Ent) : Int × (List (List Int)) × Int × Int → (Int × Int) → Prop := fun ⟨x4, x10, x11, x12⟩ r => ∀ S1 w1, Ext S0 w0 S1 w1 → ∀ (Ax10 : Option Addr) (nx10 : Nat) (cx10 : Nat) (_ : Hp nz wz S1 w1 (Lr)) (_ : Rd (kSl (kInt .u8)) S1 w1 Ax10 cx10 x10) (_ : x10.length = nx10) (junk : Nat → Value),
  Goes Try.prog (base 31) [.code (sub [1, 1, 1, 0, 1, 0, 0] B31), .inLoop (sub [1, 1, 1, 0, 1, 0, 0] B31), .inBlock 0, .code (sub [1, 1, 1, 1] B31)] ⟨lfr 25 [(4, .int .i64 x4), (10, .slice Ax10 nx10 cx10), (11, .int .i64 x11), (12, .int .i64 x12)] junk, []⟩ w1 (Done Try.prog 31 (Rets (Post.frame_Need nz wz S0 w0 Lr r)))

theorem W.frame_Need_l0 (nz : Nat) (wz : World) (S0 : Fz) (w0 : World) (Lr : List Ent) : ∀ a r, M.frame_Need_l0 a = some r → (L.frame_Need_l0 nz wz S0 w0 Lr) a r := by
  refine M.frame_Need_l0.partial_correctness (motive := (L.frame_Need_l0 nz wz S0 w0 Lr)) ?_
  intro rec_frame_Need_l0 ih_frame_Need_l0 ⟨x4, x10, x11, x12⟩ r h S1 w1 hx Ax10 nx10 cx10 p1 fx10 lx10 junk
  dsimp only at h
  subst lx10
  refine Goes.runs 5 [(13, .bool (decide (x12 < x11)))] [.code (sub [1, 1, 1, 0, 1, 0, 0, 1, 0] B31), .code (sub [1, 1, 1, 0, 1, 0, 0, 1, 1] B31), .inLoop (sub [1, 1, 1, 0, 1, 0, 0] B31), .inBlock 0, .code (sub [1, 1, 1, 1] B31)] (by kernel_rfl) ?_
  refine ite_some h (fun h2 h => ?_) (fun h2 h => ?_)
  · rw [decide_eq_true h2]
    refine Goes.runs 6 [] [.inRegion (opsOf (sub [1, 1, 1, 0, 1, 0, 0, 1, 1, 0, 0, 0] B31)) [0, 1, 2], .code (sub [1, 1, 1, 0, 1, 0, 0, 1, 1, 0, 0, 1] B31), .inBlock 1, .code (sub [1, 1, 1, 0, 1, 0, 0, 1, 1, 1] B31), .inLoop (sub [1, 1, 1, 0, 1, 0, 0] B31), .inBlock 0, .code (sub [1, 1, 1, 1] B31)] (by kernel_rfl) ?_
    refine guard_some' h fun g3 h => ?_
    refine guard_some' h fun g4 h => ?_
    refine Op_.ixR_n 41 (.tmp 10) (.tmp 12) 14 0 23 .i64 x12 (gi x10 x12) rfl rfl fx10 (Goes.vs (by kernel_rfl)) (by kernel_rfl) (by kernel_rfl) (by kernel_rfl) (by kernel_rfl) g3 g4 ?_
    intro a5 _ f6 q7
    obtain ⟨A8, c9, rfl, f10⟩ := q7
    refine Op_.ld1 23 (.tmp 14) 15 23 a5 (.slice A8 ((gi x10 x12).length) c9) (Goes.vs (by kernel_rfl)) (by kernel_rfl) (by kernel_rfl) (f6.cell 0 _ rfl) ?_
    refine Goes.runs 9 [(6, .slice A8 ((gi x10 x12).length) c9), (16, .slice A8 ((gi x10 x12).length) c9), (17, .int .i64 ((gi x10 x12).length : Int)), (18, .bool (decide (((gi x10 x12).length : Int) > 65536)))] [.code (sub [1, 1, 1, 0, 1, 0, 0, 1, 1, 0, 0, 1, 0, 1] B31), .code (sub [1, 1, 1, 0, 1, 0, 0, 1, 1, 0, 0, 1, 1] B31), .inBlock 1, .code (sub [1, 1, 1, 0, 1, 0, 0, 1, 1, 1] B31), .inLoop (sub [1, 1, 1, 0, 1, 0, 0] B31), .inBlock 0, .code (sub [1, 1, 1, 1] B31)] (by kernel_rfl) ?_
    refine ite_some h (fun h11 h => ?_) (fun h11 h => ?_)
    · rw [decide_eq_true h11]
      refine Goes.runs 6 [(2, .int .i64 0), (3, .int .i64 3)] [.code (sub [1, 1, 1, 0, 1, 0, 0, 1, 1, 0, 0, 1, 0, 1, 0, 1] B31), .code (sub [1, 1, 1, 0, 1, 0, 0, 1, 1, 0, 0, 1, 1] B31), .inBlock 1, .code (sub [1, 1, 1, 0, 1, 0, 0, 1, 1, 1] B31), .inLoop (sub [1, 1, 1, 0, 1, 0, 0] B31), .inBlock 0, .code (sub [1, 1, 1, 1] B31)] (by kernel_rfl) ?_
      obtain rfl := Option.some.inj h
      exact Goes.ret (fn := Try.f31) (by kernel_rfl) (v := .tuple #[.int .i64 0, .int .i64 3]) (by kernel_rfl) ⟨S1, rfl, hx, p1⟩
    · rw [decide_eq_false h11]
      refine Goes.runs 5 [(19, .int .i64 x4), (20, .slice A8 ((gi x10 x12).length) c9)] [.inRegion (opsOf (sub [1, 1, 1, 0, 1, 0, 0, 1, 1, 0, 0, 1, 1] B31)) [2, 3, 4], .inBlock 1, .code (sub [1, 1, 1, 0, 1, 0, 0, 1, 1, 1] B31), .inLoop (sub [1, 1, 1, 0, 1, 0, 0] B31), .inBlock 0, .code (sub [1, 1, 1, 1] B31)] (by kernel_rfl) ?_
      refine bind_some' h fun y12 e13 h => ?_
      refine Op_.call (.call { callee := .value (.func 43), args := #[(.tmp 20)], argTypes := #[23] }) 21 3 43 #[.slice A8 ((gi x10 x12).length) c9] (Goes.cs (by kernel_rfl)) (by kernel_rfl) (W.frame_need_byte (gi x10 x12) y12 e13 nz wz S1 w1 (Lr) A8 ((gi x10 x12).length) c9 p1 f10 rfl) ?_
      rintro _ w2 ⟨S2, rfl, z2, p2⟩
      refine Goes.runs 9 [(22, .int .i64 (wr .i64 (x4 + y12))), (4, .int .i64 (wr .i64 (x4 + y12))), (23, .int .i64 (wr .i64 (x12 + 1))), (12, .int .i64 (wr .i64 (x12 + 1)))] [.code (sub [1, 1, 1, 0, 1, 0, 0] B31), .inLoop (sub [1, 1, 1, 0, 1, 0, 0] B31), .inBlock 0, .code (sub [1, 1, 1, 1] B31)] (by kernel_rfl) ?_
      exact Goes.jump 25 [(4, .int .i64 (wr .i64 (x4 + y12))), (10, .slice Ax10 x10.length cx10), (11, .int .i64 x11), (12, .int .i64 (wr .i64 (x12 + 1)))] (by kernel_rfl) (ih_frame_Need_l0 _ _ h _ _ (hx.trans z2) Ax10 x10.length cx10 p2 (fx10.ext z2) rfl)
  · rw [decide_eq_false h2]
    refine Goes.runs 8 [(24, .int .i64 x4), (2, .int .i64 x4), (3, .int .i64 0)] [.code (sub [1, 1, 1, 1, 1] B31)] (by kernel_rfl) ?_
    obtain rfl := Option.some.inj h
    exact Goes.ret (fn := Try.f31) (by kernel_rfl) (v := .tuple #[.int .i64 x4, .int .i64 0]) (by kernel_rfl) ⟨S1, rfl, hx, p1⟩

/-! tidepole/frame.Need -/
theorem W.frame_Need (x0 : List (List Int)) (r : Int × Int) (h : M.frame_Need x0 = some r) (nz : Nat) (wz : World) (S0 : Fz) (w0 : World) (Lr : List Ent) (Ax0 : Option Addr) (nx0 : Nat) (cx0 : Nat) (p0 : Hp nz wz S0 w0 (Lr)) (fx0 : Rd (kSl (kInt .u8)) S0 w0 Ax0 cx0 x0) (lx0 : x0.length = nx0) :
    Calls Try.prog 31 #[.slice Ax0 nx0 cx0] w0 (Rets (Post.frame_Need nz wz S0 w0 Lr r)) := by
  subst lx0
  refine calls_of_goes (fn := Try.f31) (c := B31) (by kernel_rfl) (by kernel_rfl) 24 (by kernel_rfl) ?_
  refine Goes.jump 25 [(0, .slice Ax0 x0.length cx0)] (by kernel_rfl) (fun junk => ?_)
  delta M.frame_Need at h
  refine Goes.runs 12 [(2, .int .i64 0), (3, .int .i64 0), (7, .slice Ax0 x0.length cx0), (8, .int .i64 (x0.length : Int)), (9, .bool (decide ((x0.length : Int) > 4096)))] [.code (sub [1, 0, 1] B31), .code (sub [1, 1] B31)] (by kernel_rfl) ?_
  refine ite_some h (fun h1 h => ?_) (fun h1 h => ?_)
  · rw [decide_eq_true h1]
    refine Goes.runs 6 [(2, .int .i64 0), (3, .int .i64 3)] [.code (sub [1, 0, 1, 0, 1] B31), .code (sub [1, 1] B31)] (by kernel_rfl) ?_
    obtain rfl := Option.some.inj h
    exact Goes.ret (fn := Try.f31) (by kernel_rfl) (v := .tuple #[.int .i64 0, .int .i64 3]) (by kernel_rfl) ⟨S0, rfl, (Ext.refl S0 w0), p0⟩
  · rw [decide_eq_false h1]
    refine Goes.runs 14 [(4, .int .i64 0), (10, .slice Ax0 x0.length cx0), (11, .int .i64 (x0.length : Int)), (12, .int .i64 0)] [.code (sub [1, 1, 1, 0, 1, 0] B31), .inBlock 0, .code (sub [1, 1, 1, 1] B31)] (by kernel_rfl) ?_
    refine Goes.runs 1 [] [.code (sub [1, 1, 1, 0, 1, 0, 0] B31), .inLoop (sub [1, 1, 1, 0, 1, 0, 0] B31), .inBlock 0, .code (sub [1, 1, 1, 1] B31)] (by kernel_rfl) ?_
    exact Goes.jump 25 [(4, .int .i64 0), (10, .slice Ax0 x0.length cx0), (11, .int .i64 (x0.length : Int)), (12, .int .i64 0)] (by kernel_rfl) (W.frame_Need_l0 nz wz S0 w0 Lr _ _ h _ _ (Ext.refl S0 w0) Ax0 x0.length cx0 p0 fx0 rfl)

/-! tidepole/frame.pieces -/
def Post.frame_pieces (nz : Nat) (wz : World) (S0 : Fz) (w0 : World) (Lr : List Ent) (r : List Int) (v : Value) (w' : World) : Prop :=
  ∃ (S' : Fz) (gqb0 : Nat) (Aqb0v_0 : Option Addr) (nqb0v_0 : Nat) (cqb0v_0 : Nat), v = .func (.func 46) #[] #[.pointer (some ⟨gqb0, 0, none⟩)] ∧ Ext S0 w0 S' w' ∧ Hp nz wz S' w' ((some gqb0, .row 23 [.slice Aqb0v_0 nqb0v_0 cqb0v_0] 1 0) :: Lr) ∧ Rd (kInt .u8) S' w' Aqb0v_0 cqb0v_0 r ∧ r.length = nqb0v_0

theorem W.frame_pieces (x0 : List Int) (r : List Int) (h : M.frame_pieces x0 = some r) (nz : Nat) (wz : World) (S0 : Fz) (w0 : World) (Lr : List Ent) (Ax0 : Option Addr) (nx0 : Nat) (cx0 : Nat) (p0 : Hp nz wz S0 w0 (Lr)) (fx0 : Rd (kInt .u8) S0 w0 Ax0 cx0 x0) (lx0 : x0.length = nx0) :
    Calls Try.prog 40 #[.slice Ax0 nx0 cx0] w0 (Rets (Post.frame_pieces nz wz S0 w0 Lr r)) := by
  subst lx0
  refine calls_of_goes (fn := Try.f40) (c := B40) (by kernel_rfl) (by kernel_rfl) 3 (by kernel_rfl) ?_
  refine Goes.jump 4 [(0, .slice Ax0 x0.length cx0)] (by kernel_rfl) (fun junk => ?_)
  delta M.frame_pieces at h
  refine Goes.runs 2 [] [.inRegion (opsOf (sub [0] B40)) [0, 1], .code (sub [1] B40)] (by kernel_rfl) ?_
  refine Op_.box 23 (.tmp 0) 1 0 (.slice Ax0 x0.length cx0) [.slice Ax0 x0.length cx0] p0 (Goes.vs (by kernel_rfl)) (by kernel_rfl) (by kernel_rfl) ?_
  intro b1 w2 z2 p2
  refine Goes.runs 7 [(2, .func (.func 46) #[] #[.pointer (some ⟨b1, 0, none⟩)]), (3, .func (.func 46) #[] #[.pointer (some ⟨b1, 0, none⟩)])] [.code (sub [1, 1] B40)] (by kernel_rfl) ?_
  obtain rfl := Option.some.inj h
  exact Goes.ret (fn := Try.f40) (by kernel_rfl) (v := .func (.func 46) #[] #[.pointer (some ⟨b1, 0, none⟩)]) (by kernel_rfl) ⟨S0, b1, Ax0, x0.length, cx0, rfl, ((Ext.refl S0 w0).trans z2), p2, (fx0.ext z2), rfl⟩

/-! tidepole/crc.bits -/
def Post.crc_bits (nz : Nat) (wz : World) (S0 : Fz) (w0 : World) (Lr : List Ent) (r : Int) (v : Value) (w' : World) : Prop :=
  ∃ (S' : Fz) (gqb0 : Nat), v = .func (.func 49) #[] #[.pointer (some ⟨gqb0, 0, none⟩)] ∧ Ext S0 w0 S' w' ∧ Hp nz wz S' w' ((some gqb0, .row 22 [.int .u32 r] 1 0) :: Lr)

theorem W.crc_bits (x0 : Int) (r : Int) (h : M.crc_bits x0 = some r) (nz : Nat) (wz : World) (S0 : Fz) (w0 : World) (Lr : List Ent) (p0 : Hp nz wz S0 w0 (Lr)) :
    Calls Try.prog 45 #[.int .u32 x0] w0 (Rets (Post.crc_bits nz wz S0 w0 Lr r)) := by
  refine calls_of_goes (fn := Try.f45) (c := B45) (by kernel_rfl) (by kernel_rfl) 3 (by kernel_rfl) ?_
  refine Goes.jump 4 [(0, .int .u32 x0)] (by kernel_rfl) (fun junk => ?_)
  delta M.crc_bits at h
  refine Goes.runs 2 [] [.inRegion (opsOf (sub [0] B45)) [0, 1], .code (sub [1] B45)] (by kernel_rfl) ?_
  refine Op_.box 22 (.tmp 0) 1 0 (.int .u32 x0) [.int .u32 x0] p0 (Goes.vs (by kernel_rfl)) (by kernel_rfl) (by kernel_rfl) ?_
  intro b1 w2 z2 p2
  refine Goes.runs 7 [(2, .func (.func 49) #[] #[.pointer (some ⟨b1, 0, none⟩)]), (3, .func (.func 49) #[] #[.pointer (some ⟨b1, 0, none⟩)])] [.code (sub [1, 1] B45)] (by kernel_rfl) ?_
  obtain rfl := Option.some.inj h
  exact Goes.ret (fn := Try.f45) (by kernel_rfl) (v := .func (.func 49) #[] #[.pointer (some ⟨b1, 0, none⟩)]) (by kernel_rfl) ⟨S0, b1, rfl, ((Ext.refl S0 w0).trans z2), p2⟩

/-! tidepole/crc.step -/
def Post.crc_step_r (nz : Nat) (wz : World) (S0 : Fz) (w0 : World) (Lr : List Ent) (lk : Nat) (rk : Nat) (jkk : Nat → Value) (gkq1 : Nat) (gkq5b0 : Nat) (r : Int × Int) (v : Value) (w' : World) : Prop :=
  ∃ (S' : Fz), v = .bool true ∧ Ext S0 w0 S' w' ∧ Hp nz wz S' w' ((some lk, .obj (lpst 38 (lfr 9 [(1, .pointer (some ⟨gkq1, 0, none⟩)), (5, .func (.func 49) #[] #[.pointer (some ⟨gkq5b0, 0, none⟩)])] jkk) #[6] (rfAssign (sub [1, 0, 1, 0] B38)) (rfBody (sub [1, 0, 1, 0] B38)) rk .ready none)) :: (some gkq1, .row 22 [.int .u32 r.1] 1 0) :: (some gkq5b0, .row 22 [.int .u32 r.2] 1 0) :: Lr)

theorem W.crc_step_r (kq1v_0 : Int) (kq5b0v_0 : Int) (a0 : Int) (r : Int × Int) (h : M.crc_step_r kq1v_0 kq5b0v_0 a0 = some r) (nz : Nat) (wz : World) (S0 : Fz) (w0 : World) (Lr : List Ent) (lk : Nat) (rk : Nat) (jkk : Nat → Value) (gkq1 : Nat) (gkq5b0 : Nat) (p0 : Hp nz wz S0 w0 ((some lk, .obj (lpst 38 (lfr 9 [(1, .pointer (some ⟨gkq1, 0, none⟩)), (5, .func (.func 49) #[] #[.pointer (some ⟨gkq5b0, 0, none⟩)])] jkk) #[6] (rfAssign (sub [1, 0, 1, 0] B38)) (rfBody (sub [1, 0, 1, 0] B38)) rk .ready none)) :: (some gkq1, .row 22 [.int .u32 kq1v_0] 1 0) :: (some gkq5b0, .row 22 [.int .u32 kq5b0v_0] 1 0) :: Lr)) :
    Goes Try.prog (rbase 38 lk) [.code (rfAssign (sub [1, 0, 1, 0] B38)), .beginRound, .code (rfBody (sub [1, 0, 1, 0] B38))] ⟨setp (lfr 9 [(1, .pointer (some ⟨gkq1, 0, none⟩)), (5, .func (.func 49) #[] #[.pointer (some ⟨gkq5b0, 0, none⟩)])] jkk) #[6] #[.int .u32 a0], []⟩ w0 (DoneR (Post.crc_step_r nz wz S0 w0 Lr lk rk jkk gkq1 gkq5b0 r)) := by
  refine Goes.jump 9 [(1, .pointer (some ⟨gkq1, 0, none⟩)), (5, .func (.func 49) #[] #[.pointer (some ⟨gkq5b0, 0, none⟩)]), (6, .int .u32 a0)] (by kernel_rfl) (fun junk => ?_)
  delta M.crc_step_r at h
  refine Goes.runs 3 [(3, .int .u32 a0)] [.beginRound, .code (sub [1, 0, 1, 0, 1] B38)] (by kernel_rfl) ?_
  refine Goes.beginR 0 rfl p0 rfl ?_
  intro w2 z2 p2
  refine Goes.runs 3 [(7, .int .u32 a0)] [.inRegion (opsOf (sub [1, 0, 1, 0, 1, 0] B38)) [1], .inBlock 1] (by kernel_rfl) ?_
  refine Op_.st 22 (.tmp 1) (.tmp 7) 0 1 gkq1 0 (.int .u32 a0) [.int .u32 a0] p2 rfl (Goes.ss (by kernel_rfl)) (by kernel_rfl) (by kernel_rfl) (by kernel_rfl) (by kernel_rfl) (Nat.zero_le _) (by simp only [List.length_cons, List.length_nil]; omega) (by simp [Value.oneCell']) ?_
  intro w3 z3 p3
  refine Goes.runs 2 [] [] (by kernel_rfl) ?_
  obtain rfl := Option.some.inj h
  refine Goes.endR 0 p3 rfl ?_
  intro w4 z4 p4
  exact ⟨S0, rfl, ((((Ext.refl S0 w0).trans z2).trans z3).trans z4), p4⟩

/-! tidepole/crc.bits$1 -/
def Post.crc_bits_1 (nz : Nat) (wz : World) (S0 : Fz) (w0 : World) (Lr : List Ent) (lx0 : Nat) (rx0 : Nat) (jkx0 : Nat → Value) (gx0q1 : Nat) (gx0q5b0 : Nat) (r : Int × Int) (v : Value) (w' : World) : Prop :=
  ∃ (S' : Fz), v = .tuple #[] ∧ Ext S0 w0 S' w' ∧ Hp nz wz S' w' ((some lx0, .obj (lpst 38 (lfr 9 [(1, .pointer (some ⟨gx0q1, 0, none⟩)), (5, .func (.func 49) #[] #[.pointer (some ⟨gx0q5b0, 0, none⟩)])] jkx0) #[6] (rfAssign (sub [1, 0, 1, 0] B38)) (rfBody (sub [1, 0, 1, 0] B38)) rx0 .ready none)) :: (some gx0q1, .row 22 [.int .u32 r.1] 1 0) :: (some gx0q5b0, .row 22 [.int .u32 r.2] 1 0) :: Lr)

def L.crc_bits_1_l0 (nz : Nat) (wz : World) (S0 : Fz) (w0 : World) (Lr : List Ent) (lx0 : Nat) (rx0 : Nat) (jkx0 : Nat → Value) (gx0q1 : Nat) (gx0q5b0 : Nat) : Int × Int × Int → (Int × Int) → Prop := fun ⟨x3, e1v_0, e2v_0⟩ r => ∀ S1 w1, Ext S0 w0 S1 w1 → ∀ (_ : Hp nz wz S1 w1 ((some lx0, .obj (lpst 38 (lfr 9 [(1, .pointer (some ⟨gx0q1, 0, none⟩)), (5, .func (.func 49) #[] #[.pointer (some ⟨gx0q5b0, 0, none⟩)])] jkx0) #[6] (rfAssign (sub [1, 0, 1, 0] B38)) (rfBody (sub [1, 0, 1, 0] B38)) rx0 .ready none)) :: (some gx0q1, .row 22 [.int .u32 e1v_0] 1 0) :: (some gx0q5b0, .row 22 [.int .u32 e2v_0] 1 0) :: Lr)) (junk : Nat → Value),
  Goes Try.prog (base 49) [.code (sub [1, 0, 0] B49), .inLoop (sub [1, 0, 0] B49), .inBlock 0] ⟨lfr 17 [(0, yieldV lx0), (1, .pointer (some ⟨gx0q5b0, 0, none⟩)), (3, .int .i64 x3)] junk, []⟩ w1 (Done Try.prog 49 (Rets (Post.crc_bits_1 nz wz S0 w0 Lr lx0 rx0 jkx0 gx0q1 gx0q5b0 r)))

theorem W.crc_bits_1_l0 (nz : Nat) (wz : World) (S0 : Fz) (w0 : World) (Lr : List Ent) (lx0 : Nat) (rx0 : Nat) (jkx0 : Nat → Value) (gx0q1 : Nat) (gx0q5b0 : Nat) : ∀ a r, M.crc_bits_1_l0 a = some r → (L.crc_bits_1_l0 nz wz S0 w0 Lr lx0 rx0 jkx0 gx0q1 gx0q5b0) a r := by
  refine M.crc_bits_1_l0.partial_correctness (motive := (L.crc_bits_1_l0 nz wz S0 w0 Lr lx0 rx0 jkx0 gx0q1 gx0q5b0)) ?_
  intro rec_crc_bits_1_l0 ih_crc_bits_1_l0 ⟨x3, e1v_0, e2v_0⟩ r h S1 w1 hx p1 junk
  dsimp only at h
  refine Goes.runs 5 [(4, .bool (decide (x3 < 8)))] [.code (sub [1, 0, 0, 1, 0] B49), .code (sub [1, 0, 0, 1, 1] B49), .inLoop (sub [1, 0, 0] B49), .inBlock 0] (by kernel_rfl) ?_
  refine ite_some h (fun h4 h => ?_) (fun h4 h => ?_)
  · rw [decide_eq_true h4]
    refine Goes.runs 6 [] [.inRegion (opsOf (sub [1, 0, 0, 1, 1, 0, 0, 0] B49)) [0, 1, 2, 3, 4, 5, 6, 7], .code (sub [1, 0, 0, 1, 1, 0, 0, 1] B49), .inBlock 1, .code (sub [1, 0, 0, 1, 1, 1] B49), .inLoop (sub [1, 0, 0] B49), .inBlock 0] (by kernel_rfl) ?_
    refine Op_.ld1 22 (.tmp 1) 5 22 ⟨gx0q5b0, 0, none⟩ (.int .u32 e2v_0) (Goes.vs (by kernel_rfl)) (by kernel_rfl) (by kernel_rfl) ((p1.mem 2 rfl).cell 0 _ rfl) ?_
    refine Goes.runs 1 [(6, .int .u32 (ishr .u32 e2v_0 1))] [.inRegion (opsOf (sub [1, 0, 0, 1, 1, 0, 0, 0] B49)) [2, 3, 4, 5, 6, 7], .code (sub [1, 0, 0, 1, 1, 0, 0, 1] B49), .inBlock 1, .code (sub [1, 0, 0, 1, 1, 1] B49), .inLoop (sub [1, 0, 0] B49), .inBlock 0] (by kernel_rfl) ?_
    refine Op_.ld1 22 (.tmp 1) 7 22 ⟨gx0q5b0, 0, none⟩ (.int .u32 e2v_0) (Goes.vs (by kernel_rfl)) (by kernel_rfl) (by kernel_rfl) ((p1.mem 2 rfl).cell 0 _ rfl) ?_
    refine Goes.runs 4 [(8, .int .u32 (iand .u32 e2v_0 1)), (9, .int .u32 (wr .u32 (0 - (iand .u32 e2v_0 1)))), (10, .int .u32 (iand .u32 (wr .u32 (0 - (iand .u32 e2v_0 1))) 2197175160)), (11, .int .u32 (ixor .u32 (ishr .u32 e2v_0 1) (iand .u32 (wr .u32 (0 - (iand .u32 e2v_0 1))) 2197175160)))] [.inRegion (opsOf (sub [1, 0, 0, 1, 1, 0, 0, 0] B49)) [7], .code (sub [1, 0, 0, 1, 1, 0, 0, 1] B49), .inBlock 1, .code (sub [1, 0, 0, 1, 1, 1] B49), .inLoop (sub [1, 0, 0] B49), .inBlock 0] (by kernel_rfl) ?_
    refine Op_.st 22 (.tmp 1) (.tmp 11) 0 2 gx0q5b0 0 (.int .u32 (ixor .u32 (ishr .u32 e2v_0 1) (iand .u32 (wr .u32 (0 - (iand .u32 e2v_0 1))) 2197175160))) [.int .u32 (ixor .u32 (ishr .u32 e2v_0 1) (iand .u32 (wr .u32 (0 - (iand .u32 e2v_0 1))) 2197175160))] p1 rfl (Goes.ss (by kernel_rfl)) (by kernel_rfl) (by kernel_rfl) (by kernel_rfl) (by kernel_rfl) (Nat.zero_le _) (by simp only [List.length_cons, List.length_nil]; omega) (by simp [Value.oneCell']) ?_
    intro w2 z2 p2
    refine Goes.runs 4 [(12, yieldV lx0)] [.inRegion (opsOf (sub [1, 0, 0, 1, 1, 0, 0, 1, 0] B49)) [1, 2, 3], .code (sub [1, 0, 0, 1, 1, 0, 0, 1, 1] B49), .inBlock 1, .code (sub [1, 0, 0, 1, 1, 1] B49), .inLoop (sub [1, 0, 0] B49), .inBlock 0] (by kernel_rfl) ?_
    refine Op_.ld1 22 (.tmp 1) 13 22 ⟨gx0q5b0, 0, none⟩ (.int .u32 (ixor .u32 (ishr .u32 e2v_0 1) (iand .u32 (wr .u32 (0 - (iand .u32 e2v_0 1))) 2197175160))) (Goes.vs (by kernel_rfl)) (by kernel_rfl) (by kernel_rfl) ((p2.mem 2 rfl).cell 0 _ rfl) ?_
    refine bind_some' h fun y5 e6 h => ?_
    refine Goes.yieldAt (.call { callee := .value (.tmp 12), args := #[(.tmp 13)], argTypes := #[22] }) 14 4 0 lx0 #[.int .u32 (ixor .u32 (ishr .u32 e2v_0 1) (iand .u32 (wr .u32 (0 - (iand .u32 e2v_0 1))) 2197175160))] p2 rfl (by kernel_rfl) rfl (fun _ => by kernel_rfl) rfl (W.crc_step_r e1v_0 (ixor .u32 (ishr .u32 e2v_0 1) (iand .u32 (wr .u32 (0 - (iand .u32 e2v_0 1))) 2197175160)) (ixor .u32 (ishr .u32 e2v_0 1) (iand .u32 (wr .u32 (0 - (iand .u32 e2v_0 1))) 2197175160)) y5 e6 nz wz S1 w2 (Lr) lx0 rx0 jkx0 gx0q1 gx0q5b0 p2 ) ?_
    rintro _ w3 ⟨S3, rfl, z3, p3⟩
    refine Goes.runs 10 [(15, .bool (!true)), (16, .int .i64 (wr .i64 (x3 + 1))), (3, .int .i64 (wr .i64 (x3 + 1)))] [.code (sub [1, 0, 0] B49), .inLoop (sub [1, 0, 0] B49), .inBlock 0] (by kernel_rfl) ?_
    exact Goes.jump 17 [(0, yieldV lx0), (1, .pointer (some ⟨gx0q5b0, 0, none⟩)), (3, .int .i64 (wr .i64 (x3 + 1)))] (by kernel_rfl) (ih_crc_bits_1_l0 _ _ h _ _ ((hx.trans z2).trans z3) p3)
  · rw [decide_eq_false h4]
    refine Goes.runs 2 [] [] (by kernel_rfl) ?_
    obtain rfl := Option.some.inj h
    exact Goes.end_ (fn := Try.f49) (by kernel_rfl) (v := .tuple #[]) (by kernel_rfl) ⟨S1, rfl, hx, p1⟩

/-! tidepole/crc.bits$1 -/
theorem W.crc_bits_1 (x0q1v_0 : Int) (x0q5b0v_0 : Int) (r : Int × Int) (h : M.crc_bits_1 x0q1v_0 x0q5b0v_0 = some r) (nz : Nat) (wz : World) (S0 : Fz) (w0 : World) (Lr : List Ent) (lx0 : Nat) (rx0 : Nat) (jkx0 : Nat → Value) (gx0q1 : Nat) (gx0q5b0 : Nat) (p0 : Hp nz wz S0 w0 ((some lx0, .obj (lpst 38 (lfr 9 [(1, .pointer (some ⟨gx0q1, 0, none⟩)), (5, .func (.func 49) #[] #[.pointer (some ⟨gx0q5b0, 0, none⟩)])] jkx0) #[6] (rfAssign (sub [1, 0, 1, 0] B38)) (rfBody (sub [1, 0, 1, 0] B38)) rx0 .ready none)) :: (some gx0q1, .row 22 [.int .u32 x0q1v_0] 1 0) :: (some gx0q5b0, .row 22 [.int .u32 x0q5b0v_0] 1 0) :: Lr)) :
    Calls Try.prog 49 #[yieldV lx0, .pointer (some ⟨gx0q5b0, 0, none⟩)] w0 (Rets (Post.crc_bits_1 nz wz S0 w0 Lr lx0 rx0 jkx0 gx0q1 gx0q5b0 r)) := by
  refine calls_of_goes (fn := Try.f49) (c := B49) (by kernel_rfl) (by kernel_rfl) 15 (by kernel_rfl) ?_
  refine Goes.jump 17 [(0, yieldV lx0), (1, .pointer (some ⟨gx0q5b0, 0, none⟩))] (by kernel_rfl) (fun junk => ?_)
  delta M.crc_bits_1 at h
  refine Goes.runs 6 [(3, .int .i64 0)] [.code (sub [1, 0, 0] B49), .inLoop (sub [1, 0, 0] B49), .inBlock 0] (by kernel_rfl) ?_
  exact Goes.jump 17 [(0, yieldV lx0), (1, .pointer (some ⟨gx0q5b0, 0, none⟩)), (3, .int .i64 0)] (by kernel_rfl) (W.crc_bits_1_l0 nz wz S0 w0 Lr lx0 rx0 jkx0 gx0q1 gx0q5b0 _ _ h _ _ (Ext.refl S0 w0) p0)

/-! tidepole/crc.step -/
def Post.crc_step (nz : Nat) (wz : World) (S0 : Fz) (w0 : World) (Lr : List Ent) (r : Int) (v : Value) (w' : World) : Prop :=
  ∃ (S' : Fz), v = .int .u32 r ∧ Ext S0 w0 S' w' ∧ Hp nz wz S' w' (Lr)

theorem W.crc_step (x0 : Int) (r : Int) (h : M.crc_step x0 = some r) (nz : Nat) (wz : World) (S0 : Fz) (w0 : World) (Lr : List Ent) (p0 : Hp nz wz S0 w0 (Lr)) :
    Calls Try.prog 38 #[.int .u32 x0] w0 (Rets (Post.crc_step nz wz S0 w0 Lr r)) := by
  refine calls_of_goes (fn := Try.f38) (c := B38) (by kernel_rfl) (by kernel_rfl) 8 (by kernel_rfl) ?_
  refine Goes.jump 9 [(0, .int .u32 x0)] (by kernel_rfl) (fun junk => ?_)
  delta M.crc_step at h
  refine Goes.runs 2 [] [.inRegion (opsOf (sub [0] B38)) [0, 1], .code (sub [1] B38)] (by kernel_rfl) ?_
  refine Op_.box 22 (.tmp 0) 1 0 (.int .u32 x0) [.int .u32 x0] p0 (Goes.vs (by kernel_rfl)) (by kernel_rfl) (by kernel_rfl) ?_
  intro b1 w2 z2 p2
  refine Goes.runs 5 [(2, .int .u32 0)] [.inRegion (opsOf (sub [1, 0, 0] B38)) [0, 1], .code (sub [1, 0, 1] B38), .code (sub [1, 1] B38)] (by kernel_rfl) ?_
  refine Op_.ld1 22 (.tmp 1) 4 22 ⟨b1, 0, none⟩ (.int .u32 x0) (Goes.vs (by kernel_rfl)) (by kernel_rfl) (by kernel_rfl) ((p2.mem 0 rfl).cell 0 _ rfl) ?_
  refine bind_some' h fun y3 e4 h => ?_
  refine Op_.call (.call { callee := .value (.func 45), args := #[(.tmp 4)], argTypes := #[22] }) 5 75 45 #[.int .u32 x0] (Goes.cs (by kernel_rfl)) (by kernel_rfl) (W.crc_bits x0 y3 e4 nz wz S0 w2 ((some b1, .row 22 [.int .u32 x0] 1 0) :: Lr)  p2 ) ?_
  rintro _ w3 ⟨S3, gr_3b0, rfl, z3, p3⟩
  refine Goes.runs 2 [] [.code (sub [1, 0, 1, 0] B38), .inBlock 0, .code (sub [1, 1] B38)] (by kernel_rfl) ?_
  refine Goes.jump 9 [(1, .pointer (some ⟨b1, 0, none⟩)), (5, .func (.func 49) #[] #[.pointer (some ⟨gr_3b0, 0, none⟩)])] (by kernel_rfl) (fun junk6 => ?_)
  refine Goes.rangeF (f := 38) (.tmp 5) #[6] 49 #[] #[.pointer (some ⟨gr_3b0, 0, none⟩)] (by kernel_rfl) (by kernel_rfl) (fun _ => by kernel_rfl) p3 ?_
  intro r7 l8 w4 z4 p4
  have p4 := p4.front 2 _ rfl
  have p4 := p4.front 3 _ rfl
  have p4 := p4.front 2 _ rfl
  refine bind_some' h fun y11 e12 h => ?_
  refine ⟨_, W.crc_bits_1 x0 y3 y11 e12 nz wz S3 w4 ((some r7, .obj (.deferred (some []))) :: Lr) l8 r7 junk6 b1 gr_3b0 p4 , ?_⟩
  rintro _ w5 ⟨S5, rfl, z5, p5⟩
  refine Goes.endF 0 p5 rfl rfl ?_
  intro w6 z6 p6
  replace p6 : Hp nz wz S5 w6 ((some b1, .row 22 [.int .u32 y11.1] 1 0) :: (some gr_3b0, .row 22 [.int .u32 y11.2] 1 0) :: (some r7, .obj (.deferred (some []))) :: Lr) := (p6.front 0 _ rfl).drop
  show Goes _ _ [.inBlock 0, .code (sub [1, 1] B38)] _ _ _
  refine Goes.runs 3 [] [.inRegion (opsOf (sub [1, 1, 0] B38)) [0, 1], .code (sub [1, 1, 1] B38)] (by kernel_rfl) ?_
  refine Op_.ld1 22 (.tmp 1) 8 22 ⟨b1, 0, none⟩ (.int .u32 y11.1) (Goes.vs (by kernel_rfl)) (by kernel_rfl) (by kernel_rfl) ((p6.mem 0 rfl).cell 0 _ rfl) ?_
  refine Goes.runs 2 [(2, .int .u32 y11.1)] [.code (sub [1, 1, 1] B38)] (by kernel_rfl) ?_
  obtain rfl := Option.some.inj h
  have p6 := (p6.front 0 _ rfl).drop
  have p6 := (p6.front 0 _ rfl).drop
  refine Goes.retL ?_
  refine lvs_mark 0 rfl rfl p6 rfl ?_
  intro w7 z7 p7
  replace p7 : Hp nz wz S5 w7 (Lr) := p7.drop
  exact lvs_done (fn := Try.f38) rfl rfl rfl rfl (by kernel_rfl) (v := .int .u32 y11.1) (by kernel_rfl) ⟨S5, rfl, (((((((Ext.refl S0 w0).trans z2).trans z3).trans z4).trans z5).trans z6).trans z7), p7⟩

/-! tidepole/crc.More -/
def Post.crc_More (nz : Nat) (wz : World) (S0 : Fz) (w0 : World) (Lr : List Ent) (r : Int) (v : Value) (w' : World) : Prop :=
  ∃ (S' : Fz), v = .int .u32 r ∧ Ext S0 w0 S' w' ∧ Hp nz wz S' w' (Lr)

def L.crc_More_l0 (nz : Nat) (wz : World) (S0 : Fz) (w0 : World) (Lr : List Ent) : Int × (List Int) × Int × Int → Int → Prop := fun ⟨x5, x10, x11, x12⟩ r => ∀ S1 w1, Ext S0 w0 S1 w1 → ∀ (Ax10 : Option Addr) (nx10 : Nat) (cx10 : Nat) (_ : Hp nz wz S1 w1 (Lr)) (_ : Rd (kInt .u8) S1 w1 Ax10 cx10 x10) (_ : x10.length = nx10) (junk : Nat → Value),
  Goes Try.prog (base 15) [.code (sub [1, 1, 0, 1, 0, 0] B15), .inLoop (sub [1, 1, 0, 1, 0, 0] B15), .inBlock 0, .code (sub [1, 1, 1] B15)] ⟨lfr 24 [(5, .int .u32 x5), (10, .slice Ax10 nx10 cx10), (11, .int .i64 x11), (12, .int .i64 x12)] junk, []⟩ w1 (Done Try.prog 15 (Rets (Post.crc_More nz wz S0 w0 Lr r)))

theorem W.crc_More_l0 (nz : Nat) (wz : World) (S0 : Fz) (w0 : World) (Lr : List Ent) : ∀ a r, M.crc_More_l0 a = some r → (L.crc_More_l0 nz wz S0 w0 Lr) a r := by
  refine M.crc_More_l0.partial_correctness (motive := (L.crc_More_l0 nz wz S0 w0 Lr)) ?_
  intro rec_crc_More_l0 ih_crc_More_l0 ⟨x5, x10, x11, x12⟩ r h S1 w1 hx Ax10 nx10 cx10 p1 fx10 lx10 junk
  dsimp only at h
  subst lx10
  refine Goes.runs 5 [(13, .bool (decide (x12 < x11)))] [.code (sub [1, 1, 0, 1, 0, 0, 1, 0] B15), .code (sub [1, 1, 0, 1, 0, 0, 1, 1] B15), .inLoop (sub [1, 1, 0, 1, 0, 0] B15), .inBlock 0, .code (sub [1, 1, 1] B15)] (by kernel_rfl) ?_
  refine ite_some h (fun h1 h => ?_) (fun h1 h => ?_)
  · rw [decide_eq_true h1]
    refine Goes.runs 6 [] [.inRegion (opsOf (sub [1, 1, 0, 1, 0, 0, 1, 1, 0, 0, 0] B15)) [0, 1, 2], .code (sub [1, 1, 0, 1, 0, 0, 1, 1, 0, 0, 1] B15), .inBlock 1, .code (sub [1, 1, 0, 1, 0, 0, 1, 1, 1] B15), .inLoop (sub [1, 1, 0, 1, 0, 0] B15), .inBlock 0, .code (sub [1, 1, 1] B15)] (by kernel_rfl) ?_
    refine guard_some' h fun g2 h => ?_
    refine guard_some' h fun g3 h => ?_
    refine Op_.ixR_n 23 (.tmp 10) (.tmp 12) 14 0 5 .i64 x12 (gi x10 x12) rfl rfl fx10 (Goes.vs (by kernel_rfl)) (by kernel_rfl) (by kernel_rfl) (by kernel_rfl) (by kernel_rfl) g2 g3 ?_
    intro a4 _ f5 q6
    obtain rfl := q6
    refine Op_.ld1 5 (.tmp 14) 15 5 a4 (.int .u8 (gi x10 x12)) (Goes.vs (by kernel_rfl)) (by kernel_rfl) (by kernel_rfl) (f5.cell 0 _ rfl) ?_
    refine Goes.runs 7 [(7, .int .u8 (gi x10 x12)), (16, .int .u32 x5), (17, .int .u8 (gi x10 x12)), (18, .int .u32 (wr .u32 (gi x10 x12))), (19, .int .u32 (ixor .u32 x5 (wr .u32 (gi x10 x12))))] [.inRegion (opsOf (sub [1, 1, 0, 1, 0, 0, 1, 1, 0, 0, 1] B15)) [4, 5], .inBlock 1, .code (sub [1, 1, 0, 1, 0, 0, 1, 1, 1] B15), .inLoop (sub [1, 1, 0, 1, 0, 0] B15), .inBlock 0, .code (sub [1, 1, 1] B15)] (by kernel_rfl) ?_
    refine bind_some' h fun y7 e8 h => ?_
    refine Op_.call (.call { callee := .value (.func 38), args := #[(.tmp 19)], argTypes := #[22] }) 20 22 38 #[.int .u32 (ixor .u32 x5 (wr .u32 (gi x10 x12)))] (Goes.cs (by kernel_rfl)) (by kernel_rfl) (W.crc_step (ixor .u32 x5 (wr .u32 (gi x10 x12))) y7 e8 nz wz S1 w1 (Lr)  p1 ) ?_
    rintro _ w2 ⟨S2, rfl, z2, p2⟩
    refine Goes.runs 8 [(5, .int .u32 y7), (21, .int .i64 (wr .i64 (x12 + 1))), (12, .int .i64 (wr .i64 (x12 + 1)))] [.code (sub [1, 1, 0, 1, 0, 0] B15), .inLoop (sub [1, 1, 0, 1, 0, 0] B15), .inBlock 0, .code (sub [1, 1, 1] B15)] (by kernel_rfl) ?_
    exact Goes.jump 24 [(5, .int .u32 y7), (10, .slice Ax10 x10.length cx10), (11, .int .i64 x11), (12, .int .i64 (wr .i64 (x12 + 1)))] (by kernel_rfl) (ih_crc_More_l0 _ _ h _ _ (hx.trans z2) Ax10 x10.length cx10 p2 (fx10.ext z2) rfl)
  · rw [decide_eq_false h1]
    refine Goes.runs 8 [(22, .int .u32 x5), (23, .int .u32 (ixor .u32 4294967295 x5)), (4, .int .u32 (ixor .u32 4294967295 x5))] [.code (sub [1, 1, 1, 1] B15)] (by kernel_rfl) ?_
    obtain rfl := Option.some.inj h
    exact Goes.ret (fn := Try.f15) (by kernel_rfl) (v := .int .u32 (ixor .u32 4294967295 x5)) (by kernel_rfl) ⟨S1, rfl, hx, p1⟩

/-! tidepole/crc.More -/
theorem W.crc_More (x0 : Int) (x1 : List Int) (r : Int) (h : M.crc_More x0 x1 = some r) (nz : Nat) (wz : World) (S0 : Fz) (w0 : World) (Lr : List Ent) (Ax1 : Option Addr) (nx1 : Nat) (cx1 : Nat) (p0 : Hp nz wz S0 w0 (Lr)) (fx1 : Rd (kInt .u8) S0 w0 Ax1 cx1 x1) (lx1 : x1.length = nx1) :
    Calls Try.prog 15 #[.int .u32 x0, .slice Ax1 nx1 cx1] w0 (Rets (Post.crc_More nz wz S0 w0 Lr r)) := by
  subst lx1
  refine calls_of_goes (fn := Try.f15) (c := B15) (by kernel_rfl) (by kernel_rfl) 22 (by kernel_rfl) ?_
  refine Goes.jump 24 [(0, .int .u32 x0), (1, .slice Ax1 x1.length cx1)] (by kernel_rfl) (fun junk => ?_)
  delta M.crc_More at h
  refine Goes.runs 14 [(4, .int .u32 0), (8, .int .u32 x0), (9, .int .u32 (ixor .u32 4294967295 x0)), (5, .int .u32 (ixor .u32 4294967295 x0)), (10, .slice Ax1 x1.length cx1)] [.inRegion (opsOf (sub [1, 1, 0, 0] B15)) [1, 2], .code (sub [1, 1, 0, 1] B15), .code (sub [1, 1, 1] B15)] (by kernel_rfl) ?_
  refine Goes.runs 5 [(11, .int .i64 (x1.length : Int)), (12, .int .i64 0)] [.code (sub [1, 1, 0, 1, 0, 0] B15), .inLoop (sub [1, 1, 0, 1, 0, 0] B15), .inBlock 0, .code (sub [1, 1, 1] B15)] (by kernel_rfl) ?_
  exact Goes.jump 24 [(5, .int .u32 (ixor .u32 4294967295 x0)), (10, .slice Ax1 x1.length cx1), (11, .int .i64 (x1.length : Int)), (12, .int .i64 0)] (by kernel_rfl) (W.crc_More_l0 nz wz S0 w0 Lr _ _ h _ _ (Ext.refl S0 w0) Ax1 x1.length cx1 p0 fx1 rfl)

/-! tidepole/crc.Sum -/
def Post.crc_Sum (nz : Nat) (wz : World) (S0 : Fz) (w0 : World) (Lr : List Ent) (r : Int) (v : Value) (w' : World) : Prop :=
  ∃ (S' : Fz), v = .int .u32 r ∧ Ext S0 w0 S' w' ∧ Hp nz wz S' w' (Lr)

theorem W.crc_Sum (x0 : List Int) (r : Int) (h : M.crc_Sum x0 = some r) (nz : Nat) (wz : World) (S0 : Fz) (w0 : World) (Lr : List Ent) (Ax0 : Option Addr) (nx0 : Nat) (cx0 : Nat) (p0 : Hp nz wz S0 w0 (Lr)) (fx0 : Rd (kInt .u8) S0 w0 Ax0 cx0 x0) (lx0 : x0.length = nx0) :
    Calls Try.prog 13 #[.slice Ax0 nx0 cx0] w0 (Rets (Post.crc_Sum nz wz S0 w0 Lr r)) := by
  subst lx0
  refine calls_of_goes (fn := Try.f13) (c := B13) (by kernel_rfl) (by kernel_rfl) 4 (by kernel_rfl) ?_
  refine Goes.jump 5 [(0, .slice Ax0 x0.length cx0)] (by kernel_rfl) (fun junk => ?_)
  delta M.crc_Sum at h
  refine Goes.runs 7 [(2, .int .u32 0), (3, .slice Ax0 x0.length cx0)] [.inRegion (opsOf (sub [1, 0] B13)) [1, 2], .code (sub [1, 1] B13)] (by kernel_rfl) ?_
  refine bind_some' h fun y1 e2 h => ?_
  refine Op_.call (.call { callee := .value (.func 15), args := #[(.const (.int .u32 0)), (.tmp 3)], argTypes := #[22, 23] }) 4 22 15 #[.int .u32 0, .slice Ax0 x0.length cx0] (Goes.cs (by kernel_rfl)) (by kernel_rfl) (W.crc_More 0 x0 y1 e2 nz wz S0 w0 (Lr) Ax0 x0.length cx0 p0 fx0 rfl) ?_
  rintro _ w2 ⟨S2, rfl, z2, p2⟩
  refine Goes.runs 2 [(2, .int .u32 y1)] [.code (sub [1, 1] B13)] (by kernel_rfl) ?_
  obtain rfl := Option.some.inj h
  exact Goes.ret (fn := Try.f13) (by kernel_rfl) (v := .int .u32 y1) (by kernel_rfl) ⟨S2, rfl, ((Ext.refl S0 w0).trans z2), p2⟩

/-! tidepole/crc.Put -/
def Post.crc_Put (nz : Nat) (wz : World) (S0 : Fz) (w0 : World) (Lr : List Ent) (r : List Int) (v : Value) (w' : World) : Prop :=
  ∃ (S' : Fz) (Gq : Option Nat) (nq : Nat) (cq : Nat) (csq : List Value), v = .slice (Gp Gq) nq cq ∧ Ext S0 w0 S' w' ∧ Hp nz wz S' w' ((Gq, .row 5 csq (cq * (kInt .u8).size) 0) :: Lr) ∧ Els (kInt .u8) S' w' csq r ∧ r.length = nq

def L.crc_Put_l0 (nz : Nat) (wz : World) (S0 : Fz) (w0 : World) (Lr : List Ent) : Int × (List Int) × Int → (List Int) → Prop := fun ⟨x1, x5, x13⟩ r => ∀ S1 w1, Ext S0 w0 S1 w1 → ∀ (Gx5 : Option Nat) (nx5 : Nat) (cx5 : Nat) (csx5 : List Value) (_ : Hp nz wz S1 w1 ((Gx5, .row 5 csx5 (cx5 * (kInt .u8).size) 0) :: Lr)) (_ : Els (kInt .u8) S1 w1 csx5 x5) (_ : x5.length = nx5) (junk : Nat → Value),
  Goes Try.prog (base 23) [.code (sub [1, 1, 0, 1, 0, 0] B23), .inLoop (sub [1, 1, 0, 1, 0, 0] B23), .inBlock 0, .code (sub [1, 1, 1] B23)] ⟨lfr 26 [(1, .int .u32 x1), (5, .slice (Gp Gx5) nx5 cx5), (13, .int .i64 x13)] junk, []⟩ w1 (Done Try.prog 23 (Rets (Post.crc_Put nz wz S0 w0 Lr r)))

theorem W.crc_Put_l0 (nz : Nat) (wz : World) (S0 : Fz) (w0 : World) (Lr : List Ent) : ∀ a r, M.crc_Put_l0 a = some r → (L.crc_Put_l0 nz wz S0 w0 Lr) a r := by
  refine M.crc_Put_l0.partial_correctness (motive := (L.crc_Put_l0 nz wz S0 w0 Lr)) ?_
  intro rec_crc_Put_l0 ih_crc_Put_l0 ⟨x1, x5, x13⟩ r h S1 w1 hx Gx5 nx5 cx5 csx5 p1 fx5 lx5 junk
  dsimp only at h
  subst lx5
  refine Goes.runs 5 [(14, .bool (decide (x13 < 4)))] [.code (sub [1, 1, 0, 1, 0, 0, 1, 0] B23), .code (sub [1, 1, 0, 1, 0, 0, 1, 1] B23), .inLoop (sub [1, 1, 0, 1, 0, 0] B23), .inBlock 0, .code (sub [1, 1, 1] B23)] (by kernel_rfl) ?_
  refine ite_some h (fun h16 h => ?_) (fun h16 h => ?_)
  · rw [decide_eq_true h16]
    refine Goes.runs 14 [(15, .int .i64 x13), (6, .int .i64 x13), (16, .slice (Gp Gx5) x5.length cx5), (17, .int .u32 x1), (18, .int .i64 x13), (19, .int .i64 (wr .i64 (8 * x13)))] [.inRegion (opsOf (sub [1, 1, 0, 1, 0, 0, 1, 1, 0, 0, 1] B23)) [4, 5, 6, 7, 8], .inBlock 1, .code (sub [1, 1, 0, 1, 0, 0, 1, 1, 1] B23), .inLoop (sub [1, 1, 0, 1, 0, 0] B23), .inBlock 0, .code (sub [1, 1, 1] B23)] (by kernel_rfl) ?_
    refine guard_some' h fun g17 h => ?_
    refine Op_.binshr 22 (.tmp 17) (.tmp 19) 3 20 22 .u32 .i64 x1 (wr .i64 (8 * x13)) (Goes.vs (by kernel_rfl)) (by kernel_rfl) (by kernel_rfl) g17 ?_
    refine Goes.runs 1 [(21, .int .u8 (wr .u8 (ishr .u32 x1 (wr .i64 (8 * x13)))))] [.inRegion (opsOf (sub [1, 1, 0, 1, 0, 0, 1, 1, 0, 0, 1] B23)) [6, 7, 8], .inBlock 1, .code (sub [1, 1, 0, 1, 0, 0, 1, 1, 1] B23), .inLoop (sub [1, 1, 0, 1, 0, 0] B23), .inBlock 0, .code (sub [1, 1, 1] B23)] (by kernel_rfl) ?_
    have f19 : Els (kInt .u8) S1 w1 ([.int .u8 (wr .u8 (ishr .u32 x1 (wr .i64 (8 * x13))))] : List Value) [wr .u8 (ishr .u32 x1 (wr .i64 (8 * x13)))] := by exact (Els.cons (K := (kInt .u8)) (vs := [.int .u8 (wr .u8 (ishr .u32 x1 (wr .i64 (8 * x13))))]) (x := wr .u8 (ishr .u32 x1 (wr .i64 (8 * x13)))) rfl Els.nil)
    refine Op_.made (.buildSlice 23 1 #[(0, (.tmp 21))]) 22 23 (fun b => .slice (Gp (some b)) 1 1) 5 ([.int .u8 (wr .u8 (ishr .u32 x1 (wr .i64 (8 * x13))))] : List Value) p1 (Goes.vs (by kernel_rfl)) (by kernel_rfl) ?_
    intro b18 w4 z4 p4
    have p4 : Hp nz wz S1 w4 (((some b18), .row 5 ([.int .u8 (wr .u8 (ishr .u32 x1 (wr .i64 (8 * x13))))] : List Value) (1 * (kInt .u8).size) 0) :: (Gx5, .row 5 csx5 (cx5 * (kInt .u8).size) 0) :: Lr) := p4
    refine let_some h fun v24 e25 h => ?_
    refine guard_some' h fun g26 h => ?_
    refine Op_.ap_n (K := (kInt .u8)) 23 (.tmp 16) (.tmp 22) 23 23 5 1 (.int .u8 0) 1 x5.length cx5 1 x5 [wr .u8 (ishr .u32 x1 (wr .i64 (8 * x13)))] v24 (Gp (some b18)) 1 rfl rfl e25 p4 rfl (fx5.ext z4) (Goes.vs (by kernel_rfl)) (by kernel_rfl) (by kernel_rfl) (by kernel_rfl) (by kernel_rfl) rfl (by decide) (f19.ext z4) (src_own p4 (q := 0) rfl) (by have := g26; omega) (by have := g26; omega) ?_
    intro w5 G27 c28 cs29 z5 p5 f30
    refine Goes.runs 8 [(5, .slice (Gp G27) v24.length c28), (24, .int .i64 (wr .i64 (x13 + 1))), (13, .int .i64 (wr .i64 (x13 + 1)))] [.code (sub [1, 1, 0, 1, 0, 0] B23), .inLoop (sub [1, 1, 0, 1, 0, 0] B23), .inBlock 0, .code (sub [1, 1, 1] B23)] (by kernel_rfl) ?_
    have p5 := (p5.front 0 _ rfl).drop
    exact Goes.jump 26 [(1, .int .u32 x1), (5, .slice (Gp G27) v24.length c28), (13, .int .i64 (wr .i64 (x13 + 1)))] (by kernel_rfl) (ih_crc_Put_l0 _ _ h _ _ ((hx.trans z4).trans z5) G27 v24.length c28 cs29 p5 f30 rfl)
  · rw [decide_eq_false h16]
    refine Goes.runs 7 [(25, .slice (Gp Gx5) x5.length cx5), (4, .slice (Gp Gx5) x5.length cx5)] [.code (sub [1, 1, 1, 1] B23)] (by kernel_rfl) ?_
    obtain rfl := Option.some.inj h
    exact Goes.ret (fn := Try.f23) (by kernel_rfl) (v := .slice (Gp Gx5) x5.length cx5) (by kernel_rfl) ⟨S1, Gx5, x5.length, cx5, csx5, rfl, hx, p1, fx5, rfl⟩

/-! tidepole/crc.Put -/
theorem W.crc_Put (x0 : List Int) (x1 : Int) (r : List Int) (h : M.crc_Put x0 x1 = some r) (nz : Nat) (wz : World) (S0 : Fz) (w0 : World) (Lr : List Ent) (Ax0 : Option Addr) (nx0 : Nat) (cx0 : Nat) (p0 : Hp nz wz S0 w0 (Lr)) (fx0 : Rd (kInt .u8) S0 w0 Ax0 cx0 x0) (lx0 : x0.length = nx0) :
    Calls Try.prog 23 #[.slice Ax0 nx0 cx0, .int .u32 x1] w0 (Rets (Post.crc_Put nz wz S0 w0 Lr r)) := by
  subst lx0
  refine calls_of_goes (fn := Try.f23) (c := B23) (by kernel_rfl) (by kernel_rfl) 24 (by kernel_rfl) ?_
  refine Goes.jump 26 [(0, .slice Ax0 x0.length cx0), (1, .int .u32 x1)] (by kernel_rfl) (fun junk => ?_)
  delta M.crc_Put at h
  refine Goes.runs 9 [(4, .slice none 0 0), (7, .slice Ax0 x0.length cx0), (8, .int .i64 (x0.length : Int)), (9, .int .i64 (wr .i64 ((x0.length : Int) + 4)))] [.inRegion (opsOf (sub [1, 0] B23)) [3, 4, 5, 6], .code (sub [1, 1] B23)] (by kernel_rfl) ?_
  refine guard_some' h fun g1 h => ?_
  refine guard_some' h fun g2 h => ?_
  refine Op_.mk_n (K := (kInt .u8)) 23 (.const (.int .i64 0)) (.tmp 9) 10 23 5 .i64 .i64 0 (wr .i64 ((x0.length : Int) + 4)) (.int .u8 0) [.int .u8 0] 1 (0 : Int) ([] : List Int) rfl p0 (Goes.vs (by kernel_rfl)) (by kernel_rfl) (by kernel_rfl) (by kernel_rfl) (by kernel_rfl) (by kernel_rfl) (fun _ _ => rfl) (by decide : (0 : Int) ≤ 0) g1 (by have := g2; omega) (by have := g2; omega) ?_
  intro b3 w2 cs4 z2 p2 f5
  refine Goes.runs 1 [(11, .slice Ax0 x0.length cx0)] [.inRegion (opsOf (sub [1, 0] B23)) [5, 6], .code (sub [1, 1] B23)] (by kernel_rfl) ?_
  obtain ⟨ns7, f8, f9⟩ := src_rd (fx0.ext z2)
  refine guard_some' h fun g10 h => ?_
  refine Op_.ap_n (K := (kInt .u8)) 23 (.tmp 10) (.tmp 11) 12 23 5 0 (.int .u8 0) 1 (([] : List Int).length) ((wr .i64 ((x0.length : Int) + 4) : Int).toNat) x0.length ([] : List Int) x0 x0 Ax0 cx0 rfl rfl (List.nil_append _) p2 rfl f5 (Goes.vs (by kernel_rfl)) (by kernel_rfl) (by kernel_rfl) (by kernel_rfl) (by kernel_rfl) rfl (by decide) f8 f9 (by have := g10; omega) (by have := g10; omega) ?_
  intro w3 G11 c12 cs13 z3 p3 f14
  refine Goes.runs 9 [(5, .slice (Gp G11) x0.length c12), (13, .int .i64 0)] [.code (sub [1, 1, 0, 1, 0, 0] B23), .inLoop (sub [1, 1, 0, 1, 0, 0] B23), .inBlock 0, .code (sub [1, 1, 1] B23)] (by kernel_rfl) ?_
  exact Goes.jump 26 [(1, .int .u32 x1), (5, .slice (Gp G11) x0.length c12), (13, .int .i64 0)] (by kernel_rfl) (W.crc_Put_l0 nz wz S0 w0 Lr _ _ h _ _ (((Ext.refl S0 w0).trans z2).trans z3) G11 x0.length c12 cs13 p3 f14 rfl)

/-! tidepole/frame.sector -/
def Post.frame_sector (nz : Nat) (wz : World) (S0 : Fz) (w0 : World) (Lr : List Ent) (r : List Int) (v : Value) (w' : World) : Prop :=
  ∃ (S' : Fz) (vsq : List Value), v = .agg vsq.toArray ∧ Ext S0 w0 S' w' ∧ Hp nz wz S' w' (Lr) ∧ Els (kInt .u8) S' w' vsq r ∧ vsq.length = 256

def L.frame_sector_l0 (nz : Nat) (wz : World) (S0 : Fz) (w0 : World) (Lr : List Ent) : Int × (List Int) × Int × (List Int) × (List Int) × Int → (List Int) → Prop := fun ⟨x0, x1, x2, x6, x7, x9⟩ r => ∀ S1 w1, Ext S0 w0 S1 w1 → ∀ (Ax1 : Option Addr) (nx1 : Nat) (cx1 : Nat) (gx6 : Nat) (csx6 : List Value) (gx7 : Nat) (csx7 : List Value) (_ : Hp nz wz S1 w1 ((some gx6, .row 65 csx6 256 0) :: (some gx7, .row 65 csx7 256 0) :: Lr)) (_ : Rd (kInt .u8) S1 w1 Ax1 cx1 x1) (_ : x1.length = nx1) (_ : Els (kInt .u8) S1 w1 csx6 x6) (_ : csx6.length = 256) (_ : Els (kInt .u8) S1 w1 csx7 x7) (_ : csx7.length = 256) (junk : Nat → Value),
  Goes Try.prog (base 41) [.code (sub [1, 1, 0, 1, 0, 0] B41), .inLoop (sub [1, 1, 0, 1, 0, 0] B41), .inBlock 0, .code (sub [1, 1, 1] B41)] ⟨lfr 41 [(0, .int .i64 x0), (1, .slice Ax1 nx1 cx1), (2, .int .u8 x2), (6, .pointer (some ⟨gx6, 0, none⟩)), (7, .pointer (some ⟨gx7, 0, none⟩)), (9, .int .i64 x9)] junk, []⟩ w1 (Done Try.prog 41 (Rets (Post.frame_sector nz wz S0 w0 Lr r)))

theorem W.frame_sector_l0 (nz : Nat) (wz : World) (S0 : Fz) (w0 : World) (Lr : List Ent) : ∀ a r, M.frame_sector_l0 a = some r → (L.frame_sector_l0 nz wz S0 w0 Lr) a r := by
  refine M.frame_sector_l0.partial_correctness (motive := (L.frame_sector_l0 nz wz S0 w0 Lr)) ?_
  intro rec_frame_sector_l0 ih_frame_sector_l0 ⟨x0, x1, x2, x6, x7, x9⟩ r h S1 w1 hx Ax1 nx1 cx1 gx6 csx6 gx7 csx7 p1 fx1 lx1 fx6 lx6 fx7 lx7 junk
  dsimp only at h
  subst lx1
  refine Goes.runs 5 [(10, .bool (decide (x9 < 4)))] [.code (sub [1, 1, 0, 1, 0, 0, 1, 0] B41), .code (sub [1, 1, 0, 1, 0, 0, 1, 1] B41), .inLoop (sub [1, 1, 0, 1, 0, 0] B41), .inBlock 0, .code (sub [1, 1, 1] B41)] (by kernel_rfl) ?_
  refine ite_some h (fun h13 h => ?_) (fun h13 h => ?_)
  · rw [decide_eq_true h13]
    refine Goes.runs 14 [(11, .int .i64 x9), (8, .int .i64 x9), (12, .int .i64 x9), (13, .int .i64 x0), (14, .int .i64 x9), (15, .int .i64 (wr .i64 (8 * x9)))] [.inRegion (opsOf (sub [1, 1, 0, 1, 0, 0, 1, 1, 0, 0, 1] B41)) [4, 5, 6, 7], .inBlock 1, .code (sub [1, 1, 0, 1, 0, 0, 1, 1, 1] B41), .inLoop (sub [1, 1, 0, 1, 0, 0] B41), .inBlock 0, .code (sub [1, 1, 1] B41)] (by kernel_rfl) ?_
    refine guard_some' h fun g14 h => ?_
    refine Op_.binshr 3 (.tmp 13) (.tmp 15) 3 16 3 .i64 .i64 x0 (wr .i64 (8 * x9)) (Goes.vs (by kernel_rfl)) (by kernel_rfl) (by kernel_rfl) g14 ?_
    refine Goes.runs 1 [(17, .int .u8 (wr .u8 (ishr .i64 x0 (wr .i64 (8 * x9)))))] [.inRegion (opsOf (sub [1, 1, 0, 1, 0, 0, 1, 1, 0, 0, 1] B41)) [6, 7], .inBlock 1, .code (sub [1, 1, 0, 1, 0, 0, 1, 1, 1] B41), .inLoop (sub [1, 1, 0, 1, 0, 0] B41), .inBlock 0, .code (sub [1, 1, 1] B41)] (by kernel_rfl) ?_
    refine guard_some' h fun g15 h => ?_
    refine guard_some' h fun g16 h => ?_
    refine Op_.ixA_n (K := (kInt .u8)) 65 (.tmp 7) (.tmp 12) 18 0 5 256 .i64 x9 1 (gi x7 x9) rfl p1 rfl fx7 (Els.len1 fx7 lx7 rfl) (Goes.vs (by kernel_rfl)) (by kernel_rfl) (by kernel_rfl) (by kernel_rfl) (by kernel_rfl) g15 g16 ?_
    intro _ q18 f17
    obtain rfl := q18
    refine let_some h fun v19 e20 h => ?_
    refine Op_.stE_n (K := (kInt .u8)) 5 (.tmp 18) (.tmp 17) 0 1 x9 (.int .u8 (wr .u8 (ishr .i64 x0 (wr .i64 (8 * x9))))) [.int .u8 (wr .u8 (ishr .i64 x0 (wr .i64 (8 * x9))))] (wr .u8 (ishr .i64 x0 (wr .i64 (8 * x9)))) v19 256 (Els.len1 fx7 lx7 rfl) e20 p1 rfl fx7 (Goes.ss (by kernel_rfl)) (by kernel_rfl) (by kernel_rfl) (by kernel_rfl) rfl (by kernel_rfl) g15 g16 (Nat.zero_le _) ?_
    intro w4 cs21 z4 p4 f22 l23
    have l24 : cs21.length = 256 := by rw [f22.length, l23]; rfl
    refine Goes.runs 7 [(19, .int .i64 (wr .i64 (x9 + 1))), (9, .int .i64 (wr .i64 (x9 + 1)))] [.code (sub [1, 1, 0, 1, 0, 0] B41), .inLoop (sub [1, 1, 0, 1, 0, 0] B41), .inBlock 0, .code (sub [1, 1, 1] B41)] (by kernel_rfl) ?_
    exact Goes.jump 41 [(0, .int .i64 x0), (1, .slice Ax1 x1.length cx1), (2, .int .u8 x2), (6, .pointer (some ⟨gx6, 0, none⟩)), (7, .pointer (some ⟨gx7, 0, none⟩)), (9, .int .i64 (wr .i64 (x9 + 1)))] (by kernel_rfl) (ih_frame_sector_l0 _ _ h _ _ (hx.trans z4) Ax1 x1.length cx1 gx6 csx6 gx7 cs21 p4 (fx1.ext z4) rfl (fx6.ext z4) lx6 f22 l24)
  · rw [decide_eq_false h13]
    refine Goes.runs 12 [(20, .slice Ax1 x1.length cx1), (21, .int .i64 (x1.length : Int)), (22, .int .u8 (wr .u8 (x1.length : Int))), (23, .slice Ax1 x1.length cx1), (24, .int .i64 (x1.length : Int)), (25, .int .i64 (ishr .i64 (x1.length : Int) 8)), (26, .int .u8 (wr .u8 (ishr .i64 (x1.length : Int) 8))), (27, .int .u8 x2)] [.inRegion (opsOf (sub [1, 1, 1, 0] B41)) [8, 9, 10, 11, 12, 13], .code (sub [1, 1, 1, 1] B41)] (by kernel_rfl) ?_
    refine Op_.ixA_n (K := (kInt .u8)) 65 (.tmp 7) (.const (.int .i64 4)) 28 0 5 256 .i64 4 1 (gi x7 4) rfl p1 rfl fx7 (Els.len1 fx7 lx7 rfl) (Goes.vs (by kernel_rfl)) (by kernel_rfl) (by kernel_rfl) (by kernel_rfl) (by kernel_rfl) (by decide : (0 : Int) ≤ 4) (by decide : (4 : Int) < 256) ?_
    intro _ q26 f25
    obtain rfl := q26
    refine Op_.stE_n (K := (kInt .u8)) 5 (.tmp 28) (.tmp 22) 0 1 4 (.int .u8 (wr .u8 (x1.length : Int))) [.int .u8 (wr .u8 (x1.length : Int))] (wr .u8 (x1.length : Int)) (si x7 4 (wr .u8 (x1.length : Int))) 256 (Els.len1 fx7 lx7 rfl) rfl p1 rfl fx7 (Goes.ss (by kernel_rfl)) (by kernel_rfl) (by kernel_rfl) (by kernel_rfl) rfl (by kernel_rfl) (by decide : (0 : Int) ≤ 4) (by decide : (4 : Int) < 256) (Nat.zero_le _) ?_
    intro w5 cs27 z5 p5 f28 l29
    have l30 : cs27.length = 256 := by rw [f28.length, l29]; rfl
    refine Op_.ixA_n (K := (kInt .u8)) 65 (.tmp 7) (.const (.int .i64 5)) 29 0 5 256 .i64 5 1 (gi (si x7 4 (wr .u8 (x1.length : Int))) 5) rfl p5 rfl f28 (Els.len1 f28 l30 rfl) (Goes.vs (by kernel_rfl)) (by kernel_rfl) (by kernel_rfl) (by kernel_rfl) (by kernel_rfl) (by decide : (0 : Int) ≤ 5) (by decide : (5 : Int) < 256) ?_
    intro _ q32 f31
    obtain rfl := q32
    refine let_some h fun v33 e34 h => ?_
    refine Op_.stE_n (K := (kInt .u8)) 5 (.tmp 29) (.tmp 26) 0 1 5 (.int .u8 (wr .u8 (ishr .i64 (x1.length : Int) 8))) [.int .u8 (wr .u8 (ishr .i64 (x1.length : Int) 8))] (wr .u8 (ishr .i64 (x1.length : Int) 8)) v33 256 (Els.len1 f28 l30 rfl) e34 p5 rfl f28 (Goes.ss (by kernel_rfl)) (by kernel_rfl) (by kernel_rfl) (by kernel_rfl) rfl (by kernel_rfl) (by decide : (0 : Int) ≤ 5) (by decide : (5 : Int) < 256) (Nat.zero_le _) ?_
    intro w6 cs35 z6 p6 f36 l37
    have l38 : cs35.length = 256 := by rw [f36.length, l37]; rfl
    refine Op_.ixA_n (K := (kInt .u8)) 65 (.tmp 7) (.const (.int .i64 6)) 30 0 5 256 .i64 6 1 (gi v33 6) rfl p6 rfl f36 (Els.len1 f36 l38 rfl) (Goes.vs (by kernel_rfl)) (by kernel_rfl) (by kernel_rfl) (by kernel_rfl) (by kernel_rfl) (by decide : (0 : Int) ≤ 6) (by decide : (6 : Int) < 256) ?_
    intro _ q40 f39
    obtain rfl := q40
    refine Op_.stE_n (K := (kInt .u8)) 5 (.tmp 30) (.tmp 27) 0 1 6 (.int .u8 x2) [.int .u8 x2] x2 (si v33 6 x2) 256 (Els.len1 f36 l38 rfl) rfl p6 rfl f36 (Goes.ss (by kernel_rfl)) (by kernel_rfl) (by kernel_rfl) (by kernel_rfl) rfl (by kernel_rfl) (by decide : (0 : Int) ≤ 6) (by decide : (6 : Int) < 256) (Nat.zero_le _) ?_
    intro w7 cs41 z7 p7 f42 l43
    have l44 : cs41.length = 256 := by rw [f42.length, l43]; rfl
    refine Goes.runs 3 [] [.inRegion (opsOf (sub [1, 1, 1, 1, 0] B41)) [0, 1, 2], .code (sub [1, 1, 1, 1, 1] B41)] (by kernel_rfl) ?_
    refine Op_.slW 65 (.tmp 7) (some (.const (.int .i64 7))) none 31 23 5 256 gx7 7 256 (Goes.vs (by kernel_rfl)) (by kernel_rfl) (by kernel_rfl) (by kernel_rfl) (Bnd.at_ .i64 (by kernel_rfl)) Bnd.no (by decide) (by decide) (by decide) ?_
    refine Goes.runs 1 [(32, .slice Ax1 x1.length cx1)] [.inRegion (opsOf (sub [1, 1, 1, 1, 0] B41)) [2], .code (sub [1, 1, 1, 1, 1] B41)] (by kernel_rfl) ?_
    obtain ⟨ns45, f46, f47⟩ := src_rd (fx1.ext ((z5.trans z6).trans z7))
    refine Op_.cp_n (K := (kInt .u8)) 23 23 (.tmp 31) (.tmp 32) 33 3 5 1 gx7 7 (256 - 7) (256 - 7) x1 x1.length Ax1 cx1 (cpy (si v33 6 x2) 7 (256 - 7) x1) rfl rfl p7 rfl f42 (Goes.vs (by kernel_rfl)) (by kernel_rfl) (by kernel_rfl) (by kernel_rfl) (by kernel_rfl) rfl (by decide) (by rw [l44]; decide) f46 f47 ((fx1.ext ((z5.trans z6).trans z7)).2.1) ?_
    intro w8 cs48 z8 p8 f49 l50
    replace l50 : cs48.length = 256 := by rw [l50, l44]
    refine Goes.runs 2 [] [.code (sub [1, 1, 1, 1, 1, 0] B41), .code (sub [1, 1, 1, 1, 1, 1] B41)] (by kernel_rfl) ?_
    have z9 : Ext S1 w8 S1 (w8).drew := Ext.draw
    have p9 := p8.draw
    refine Goes.drawn (s := []) (F := Fc S1 (w8).drew []) 9 5 (by kernel_rfl) (by kernel_rfl) (by kernel_rfl) (by kernel_rfl) ?_
    generalize (w8).drew = w9 at z9 p9 ⊢
    refine AnyG.slW (i := 0) 65 (.tmp 7) (some (.const (.int .i64 251))) none 34 23 5 256 gx7 251 256 (by kernel_rfl) (by kernel_rfl) (Fc.here trivial) (by kernel_rfl) (by kernel_rfl) (by kernel_rfl) (Bnd.at_ .i64 (by kernel_rfl)) Bnd.no (by decide) (by decide) (by decide) ?_
    refine AnyG.slW (i := 1) 65 (.tmp 7) none (some (.const (.int .i64 251))) 35 23 5 256 gx7 0 251 (by kernel_rfl) (by kernel_rfl) (Fc.here trivial) (by kernel_rfl) (by kernel_rfl) (by kernel_rfl) Bnd.no (Bnd.at_ .i64 (by kernel_rfl)) (by decide) (by decide) (by decide) ?_
    obtain ⟨S10, z10, p10, f51⟩ := p9.freezeWin 1 rfl (f49.ext z9) l50 rfl 0 251 251 (by decide) (by decide) (by decide) (by decide)
    refine AnyG.refz z10 ?_
    refine bind_some' h fun y52 e53 h => ?_
    refine Op_.call (.call { callee := .value (.func 13), args := #[(.tmp 35)], argTypes := #[23] }) 36 22 13 #[.slice (some ⟨gx7, 0, none⟩) (251 - 0) (256 - 0)] (AnyG.cs (i := 2) (by kernel_rfl) (by kernel_rfl)) (by kernel_rfl) (W.crc_Sum (sl (cpy (si v33 6 x2) 7 (256 - 7) x1) 0 251) y52 e53 nz wz S10 w9 ((some gx6, .row 65 csx6 256 0) :: (some gx7, .row 65 cs48 256 251) :: Lr) (some ⟨gx7, 0, none⟩) (251 - 0) (256 - 0) p10 f51 (sl_len _ 256 0 251 (Els.len1 (f49.ext (z9.trans z10)) l50 rfl) (by decide) (by decide))) ?_
    rintro _ w11 ⟨S11, rfl, z11, p11⟩
    refine AnyG.next z11 trivial ?_
    refine bind_some' h fun y54 e55 h => ?_
    refine Op_.call (.call { callee := .value (.func 23), args := #[(.const (.slice none 0 0)), (.tmp 36)], argTypes := #[23, 22] }) 37 23 23 #[.slice none 0 0, .int .u32 y52] (AnyG.cs (i := 3) (by kernel_rfl) (by kernel_rfl)) (by kernel_rfl) (W.crc_Put ([] : List Int) y52 y54 e55 nz wz S11 w11 ((some gx6, .row 65 csx6 256 0) :: (some gx7, .row 65 cs48 256 251) :: Lr) none 0 0 p11 Rd.none_ rfl) ?_
    rintro _ w12 ⟨S12, Gr_12, nr_12, cr_12, csr_12, rfl, z12, p12, fr_12, rfl⟩
    refine AnyG.next z12 trivial ?_
    obtain ⟨S13, z13, p13, f57⟩ := p12.freezeRd 0 rfl fr_12 (by decide)
    refine AnyG.refz z13 ?_
    obtain ⟨ns58, f59, f60⟩ := src_rd f57
    refine let_some h fun v61 e62 h => ?_
    refine Op_.cp_n (K := (kInt .u8)) 23 23 (.tmp 34) (.tmp 37) 38 3 5 2 gx7 251 (256 - 251) (256 - 251) y54 y54.length (Gp Gr_12) cr_12 v61 rfl e62 p13 rfl (f49.ext ((((z9.trans z10).trans z11).trans z12).trans z13)) (AnyG.vs (i := 4) (by kernel_rfl) (by kernel_rfl)) (by kernel_rfl) (by kernel_rfl) (by kernel_rfl) (by kernel_rfl) rfl (by decide) (by rw [l50]; decide) f59 f60 (f57.2.1) ?_
    intro w14 cs63 z14 p14 f64 l65
    replace l65 : cs63.length = 256 := by rw [l65, l50]
    refine AnyG.next z14 trivial ?_
    refine AnyG.done (by kernel_rfl) ?_ _
    have p14 := (p14.front 0 _ rfl).drop
    refine Goes.runs 2 [] [.inRegion (opsOf (sub [1, 1, 1, 1, 1, 1, 0] B41)) [0, 1], .code (sub [1, 1, 1, 1, 1, 1, 1] B41)] (by kernel_rfl) ?_
    refine Op_.ixA_n (K := (kInt .u8)) 65 (.tmp 7) (.const (.int .i64 255)) 39 0 5 256 .i64 255 1 (gi v61 255) rfl p14 rfl f64 (Els.len1 f64 l65 rfl) (Goes.vs (by kernel_rfl)) (by kernel_rfl) (by kernel_rfl) (by kernel_rfl) (by kernel_rfl) (by decide : (0 : Int) ≤ 255) (by decide : (255 : Int) < 256) ?_
    intro _ q67 f66
    obtain rfl := q67
    refine Op_.stE_n (K := (kInt .u8)) 5 (.tmp 39) (.const (.int .u8 255)) 0 1 255 (.int .u8 255) [.int .u8 255] 255 (si v61 255 255) 256 (Els.len1 f64 l65 rfl) rfl p14 rfl f64 (Goes.ss (by kernel_rfl)) (by kernel_rfl) (by kernel_rfl) (by kernel_rfl) rfl (by kernel_rfl) (by decide : (0 : Int) ≤ 255) (by decide : (255 : Int) < 256) (by decide) ?_
    intro w15 cs68 z15 p15 f69 l70
    have l71 : cs68.length = 256 := by rw [f69.length, l70]; rfl
    refine Goes.runs 3 [] [.inRegion (opsOf (sub [1, 1, 1, 1, 1, 1, 1, 0] B41)) [0, 1], .code (sub [1, 1, 1, 1, 1, 1, 1, 1] B41)] (by kernel_rfl) ?_
    refine Op_.ldN 65 (.tmp 7) 40 65 ⟨gx7, 0, none⟩ cs68 (Goes.vs (by kernel_rfl)) (by kernel_rfl) (by kernel_rfl) (by rw [l71]; kernel_rfl) (At_all (p15.mem 1 rfl)) ?_
    refine Op_.stA 65 (.tmp 6) (.tmp 40) 0 0 gx6 256 cs68 p15 rfl lx6 (Goes.ss (by kernel_rfl)) (by kernel_rfl) (by kernel_rfl) (by kernel_rfl) l71 (Els.one f69) ?_
    intro w16 z16 p16
    refine Goes.runs 1 [] [.code (sub [1, 1, 1, 1, 1, 1, 1, 1] B41)] (by kernel_rfl) ?_
    obtain rfl := Option.some.inj h
    have p16 := (p16.front 1 _ rfl).drop
    exact Goes.ret (fn := Try.f41) (by kernel_rfl) (v := .agg cs68.toArray) (results_n1 (fn := Try.f41) (a := .cell 6 65) (by kernel_rfl) (resV_cell ⟨gx6, 0, none⟩ (by kernel_rfl) (run_loadN cs68 (by kernel_rfl) (by rw [l71]; kernel_rfl) (At_all (p16.mem 0 rfl))))) ⟨S13, cs68, rfl, ((((((((((((hx.trans z5).trans z6).trans z7).trans z8).trans z9).trans z10).trans z11).trans z12).trans z13).trans z14).trans z15).trans z16), p16.drop, (f69.ext z16), l71⟩

/-! tidepole/frame.sector -/
theorem W.frame_sector (x0 : Int) (x1 : List Int) (x2 : Int) (r : List Int) (h : M.frame_sector x0 x1 x2 = some r) (nz : Nat) (wz : World) (S0 : Fz) (w0 : World) (Lr : List Ent) (Ax1 : Option Addr) (nx1 : Nat) (cx1 : Nat) (p0 : Hp nz wz S0 w0 (Lr)) (fx1 : Rd (kInt .u8) S0 w0 Ax1 cx1 x1) (lx1 : x1.length = nx1) :
    Calls Try.prog 41 #[.int .i64 x0, .slice Ax1 nx1 cx1, .int .u8 x2] w0 (Rets (Post.frame_sector nz wz S0 w0 Lr r)) := by
  subst lx1
  refine calls_of_goes (fn := Try.f41) (c := B41) (by kernel_rfl) (by kernel_rfl) 38 (by kernel_rfl) ?_
  refine Goes.jump 41 [(0, .int .i64 x0), (1, .slice Ax1 x1.length cx1), (2, .int .u8 x2)] (by kernel_rfl) (fun junk => ?_)
  delta M.frame_sector at h
  refine Goes.runs 2 [] [.inRegion (opsOf (sub [0] B41)) [0], .code (sub [1] B41)] (by kernel_rfl) ?_
  refine Op_.alloc 65 6 0 (.agg (List.replicate 256 (.int .u8 0) : List Value).toArray) (List.replicate 256 (.int .u8 0) : List Value) p0 (Goes.vs (by kernel_rfl)) (by kernel_rfl) rfl ?_
  intro b1 w2 z2 p2
  obtain ⟨cs3, f4, l5, p2⟩ : ∃ cs, Els (kInt .u8) S0 w2 cs (List.replicate 256 0) ∧ cs.length = 256 ∧ Hp nz wz S0 w2 ((some b1, .row 65 cs 256 0) :: Lr) := ⟨(List.replicate 256 (.int .u8 0) : List Value), (Els.rep1 (K := (kInt .u8)) rfl 256), (by simp), by rw [show ((List.replicate 256 (.int .u8 0) : List Value)).length = 256 from (by simp)] at p2; exact p2⟩
  refine Goes.runs 3 [] [.inRegion (opsOf (sub [1, 0] B41)) [0], .code (sub [1, 1] B41)] (by kernel_rfl) ?_
  refine Op_.alloc 65 7 0 (.agg (List.replicate 256 (.int .u8 0) : List Value).toArray) (List.replicate 256 (.int .u8 0) : List Value) p2 (Goes.vs (by kernel_rfl)) (by kernel_rfl) rfl ?_
  intro b6 w3 z3 p3
  obtain ⟨cs8, f9, l10, p3⟩ : ∃ cs, Els (kInt .u8) S0 w3 cs (List.replicate 256 0) ∧ cs.length = 256 ∧ Hp nz wz S0 w3 ((some b6, .row 65 cs 256 0) :: (some b1, .row 65 cs3 256 0) :: Lr) := ⟨(List.replicate 256 (.int .u8 0) : List Value), (Els.rep1 (K := (kInt .u8)) rfl 256), (by simp), by rw [show ((List.replicate 256 (.int .u8 0) : List Value)).length = 256 from (by simp)] at p3; exact p3⟩
  refine Goes.runs 8 [(9, .int .i64 0)] [.code (sub [1, 1, 0, 1, 0, 0] B41), .inLoop (sub [1, 1, 0, 1, 0, 0] B41), .inBlock 0, .code (sub [1, 1, 1] B41)] (by kernel_rfl) ?_
  have p3 := p3.front 0 _ rfl
  have p3 := p3.front 1 _ rfl
  exact Goes.jump 41 [(0, .int .i64 x0), (1, .slice Ax1 x1.length cx1), (2, .int .u8 x2), (6, .pointer (some ⟨b1, 0, none⟩)), (7, .pointer (some ⟨b6, 0, none⟩)), (9, .int .i64 0)] (by kernel_rfl) (W.frame_sector_l0 nz wz S0 w0 Lr _ _ h _ _ (((Ext.refl S0 w0).trans z2).trans z3) Ax1 x1.length cx1 b1 cs3 b6 cs8 p3 (fx1.ext (z2.trans z3)) rfl (f4.ext z3) l5 f9 l10)

/-! tidepole/frame.Write -/
def Post.frame_Write_r (nz : Nat) (wz : World) (S0 : Fz) (w0 : World) (Lr : List Ent) (lk : Nat) (rk : Nat) (jkk : Nat → Value) (gkq2 : Nat) (gkq8 : Nat) (Akq44 : Option Addr) (nkq44 : Nat) (ckq44 : Nat) (gkq51b0 : Nat) (kq44 : List (List Int)) (kq45 : Int) (kq46 : Int) (r : Int × (List Int) × (List Int)) (v : Value) (w' : World) : Prop :=
  ∃ (S' : Fz) (Ge2v_0 : Option Nat) (ne2v_0 : Nat) (ce2v_0 : Nat) (cse2v_0 : List Value) (Ae3v_0 : Option Addr) (ne3v_0 : Nat) (ce3v_0 : Nat), v = .bool true ∧ Ext S0 w0 S' w' ∧ Hp nz wz S' w' ((some lk, .obj (lpst 29 (lfr 65 [(2, .pointer (some ⟨gkq2, 0, none⟩)), (8, .pointer (some ⟨gkq8, 0, none⟩)), (44, .slice Akq44 nkq44 ckq44), (45, .int .i64 kq45), (46, .int .i64 kq46), (51, .func (.func 46) #[] #[.pointer (some ⟨gkq51b0, 0, none⟩)])] jkk) #[52, 53] (rfAssign (sub [1, 1, 1, 1, 0, 1, 0, 0, 1, 1, 0, 0, 1, 1, 0] B29)) (rfBody (sub [1, 1, 1, 1, 0, 1, 0, 0, 1, 1, 0, 0, 1, 1, 0] B29)) rk .ready none)) :: (some gkq2, .row 3 [.int .i64 r.1] 1 0) :: (some gkq8, .row 23 [.slice (Gp Ge2v_0) ne2v_0 ce2v_0] 1 0) :: (Ge2v_0, .row 5 cse2v_0 (ce2v_0 * (kInt .u8).size) 0) :: (some gkq51b0, .row 23 [.slice Ae3v_0 ne3v_0 ce3v_0] 1 0) :: Lr) ∧ Els (kInt .u8) S' w' cse2v_0 r.2.1 ∧ r.2.1.length = ne2v_0 ∧ Rd (kInt .u8) S' w' Ae3v_0 ce3v_0 r.2.2 ∧ r.2.2.length = ne3v_0

theorem W.frame_Write_r (kq2v_0 : Int) (kq8v_0 : List Int) (kq44 : List (List Int)) (kq45 : Int) (kq46 : Int) (kq51b0v_0 : List Int) (a0 : List Int) (a1 : Int) (r : Int × (List Int) × (List Int)) (h : M.frame_Write_r kq2v_0 kq8v_0 kq44 kq45 kq46 kq51b0v_0 a0 a1 = some r) (nz : Nat) (wz : World) (S0 : Fz) (w0 : World) (Lr : List Ent) (lk : Nat) (rk : Nat) (jkk : Nat → Value) (gkq2 : Nat) (gkq8 : Nat) (Gkq8v_0 : Option Nat) (nkq8v_0 : Nat) (ckq8v_0 : Nat) (cskq8v_0 : List Value) (Akq44 : Option Addr) (nkq44 : Nat) (ckq44 : Nat) (gkq51b0 : Nat) (Akq51b0v_0 : Option Addr) (nkq51b0v_0 : Nat) (ckq51b0v_0 : Nat) (Aa0 : Option Addr) (na0 : Nat) (ca0 : Nat) (p0 : Hp nz wz S0 w0 ((some lk, .obj (lpst 29 (lfr 65 [(2, .pointer (some ⟨gkq2, 0, none⟩)), (8, .pointer (some ⟨gkq8, 0, none⟩)), (44, .slice Akq44 nkq44 ckq44), (45, .int .i64 kq45), (46, .int .i64 kq46), (51, .func (.func 46) #[] #[.pointer (some ⟨gkq51b0, 0, none⟩)])] jkk) #[52, 53] (rfAssign (sub [1, 1, 1, 1, 0, 1, 0, 0, 1, 1, 0, 0, 1, 1, 0] B29)) (rfBody (sub [1, 1, 1, 1, 0, 1, 0, 0, 1, 1, 0, 0, 1, 1, 0] B29)) rk .ready none)) :: (some gkq2, .row 3 [.int .i64 kq2v_0] 1 0) :: (some gkq8, .row 23 [.slice (Gp Gkq8v_0) nkq8v_0 ckq8v_0] 1 0) :: (Gkq8v_0, .row 5 cskq8v_0 (ckq8v_0 * (kInt .u8).size) 0) :: (some gkq51b0, .row 23 [.slice Akq51b0v_0 nkq51b0v_0 ckq51b0v_0] 1 0) :: Lr)) (fkq8v_0 : Els (kInt .u8) S0 w0 cskq8v_0 kq8v_0) (lkq8v_0 : kq8v_0.length = nkq8v_0) (fkq44 : Rd (kSl (kInt .u8)) S0 w0 Akq44 ckq44 kq44) (lkq44 : kq44.length = nkq44) (fkq51b0v_0 : Rd (kInt .u8) S0 w0 Akq51b0v_0 ckq51b0v_0 kq51b0v_0) (lkq51b0v_0 : kq51b0v_0.length = nkq51b0v_0) (fa0 : Rd (kInt .u8) S0 w0 Aa0 ca0 a0) (la0 : a0.length = na0) :
    Goes Try.prog (rbase 29 lk) [.code (rfAssign (sub [1, 1, 1, 1, 0, 1, 0, 0, 1, 1, 0, 0, 1, 1, 0] B29)), .beginRound, .code (rfBody (sub [1, 1, 1, 1, 0, 1, 0, 0, 1, 1, 0, 0, 1, 1, 0] B29))] ⟨setp (lfr 65 [(2, .pointer (some ⟨gkq2, 0, none⟩)), (8, .pointer (some ⟨gkq8, 0, none⟩)), (44, .slice Akq44 nkq44 ckq44), (45, .int .i64 kq45), (46, .int .i64 kq46), (51, .func (.func 46) #[] #[.pointer (some ⟨gkq51b0, 0, none⟩)])] jkk) #[52, 53] #[.slice Aa0 na0 ca0, .int .u8 a1], []⟩ w0 (DoneR (Post.frame_Write_r nz wz S0 w0 Lr lk rk jkk gkq2 gkq8 Akq44 nkq44 ckq44 gkq51b0 kq44 kq45 kq46 r)) := by
  subst lkq8v_0
  subst lkq44
  subst lkq51b0v_0
  subst la0
  refine Goes.jump 65 [(2, .pointer (some ⟨gkq2, 0, none⟩)), (8, .pointer (some ⟨gkq8, 0, none⟩)), (44, .slice Akq44 kq44.length ckq44), (45, .int .i64 kq45), (46, .int .i64 kq46), (51, .func (.func 46) #[] #[.pointer (some ⟨gkq51b0, 0, none⟩)]), (52, .slice Aa0 a0.length ca0), (53, .int .u8 a1)] (by kernel_rfl) (fun junk => ?_)
  delta M.frame_Write_r at h
  refine Goes.runs 7 [(11, .slice Aa0 a0.length ca0), (12, .int .u8 a1)] [.beginRound, .code (sub [1, 1, 1, 1, 0, 1, 0, 0, 1, 1, 0, 0, 1, 1, 0, 1] B29)] (by kernel_rfl) ?_
  refine Goes.beginR 0 rfl p0 rfl ?_
  intro w2 z2 p2
  refine Goes.runs 3 [] [.inRegion (opsOf (sub [1, 1, 1, 1, 0, 1, 0, 0, 1, 1, 0, 0, 1, 1, 0, 1, 0, 0] B29)) [0, 1, 2, 3, 4, 5], .code (sub [1, 1, 1, 1, 0, 1, 0, 0, 1, 1, 0, 0, 1, 1, 0, 1, 0, 1] B29), .inBlock 4] (by kernel_rfl) ?_
  refine Op_.ld1 3 (.tmp 2) 54 3 ⟨gkq2, 0, none⟩ (.int .i64 kq2v_0) (Goes.vs (by kernel_rfl)) (by kernel_rfl) (by kernel_rfl) ((p2.mem 1 rfl).cell 0 _ rfl) ?_
  refine Goes.runs 2 [(55, .slice Aa0 a0.length ca0), (56, .int .u8 a1)] [.inRegion (opsOf (sub [1, 1, 1, 1, 0, 1, 0, 0, 1, 1, 0, 0, 1, 1, 0, 1, 0, 0] B29)) [3, 4, 5], .code (sub [1, 1, 1, 1, 0, 1, 0, 0, 1, 1, 0, 0, 1, 1, 0, 1, 0, 1] B29), .inBlock 4] (by kernel_rfl) ?_
  refine bind_some' h fun y6 e7 h => ?_
  refine Op_.call (.call { callee := .value (.func 41), args := #[(.tmp 54), (.tmp 55), (.tmp 56)], argTypes := #[3, 23, 5] }) 57 65 41 #[.int .i64 kq2v_0, .slice Aa0 a0.length ca0, .int .u8 a1] (Goes.cs (by kernel_rfl)) (by kernel_rfl) (W.frame_sector kq2v_0 a0 a1 y6 e7 nz wz S0 w2 ((some lk, .obj (lpst 29 (lfr 65 [(2, .pointer (some ⟨gkq2, 0, none⟩)), (8, .pointer (some ⟨gkq8, 0, none⟩)), (44, .slice Akq44 kq44.length ckq44), (45, .int .i64 kq45), (46, .int .i64 kq46), (51, .func (.func 46) #[] #[.pointer (some ⟨gkq51b0, 0, none⟩)])] jkk) #[52, 53] (rfAssign (sub [1, 1, 1, 1, 0, 1, 0, 0, 1, 1, 0, 0, 1, 1, 0] B29)) (rfBody (sub [1, 1, 1, 1, 0, 1, 0, 0, 1, 1, 0, 0, 1, 1, 0] B29)) rk .busy none)) :: (some gkq2, .row 3 [.int .i64 kq2v_0] 1 0) :: (some gkq8, .row 23 [.slice (Gp Gkq8v_0) kq8v_0.length ckq8v_0] 1 0) :: (Gkq8v_0, .row 5 cskq8v_0 (ckq8v_0 * (kInt .u8).size) 0) :: (some gkq51b0, .row 23 [.slice Akq51b0v_0 kq51b0v_0.length ckq51b0v_0] 1 0) :: Lr) Aa0 a0.length ca0 p2 (fa0.ext z2) rfl) ?_
  rintro _ w3 ⟨S3, vsr_3, rfl, z3, p3, fr_3, lr_3⟩
  refine Op_.alloc 65 13 0 (.agg (List.replicate 256 (.int .u8 0) : List Value).toArray) (List.replicate 256 (.int .u8 0) : List Value) p3 (Goes.vs (by kernel_rfl)) (by kernel_rfl) rfl ?_
  intro b8 w4 z4 p4
  obtain ⟨cs10, f11, l12, p4⟩ : ∃ cs, Els (kInt .u8) S3 w4 cs (List.replicate 256 0) ∧ cs.length = 256 ∧ Hp nz wz S3 w4 ((some b8, .row 65 cs 256 0) :: (some lk, .obj (lpst 29 (lfr 65 [(2, .pointer (some ⟨gkq2, 0, none⟩)), (8, .pointer (some ⟨gkq8, 0, none⟩)), (44, .slice Akq44 kq44.length ckq44), (45, .int .i64 kq45), (46, .int .i64 kq46), (51, .func (.func 46) #[] #[.pointer (some ⟨gkq51b0, 0, none⟩)])] jkk) #[52, 53] (rfAssign (sub [1, 1, 1, 1, 0, 1, 0, 0, 1, 1, 0, 0, 1, 1, 0] B29)) (rfBody (sub [1, 1, 1, 1, 0, 1, 0, 0, 1, 1, 0, 0, 1, 1, 0] B29)) rk .busy none)) :: (some gkq2, .row 3 [.int .i64 kq2v_0] 1 0) :: (some gkq8, .row 23 [.slice (Gp Gkq8v_0) kq8v_0.length ckq8v_0] 1 0) :: (Gkq8v_0, .row 5 cskq8v_0 (ckq8v_0 * (kInt .u8).size) 0) :: (some gkq51b0, .row 23 [.slice Akq51b0v_0 kq51b0v_0.length ckq51b0v_0] 1 0) :: Lr) := ⟨(List.replicate 256 (.int .u8 0) : List Value), (Els.rep1 (K := (kInt .u8)) rfl 256), (by simp), by rw [show ((List.replicate 256 (.int .u8 0) : List Value)).length = 256 from (by simp)] at p4; exact p4⟩
  refine Op_.stA 65 (.tmp 13) (.tmp 57) 0 0 b8 256 vsr_3 p4 rfl l12 (Goes.ss (by kernel_rfl)) (by kernel_rfl) (by kernel_rfl) (by kernel_rfl) lr_3 (Els.one (fr_3.ext z4)) ?_
  intro w5 z5 p5
  refine Goes.runs 2 [] [.code (sub [1, 1, 1, 1, 0, 1, 0, 0, 1, 1, 0, 0, 1, 1, 0, 1, 0, 1, 0] B29), .code (sub [1, 1, 1, 1, 0, 1, 0, 0, 1, 1, 0, 0, 1, 1, 0, 1, 0, 1, 1] B29), .inBlock 4] (by kernel_rfl) ?_
  have z6 : Ext S3 w5 S3 (w5).drew := Ext.draw
  have p6 := p5.draw
  refine Goes.drawn (s := [2, 3]) (F := Fc S3 (w5).drew [(⟨gkq8, 0, none⟩, .slice (Gp Gkq8v_0) kq8v_0.length ckq8v_0)]) 14 4 (by kernel_rfl) (by kernel_rfl) (by kernel_rfl) (by kernel_rfl) ?_
  generalize (w5).drew = w6 at z6 p6 ⊢
  refine AnyG.ld1 (i := 0) 23 (.tmp 8) 58 23 ⟨gkq8, 0, none⟩ (.slice (Gp Gkq8v_0) kq8v_0.length ckq8v_0) (by kernel_rfl) (by kernel_rfl) (Fc.here ⟨((p6.mem 3 rfl).cell 0 _ rfl), trivial⟩) (by kernel_rfl) (by kernel_rfl) (fun _ h => h.2.at_ 0 rfl) ?_
  refine AnyG.slW (i := 1) 65 (.tmp 13) none none 59 23 5 256 b8 0 256 (by kernel_rfl) (by kernel_rfl) (Fc.here ⟨((p6.mem 3 rfl).cell 0 _ rfl), trivial⟩) (by kernel_rfl) (by kernel_rfl) (by kernel_rfl) Bnd.no Bnd.no (by decide) (by decide) (by decide) ?_
  obtain ⟨S7, z7, p7, f16⟩ := p6.freezeWin 0 rfl (fr_3.ext ((z4.trans z5).trans z6)) lr_3 rfl 0 256 256 (by decide) (by decide) (by decide) (by decide)
  refine AnyG.refz z7 ?_
  obtain ⟨ns13, f14, f15⟩ := src_rd f16
  refine guard_some' h fun g17 h => ?_
  refine Op_.ap_n (K := (kInt .u8)) 23 (.tmp 58) (.tmp 59) 60 23 5 4 (.int .u8 0) 1 kq8v_0.length ckq8v_0 (256 - 0) kq8v_0 (sl y6 0 256) (kq8v_0 ++ (sl y6 0 256)) (some ⟨b8, 0, none⟩) (256 - 0) rfl (sl_len _ 256 0 256 (Els.len1 (fr_3.ext (((z4.trans z5).trans z6).trans z7)) lr_3 rfl) (by decide) (by decide)) rfl p7 rfl (fkq8v_0.ext (((((z2.trans z3).trans z4).trans z5).trans z6).trans z7)) (AnyG.vs (i := 2) (by kernel_rfl) (by kernel_rfl)) (by kernel_rfl) (by kernel_rfl) (by kernel_rfl) (by kernel_rfl) rfl (by decide) f14 f15 (by have := g17; omega) (by have := g17; omega) ?_
  intro w8 G18 c19 cs20 z8 p8 f21
  refine AnyG.last (by decide) ?_
  refine Op_.st 23 (.tmp 8) (.tmp 60) 0 3 gkq8 0 (.slice (Gp G18) ((kq8v_0 ++ (sl y6 0 256)).length) c19) [.slice (Gp G18) ((kq8v_0 ++ (sl y6 0 256)).length) c19] p8 rfl (AnyG.ss (i := 3) (by kernel_rfl) (by kernel_rfl)) (by kernel_rfl) (by kernel_rfl) (by kernel_rfl) (by kernel_rfl) (Nat.zero_le _) (by simp only [List.length_cons, List.length_nil]; omega) (by simp [Value.oneCell']) ?_
  intro w9 z9 p9
  refine AnyG.last (by decide) ?_
  refine AnyG.done (by kernel_rfl) ?_ _
  have p9 := (p9.front 0 _ rfl).drop
  refine Goes.runs 1 [] [.inRegion (opsOf (sub [1, 1, 1, 1, 0, 1, 0, 0, 1, 1, 0, 0, 1, 1, 0, 1, 0, 1, 1] B29)) [0, 1, 2], .inBlock 4] (by kernel_rfl) ?_
  refine Op_.ld1 3 (.tmp 2) 61 3 ⟨gkq2, 0, none⟩ (.int .i64 kq2v_0) (Goes.vs (by kernel_rfl)) (by kernel_rfl) (by kernel_rfl) ((p9.mem 1 rfl).cell 0 _ rfl) ?_
  refine Goes.runs 1 [(62, .int .i64 (wr .i64 (kq2v_0 + 1)))] [.inRegion (opsOf (sub [1, 1, 1, 1, 0, 1, 0, 0, 1, 1, 0, 0, 1, 1, 0, 1, 0, 1, 1] B29)) [2], .inBlock 4] (by kernel_rfl) ?_
  refine Op_.st 3 (.tmp 2) (.tmp 62) 0 1 gkq2 0 (.int .i64 (wr .i64 (kq2v_0 + 1))) [.int .i64 (wr .i64 (kq2v_0 + 1))] p9 rfl (Goes.ss (by kernel_rfl)) (by kernel_rfl) (by kernel_rfl) (by kernel_rfl) (by kernel_rfl) (Nat.zero_le _) (by simp only [List.length_cons, List.length_nil]; omega) (by simp [Value.oneCell']) ?_
  intro w10 z10 p10
  refine Goes.runs 2 [] [] (by kernel_rfl) ?_
  obtain rfl := Option.some.inj h
  refine Goes.endR 0 p10 rfl ?_
  intro w11 z11 p11
  exact ⟨S7, G18, (kq8v_0 ++ (sl y6 0 256)).length, c19, cs20, Akq51b0v_0, kq51b0v_0.length, ckq51b0v_0, rfl, (((((((((((Ext.refl S0 w0).trans z2).trans z3).trans z4).trans z5).trans z6).trans z7).trans z8).trans z9).trans z10).trans z11), p11, (f21.ext ((z9.trans z10).trans z11)), rfl, (fkq51b0v_0.ext (((((((((z2.trans z3).trans z4).trans z5).trans z6).trans z7).trans z8).trans z9).trans z10).trans z11)), rfl⟩

/-! tidepole/frame.pieces$1 -/
def Post.frame_pieces_1 (nz : Nat) (wz : World) (S0 : Fz) (w0 : World) (Lr : List Ent) (lx0 : Nat) (rx0 : Nat) (jkx0 : Nat → Value) (gx0q2 : Nat) (gx0q8 : Nat) (Ax0q44 : Option Addr) (nx0q44 : Nat) (cx0q44 : Nat) (gx0q51b0 : Nat) (x0q44 : List (List Int)) (x0q45 : Int) (x0q46 : Int) (r : Int × (List Int) × (List Int)) (v : Value) (w' : World) : Prop :=
  ∃ (S' : Fz) (Ge2v_0 : Option Nat) (ne2v_0 : Nat) (ce2v_0 : Nat) (cse2v_0 : List Value) (Ae3v_0 : Option Addr) (ne3v_0 : Nat) (ce3v_0 : Nat), v = .tuple #[] ∧ Ext S0 w0 S' w' ∧ Hp nz wz S' w' ((some lx0, .obj (lpst 29 (lfr 65 [(2, .pointer (some ⟨gx0q2, 0, none⟩)), (8, .pointer (some ⟨gx0q8, 0, none⟩)), (44, .slice Ax0q44 nx0q44 cx0q44), (45, .int .i64 x0q45), (46, .int .i64 x0q46), (51, .func (.func 46) #[] #[.pointer (some ⟨gx0q51b0, 0, none⟩)])] jkx0) #[52, 53] (rfAssign (sub [1, 1, 1, 1, 0, 1, 0, 0, 1, 1, 0, 0, 1, 1, 0] B29)) (rfBody (sub [1, 1, 1, 1, 0, 1, 0, 0, 1, 1, 0, 0, 1, 1, 0] B29)) rx0 .ready none)) :: (some gx0q2, .row 3 [.int .i64 r.1] 1 0) :: (some gx0q8, .row 23 [.slice (Gp Ge2v_0) ne2v_0 ce2v_0] 1 0) :: (Ge2v_0, .row 5 cse2v_0 (ce2v_0 * (kInt .u8).size) 0) :: (some gx0q51b0, .row 23 [.slice Ae3v_0 ne3v_0 ce3v_0] 1 0) :: Lr) ∧ Els (kInt .u8) S' w' cse2v_0 r.2.1 ∧ r.2.1.length = ne2v_0 ∧ Rd (kInt .u8) S' w' Ae3v_0 ce3v_0 r.2.2 ∧ r.2.2.length = ne3v_0

def L.frame_pieces_1_l0 (nz : Nat) (wz : World) (S0 : Fz) (w0 : World) (Lr : List Ent) (lx0 : Nat) (rx0 : Nat) (jkx0 : Nat → Value) (gx0q2 : Nat) (gx0q8 : Nat) (Ax0q44 : Option Addr) (nx0q44 : Nat) (cx0q44 : Nat) (gx0q51b0 : Nat) : Int × Int × (List Int) × (List Int) × (List (List Int)) × Int × Int → (Int × (List Int) × (List Int)) → Prop := fun ⟨x3, e1v_0, e2v_0, e3v_0, x0q44, x0q45, x0q46⟩ r => ∀ S1 w1, Ext S0 w0 S1 w1 → ∀ (Ge2v_0 : Option Nat) (ne2v_0 : Nat) (ce2v_0 : Nat) (cse2v_0 : List Value) (Ae3v_0 : Option Addr) (ne3v_0 : Nat) (ce3v_0 : Nat) (_ : Hp nz wz S1 w1 ((some lx0, .obj (lpst 29 (lfr 65 [(2, .pointer (some ⟨gx0q2, 0, none⟩)), (8, .pointer (some ⟨gx0q8, 0, none⟩)), (44, .slice Ax0q44 nx0q44 cx0q44), (45, .int .i64 x0q45), (46, .int .i64 x0q46), (51, .func (.func 46) #[] #[.pointer (some ⟨gx0q51b0, 0, none⟩)])] jkx0) #[52, 53] (rfAssign (sub [1, 1, 1, 1, 0, 1, 0, 0, 1, 1, 0, 0, 1, 1, 0] B29)) (rfBody (sub [1, 1, 1, 1, 0, 1, 0, 0, 1, 1, 0, 0, 1, 1, 0] B29)) rx0 .ready none)) :: (some gx0q2, .row 3 [.int .i64 e1v_0] 1 0) :: (some gx0q8, .row 23 [.slice (Gp Ge2v_0) ne2v_0 ce2v_0] 1 0) :: (Ge2v_0, .row 5 cse2v_0 (ce2v_0 * (kInt .u8).size) 0) :: (some gx0q51b0, .row 23 [.slice Ae3v_0 ne3v_0 ce3v_0] 1 0) :: Lr)) (_ : Rd (kSl (kInt .u8)) S1 w1 Ax0q44 cx0q44 x0q44) (_ : x0q44.length = nx0q44) (_ : Els (kInt .u8) S1 w1 cse2v_0 e2v_0) (_ : e2v_0.length = ne2v_0) (_ : Rd (kInt .u8) S1 w1 Ae3v_0 ce3v_0 e3v_0) (_ : e3v_0.length = ne3v_0) (junk : Nat → Value),
  Goes Try.prog (base 46) [.code (sub [1, 0, 0, 0] B46), .inLoop (sub [1, 0, 0, 0] B46), .inBlock 0, .code (sub [1, 1] B46)] ⟨lfr 20 [(0, yieldV lx0), (1, .pointer (some ⟨gx0q51b0, 0, none⟩)), (3, .int .u8 x3)] junk, []⟩ w1 (Done Try.prog 46 (Rets (Post.frame_pieces_1 nz wz S0 w0 Lr lx0 rx0 jkx0 gx0q2 gx0q8 Ax0q44 nx0q44 cx0q44 gx0q51b0 x0q44 x0q45 x0q46 r)))

theorem W.frame_pieces_1_l0 (nz : Nat) (wz : World) (S0 : Fz) (w0 : World) (Lr : List Ent) (lx0 : Nat) (rx0 : Nat) (jkx0 : Nat → Value) (gx0q2 : Nat) (gx0q8 : Nat) (Ax0q44 : Option Addr) (nx0q44 : Nat) (cx0q44 : Nat) (gx0q51b0 : Nat) : ∀ a r, M.frame_pieces_1_l0 a = some r → (L.frame_pieces_1_l0 nz wz S0 w0 Lr lx0 rx0 jkx0 gx0q2 gx0q8 Ax0q44 nx0q44 cx0q44 gx0q51b0) a r := by
  refine M.frame_pieces_1_l0.partial_correctness (motive := (L.frame_pieces_1_l0 nz wz S0 w0 Lr lx0 rx0 jkx0 gx0q2 gx0q8 Ax0q44 nx0q44 cx0q44 gx0q51b0)) ?_
  intro rec_frame_pieces_1_l0 ih_frame_pieces_1_l0 ⟨x3, e1v_0, e2v_0, e3v_0, x0q44, x0q45, x0q46⟩ r h S1 w1 hx Ge2v_0 ne2v_0 ce2v_0 cse2v_0 Ae3v_0 ne3v_0 ce3v_0 p1 fl0_1 ll1_1 fe2v_0 le2v_0 fe3v_0 le3v_0 junk
  dsimp only at h
  subst le2v_0
  subst le3v_0
  refine Goes.runs 3 [] [.inRegion (opsOf (sub [1, 0, 0, 0, 0, 0] B46)) [0, 1, 2], .code (sub [1, 0, 0, 0, 0, 1] B46), .code (sub [1, 0, 0, 0, 1] B46), .inLoop (sub [1, 0, 0, 0] B46), .inBlock 0, .code (sub [1, 1] B46)] (by kernel_rfl) ?_
  refine Op_.ld1 23 (.tmp 1) 4 23 ⟨gx0q51b0, 0, none⟩ (.slice Ae3v_0 e3v_0.length ce3v_0) (Goes.vs (by kernel_rfl)) (by kernel_rfl) (by kernel_rfl) ((p1.mem 4 rfl).cell 0 _ rfl) ?_
  refine Goes.runs 3 [(5, .int .i64 (e3v_0.length : Int)), (6, .bool (decide ((e3v_0.length : Int) > 244)))] [.code (sub [1, 0, 0, 0, 0, 1] B46), .code (sub [1, 0, 0, 0, 1] B46), .inLoop (sub [1, 0, 0, 0] B46), .inBlock 0, .code (sub [1, 1] B46)] (by kernel_rfl) ?_
  refine ite_some h (fun h7 h => ?_) (fun h7 h => ?_)
  · rw [decide_eq_true h7]
    refine Goes.runs 7 [(7, yieldV lx0)] [.inRegion (opsOf (sub [1, 0, 0, 0, 1, 0, 0, 0] B46)) [1, 2, 3, 4, 5], .code (sub [1, 0, 0, 0, 1, 0, 0, 1] B46), .code (sub [1, 0, 0, 0, 1, 0, 1] B46), .inBlock 1, .inLoop (sub [1, 0, 0, 0] B46), .inBlock 0, .code (sub [1, 1] B46)] (by kernel_rfl) ?_
    refine Op_.ld1 23 (.tmp 1) 8 23 ⟨gx0q51b0, 0, none⟩ (.slice Ae3v_0 e3v_0.length ce3v_0) (Goes.vs (by kernel_rfl)) (by kernel_rfl) (by kernel_rfl) ((p1.mem 4 rfl).cell 0 _ rfl) ?_
    refine guard_some' h fun g8 h => ?_
    refine Op_.slR_n 23 (.tmp 8) none (some (.const (.int .i64 244))) 9 23 5 0 244 (sl e3v_0 0 244) rfl rfl fe3v_0 (Goes.vs (by kernel_rfl)) (by kernel_rfl) (by kernel_rfl) (by kernel_rfl) Bnd.no (Bnd.at_ .i64 (by kernel_rfl)) (by decide : (0 : Int) ≤ 0) (by decide : (0 : Int) ≤ 244) g8 ?_
    intro A9 c10 f11
    refine Goes.runs 1 [(10, .int .u8 x3)] [.inRegion (opsOf (sub [1, 0, 0, 0, 1, 0, 0, 0] B46)) [4, 5], .code (sub [1, 0, 0, 0, 1, 0, 0, 1] B46), .code (sub [1, 0, 0, 0, 1, 0, 1] B46), .inBlock 1, .inLoop (sub [1, 0, 0, 0] B46), .inBlock 0, .code (sub [1, 1] B46)] (by kernel_rfl) ?_
    refine bind_some' h fun y12 e13 h => ?_
    refine Goes.yieldAt (.call { callee := .value (.tmp 7), args := #[(.tmp 9), (.tmp 10)], argTypes := #[23, 5] }) 11 4 0 lx0 #[.slice A9 ((sl e3v_0 0 244).length) c10, .int .u8 x3] p1 rfl (by kernel_rfl) rfl (fun _ => by kernel_rfl) rfl (W.frame_Write_r e1v_0 e2v_0 x0q44 x0q45 x0q46 e3v_0 (sl e3v_0 0 244) x3 y12 e13 nz wz S1 w1 (Lr) lx0 rx0 jkx0 gx0q2 gx0q8 Ge2v_0 e2v_0.length ce2v_0 cse2v_0 Ax0q44 nx0q44 cx0q44 gx0q51b0 Ae3v_0 e3v_0.length ce3v_0 A9 ((sl e3v_0 0 244).length) c10 p1 fe2v_0 rfl fl0_1 ll1_1 fe3v_0 rfl f11 rfl) ?_
    rintro _ w2 ⟨S2, Ge2_2v_0, ne2_2v_0, ce2_2v_0, cse2_2v_0, Ae3_2v_0, ne3_2v_0, ce3_2v_0, rfl, z2, p2, fe2_2v_0, rfl, fe3_2v_0, rfl⟩
    refine Goes.runs 5 [(12, .bool (!true))] [.inRegion (opsOf (sub [1, 0, 0, 0, 1, 0, 1] B46)) [0, 1, 2, 3], .inBlock 1, .inLoop (sub [1, 0, 0, 0] B46), .inBlock 0, .code (sub [1, 1] B46)] (by kernel_rfl) ?_
    refine Op_.ld1 23 (.tmp 1) 13 23 ⟨gx0q51b0, 0, none⟩ (.slice Ae3_2v_0 y12.2.2.length ce3_2v_0) (Goes.vs (by kernel_rfl)) (by kernel_rfl) (by kernel_rfl) ((p2.mem 4 rfl).cell 0 _ rfl) ?_
    refine guard_some' h fun g15 h => ?_
    refine Op_.slR_n 23 (.tmp 13) (some (.const (.int .i64 244))) none 14 23 5 244 (y12.2.2.length : Int) (sl y12.2.2 244 (y12.2.2.length : Int)) rfl rfl fe3_2v_0 (Goes.vs (by kernel_rfl)) (by kernel_rfl) (by kernel_rfl) (by kernel_rfl) (Bnd.at_ .i64 (by kernel_rfl)) Bnd.no (by decide : (0 : Int) ≤ 244) g15 (Int.le_refl _) ?_
    intro A16 c17 f18
    refine Op_.st 23 (.tmp 1) (.tmp 14) 0 4 gx0q51b0 0 (.slice A16 ((sl y12.2.2 244 (y12.2.2.length : Int)).length) c17) [.slice A16 ((sl y12.2.2 244 (y12.2.2.length : Int)).length) c17] p2 rfl (Goes.ss (by kernel_rfl)) (by kernel_rfl) (by kernel_rfl) (by kernel_rfl) (by kernel_rfl) (Nat.zero_le _) (by simp only [List.length_cons, List.length_nil]; omega) (by simp [Value.oneCell']) ?_
    intro w3 z3 p3
    refine Goes.runs 4 [(3, .int .u8 0)] [.code (sub [1, 0, 0, 0] B46), .inLoop (sub [1, 0, 0, 0] B46), .inBlock 0, .code (sub [1, 1] B46)] (by kernel_rfl) ?_
    exact Goes.jump 20 [(0, yieldV lx0), (1, .pointer (some ⟨gx0q51b0, 0, none⟩)), (3, .int .u8 0)] (by kernel_rfl) (ih_frame_pieces_1_l0 _ _ h _ _ ((hx.trans z2).trans z3) Ge2_2v_0 y12.2.1.length ce2_2v_0 cse2_2v_0 A16 ((sl y12.2.2 244 (y12.2.2.length : Int)).length) c17 p3 (fl0_1.ext (z2.trans z3)) ll1_1 (fe2_2v_0.ext z3) rfl (f18.ext z3) rfl)
  · rw [decide_eq_false h7]
    refine Goes.runs 4 [(15, yieldV lx0)] [.inRegion (opsOf (sub [1, 1] B46)) [1, 2, 3, 4]] (by kernel_rfl) ?_
    refine Op_.ld1 23 (.tmp 1) 16 23 ⟨gx0q51b0, 0, none⟩ (.slice Ae3v_0 e3v_0.length ce3v_0) (Goes.vs (by kernel_rfl)) (by kernel_rfl) (by kernel_rfl) ((p1.mem 4 rfl).cell 0 _ rfl) ?_
    refine Goes.runs 2 [(17, .int .u8 x3), (18, .int .u8 (ior .u8 x3 2))] [.inRegion (opsOf (sub [1, 1] B46)) [4]] (by kernel_rfl) ?_
    refine bind_some' h fun y19 e20 h => ?_
    refine Goes.yieldAt (.call { callee := .value (.tmp 15), args := #[(.tmp 16), (.tmp 18)], argTypes := #[23, 5] }) 19 4 0 lx0 #[.slice Ae3v_0 e3v_0.length ce3v_0, .int .u8 (ior .u8 x3 2)] p1 rfl (by kernel_rfl) rfl (fun _ => by kernel_rfl) rfl (W.frame_Write_r e1v_0 e2v_0 x0q44 x0q45 x0q46 e3v_0 e3v_0 (ior .u8 x3 2) y19 e20 nz wz S1 w1 (Lr) lx0 rx0 jkx0 gx0q2 gx0q8 Ge2v_0 e2v_0.length ce2v_0 cse2v_0 Ax0q44 nx0q44 cx0q44 gx0q51b0 Ae3v_0 e3v_0.length ce3v_0 Ae3v_0 e3v_0.length ce3v_0 p1 fe2v_0 rfl fl0_1 ll1_1 fe3v_0 rfl fe3v_0 rfl) ?_
    rintro _ w4 ⟨S4, Ge2_4v_0, ne2_4v_0, ce2_4v_0, cse2_4v_0, Ae3_4v_0, ne3_4v_0, ce3_4v_0, rfl, z4, p4, fe2_4v_0, rfl, fe3_4v_0, rfl⟩
    refine Goes.runs 1 [] [] (by kernel_rfl) ?_
    obtain rfl := Option.some.inj h
    exact Goes.end_ (fn := Try.f46) (by kernel_rfl) (v := .tuple #[]) (by kernel_rfl) ⟨S4, Ge2_4v_0, y19.2.1.length, ce2_4v_0, cse2_4v_0, Ae3_4v_0, y19.2.2.length, ce3_4v_0, rfl, (hx.trans z4), p4, fe2_4v_0, rfl, fe3_4v_0, rfl⟩

/-! tidepole/frame.pieces$1 -/
theorem W.frame_pieces_1 (x0q2v_0 : Int) (x0q8v_0 : List Int) (x0q44 : List (List Int)) (x0q45 : Int) (x0q46 : Int) (x0q51b0v_0 : List Int) (r : Int × (List Int) × (List Int)) (h : M.frame_pieces_1 x0q2v_0 x0q8v_0 x0q44 x0q45 x0q46 x0q51b0v_0 = some r) (nz : Nat) (wz : World) (S0 : Fz) (w0 : World) (Lr : List Ent) (lx0 : Nat) (rx0 : Nat) (jkx0 : Nat → Value) (gx0q2 : Nat) (gx0q8 : Nat) (Gx0q8v_0 : Option Nat) (nx0q8v_0 : Nat) (cx0q8v_0 : Nat) (csx0q8v_0 : List Value) (Ax0q44 : Option Addr) (nx0q44 : Nat) (cx0q44 : Nat) (gx0q51b0 : Nat) (Ax0q51b0v_0 : Option Addr) (nx0q51b0v_0 : Nat) (cx0q51b0v_0 : Nat) (p0 : Hp nz wz S0 w0 ((some lx0, .obj (lpst 29 (lfr 65 [(2, .pointer (some ⟨gx0q2, 0, none⟩)), (8, .pointer (some ⟨gx0q8, 0, none⟩)), (44, .slice Ax0q44 nx0q44 cx0q44), (45, .int .i64 x0q45), (46, .int .i64 x0q46), (51, .func (.func 46) #[] #[.pointer (some ⟨gx0q51b0, 0, none⟩)])] jkx0) #[52, 53] (rfAssign (sub [1, 1, 1, 1, 0, 1, 0, 0, 1, 1, 0, 0, 1, 1, 0] B29)) (rfBody (sub [1, 1, 1, 1, 0, 1, 0, 0, 1, 1, 0, 0, 1, 1, 0] B29)) rx0 .ready none)) :: (some gx0q2, .row 3 [.int .i64 x0q2v_0] 1 0) :: (some gx0q8, .row 23 [.slice (Gp Gx0q8v_0) nx0q8v_0 cx0q8v_0] 1 0) :: (Gx0q8v_0, .row 5 csx0q8v_0 (cx0q8v_0 * (kInt .u8).size) 0) :: (some gx0q51b0, .row 23 [.slice Ax0q51b0v_0 nx0q51b0v_0 cx0q51b0v_0] 1 0) :: Lr)) (fx0q8v_0 : Els (kInt .u8) S0 w0 csx0q8v_0 x0q8v_0) (lx0q8v_0 : x0q8v_0.length = nx0q8v_0) (fx0q44 : Rd (kSl (kInt .u8)) S0 w0 Ax0q44 cx0q44 x0q44) (lx0q44 : x0q44.length = nx0q44) (fx0q51b0v_0 : Rd (kInt .u8) S0 w0 Ax0q51b0v_0 cx0q51b0v_0 x0q51b0v_0) (lx0q51b0v_0 : x0q51b0v_0.length = nx0q51b0v_0) :
    Calls Try.prog 46 #[yieldV lx0, .pointer (some ⟨gx0q51b0, 0, none⟩)] w0 (Rets (Post.frame_pieces_1 nz wz S0 w0 Lr lx0 rx0 jkx0 gx0q2 gx0q8 Ax0q44 nx0q44 cx0q44 gx0q51b0 x0q44 x0q45 x0q46 r)) := by
  subst lx0q8v_0
  subst lx0q44
  subst lx0q51b0v_0
  refine calls_of_goes (fn := Try.f46) (c := B46) (by kernel_rfl) (by kernel_rfl) 18 (by kernel_rfl) ?_
  refine Goes.jump 20 [(0, yieldV lx0), (1, .pointer (some ⟨gx0q51b0, 0, none⟩))] (by kernel_rfl) (fun junk => ?_)
  delta M.frame_pieces_1 at h
  refine Goes.runs 7 [(3, .int .u8 1)] [.code (sub [1, 0, 0, 0] B46), .inLoop (sub [1, 0, 0, 0] B46), .inBlock 0, .code (sub [1, 1] B46)] (by kernel_rfl) ?_
  exact Goes.jump 20 [(0, yieldV lx0), (1, .pointer (some ⟨gx0q51b0, 0, none⟩)), (3, .int .u8 1)] (by kernel_rfl) (W.frame_pieces_1_l0 nz wz S0 w0 Lr lx0 rx0 jkx0 gx0q2 gx0q8 Ax0q44 x0q44.length cx0q44 gx0q51b0 _ _ h _ _ (Ext.refl S0 w0) Gx0q8v_0 x0q8v_0.length cx0q8v_0 csx0q8v_0 Ax0q51b0v_0 x0q51b0v_0.length cx0q51b0v_0 p0 fx0q44 rfl fx0q8v_0 rfl fx0q51b0v_0 rfl)

/-! tidepole/frame.Write -/
def Post.frame_Write (nz : Nat) (wz : World) (S0 : Fz) (w0 : World) (Lr : List Ent) (r : (List Int) × Int) (v : Value) (w' : World) : Prop :=
  ∃ (S' : Fz) (Gq_0 : Option Nat) (nq_0 : Nat) (cq_0 : Nat) (csq_0 : List Value), v = .tuple #[.slice (Gp Gq_0) nq_0 cq_0, .int .i64 r.2] ∧ Ext S0 w0 S' w' ∧ Hp nz wz S' w' ((Gq_0, .row 5 csq_0 (cq_0 * (kInt .u8).size) 0) :: Lr) ∧ Els (kInt .u8) S' w' csq_0 r.1 ∧ r.1.length = nq_0

def L.frame_Write_l1 (nz : Nat) (wz : World) (S0 : Fz) (w0 : World) (Lr : List Ent) : Int × (List Int) × (List (List Int)) × Int × Int → ((List Int) × Int) → Prop := fun ⟨x2v_0, x8v_0, x44, x45, x46⟩ r => ∀ S1 w1, Ext S0 w0 S1 w1 → ∀ (gx2 : Nat) (gx8 : Nat) (Gx8v_0 : Option Nat) (nx8v_0 : Nat) (cx8v_0 : Nat) (csx8v_0 : List Value) (Ax44 : Option Addr) (nx44 : Nat) (cx44 : Nat) (rs : List Nat) (_ : Hp nz wz S1 w1 ((some gx2, .row 3 [.int .i64 x2v_0] 1 0) :: (some gx8, .row 23 [.slice (Gp Gx8v_0) nx8v_0 cx8v_0] 1 0) :: (Gx8v_0, .row 5 csx8v_0 (cx8v_0 * (kInt .u8).size) 0) :: (rs.map dE ++ Lr))) (_ : Els (kInt .u8) S1 w1 csx8v_0 x8v_0) (_ : x8v_0.length = nx8v_0) (_ : Rd (kSl (kInt .u8)) S1 w1 Ax44 cx44 x44) (_ : x44.length = nx44) (junk : Nat → Value),
  Goes Try.prog (base 29) [.code (sub [1, 1, 1, 1, 0, 1, 0, 0] B29), .inLoop (sub [1, 1, 1, 1, 0, 1, 0, 0] B29), .inBlock 1, .code (sub [1, 1, 1, 1, 1] B29)] ⟨lfr 65 [(2, .pointer (some ⟨gx2, 0, none⟩)), (8, .pointer (some ⟨gx8, 0, none⟩)), (44, .slice Ax44 nx44 cx44), (45, .int .i64 x45), (46, .int .i64 x46)] junk, rs.map mark⟩ w1 (Done Try.prog 29 (Rets (Post.frame_Write nz wz S0 w0 Lr r)))

theorem W.frame_Write_l1 (nz : Nat) (wz : World) (S0 : Fz) (w0 : World) (Lr : List Ent) : ∀ a r, M.frame_Write_l1 a = some r → (L.frame_Write_l1 nz wz S0 w0 Lr) a r := by
  refine M.frame_Write_l1.partial_correctness (motive := (L.frame_Write_l1 nz wz S0 w0 Lr)) ?_
  intro rec_frame_Write_l1 ih_frame_Write_l1 ⟨x2v_0, x8v_0, x44, x45, x46⟩ r h S1 w1 hx gx2 gx8 Gx8v_0 nx8v_0 cx8v_0 csx8v_0 Ax44 nx44 cx44 rs p1 fx8v_0 lx8v_0 fx44 lx44 junk
  dsimp only at h
  subst lx8v_0
  subst lx44
  refine Goes.runs 5 [(47, .bool (decide (x46 < x45)))] [.code (sub [1, 1, 1, 1, 0, 1, 0, 0, 1, 0] B29), .code (sub [1, 1, 1, 1, 0, 1, 0, 0, 1, 1] B29), .inLoop (sub [1, 1, 1, 1, 0, 1, 0, 0] B29), .inBlock 1, .code (sub [1, 1, 1, 1, 1] B29)] (by kernel_rfl) ?_
  refine ite_some h (fun h24 h => ?_) (fun h24 h => ?_)
  · rw [decide_eq_true h24]
    refine Goes.runs 6 [] [.inRegion (opsOf (sub [1, 1, 1, 1, 0, 1, 0, 0, 1, 1, 0, 0, 0] B29)) [0, 1, 2], .code (sub [1, 1, 1, 1, 0, 1, 0, 0, 1, 1, 0, 0, 1] B29), .inBlock 2, .code (sub [1, 1, 1, 1, 0, 1, 0, 0, 1, 1, 1] B29), .inLoop (sub [1, 1, 1, 1, 0, 1, 0, 0] B29), .inBlock 1, .code (sub [1, 1, 1, 1, 1] B29)] (by kernel_rfl) ?_
    refine guard_some' h fun g25 h => ?_
    refine guard_some' h fun g26 h => ?_
    refine Op_.ixR_n 41 (.tmp 44) (.tmp 46) 48 0 23 .i64 x46 (gi x44 x46) rfl rfl fx44 (Goes.vs (by kernel_rfl)) (by kernel_rfl) (by kernel_rfl) (by kernel_rfl) (by kernel_rfl) g25 g26 ?_
    intro a27 _ f28 q29
    obtain ⟨A30, c31, rfl, f32⟩ := q29
    refine Op_.ld1 23 (.tmp 48) 49 23 a27 (.slice A30 ((gi x44 x46).length) c31) (Goes.vs (by kernel_rfl)) (by kernel_rfl) (by kernel_rfl) (f28.cell 0 _ rfl) ?_
    refine Goes.runs 5 [(10, .slice A30 ((gi x44 x46).length) c31), (50, .slice A30 ((gi x44 x46).length) c31)] [.inRegion (opsOf (sub [1, 1, 1, 1, 0, 1, 0, 0, 1, 1, 0, 0, 1, 0] B29)) [1], .code (sub [1, 1, 1, 1, 0, 1, 0, 0, 1, 1, 0, 0, 1, 1] B29), .inBlock 2, .code (sub [1, 1, 1, 1, 0, 1, 0, 0, 1, 1, 1] B29), .inLoop (sub [1, 1, 1, 1, 0, 1, 0, 0] B29), .inBlock 1, .code (sub [1, 1, 1, 1, 1] B29)] (by kernel_rfl) ?_
    refine bind_some' h fun y33 e34 h => ?_
    refine Op_.call (.call { callee := .value (.func 40), args := #[(.tmp 50)], argTypes := #[23] }) 51 63 40 #[.slice A30 ((gi x44 x46).length) c31] (Goes.cs (by kernel_rfl)) (by kernel_rfl) (W.frame_pieces (gi x44 x46) y33 e34 nz wz S1 w1 ((some gx2, .row 3 [.int .i64 x2v_0] 1 0) :: (some gx8, .row 23 [.slice (Gp Gx8v_0) x8v_0.length cx8v_0] 1 0) :: (Gx8v_0, .row 5 csx8v_0 (cx8v_0 * (kInt .u8).size) 0) :: (rs.map dE ++ Lr)) A30 ((gi x44 x46).length) c31 p1 f32 rfl) ?_
    rintro _ w7 ⟨S7, gr_7b0, Ar_7b0v_0, nr_7b0v_0, cr_7b0v_0, rfl, z7, p7, fr_7b0v_0, rfl⟩
    refine Goes.runs 2 [] [.code (sub [1, 1, 1, 1, 0, 1, 0, 0, 1, 1, 0, 0, 1, 1, 0] B29), .inBlock 3, .inBlock 2, .code (sub [1, 1, 1, 1, 0, 1, 0, 0, 1, 1, 1] B29), .inLoop (sub [1, 1, 1, 1, 0, 1, 0, 0] B29), .inBlock 1, .code (sub [1, 1, 1, 1, 1] B29)] (by kernel_rfl) ?_
    refine Goes.jump 65 [(2, .pointer (some ⟨gx2, 0, none⟩)), (8, .pointer (some ⟨gx8, 0, none⟩)), (44, .slice Ax44 x44.length cx44), (45, .int .i64 x45), (46, .int .i64 x46), (51, .func (.func 46) #[] #[.pointer (some ⟨gr_7b0, 0, none⟩)])] (by kernel_rfl) (fun junk36 => ?_)
    refine Goes.rangeF (f := 29) (.tmp 51) #[52, 53] 46 #[] #[.pointer (some ⟨gr_7b0, 0, none⟩)] (by kernel_rfl) (by kernel_rfl) (fun _ => by kernel_rfl) p7 ?_
    intro r37 l38 w8 z8 p8
    have p8 := p8.front 2 _ rfl
    have p8 := p8.front 5 _ rfl
    have p8 := p8.front 5 _ rfl
    have p8 := p8.front 5 _ rfl
    have p8 := p8.front 4 _ rfl
    refine bind_some' h fun y41 e42 h => ?_
    refine ⟨_, W.frame_pieces_1 x2v_0 x8v_0 x44 x45 x46 y33 y41 e42 nz wz S7 w8 ((some r37, .obj (.deferred (some []))) :: (rs.map dE ++ Lr)) l38 r37 junk36 gx2 gx8 Gx8v_0 x8v_0.length cx8v_0 csx8v_0 Ax44 x44.length cx44 gr_7b0 Ar_7b0v_0 y33.length cr_7b0v_0 p8 (fx8v_0.ext (z7.trans z8)) rfl (fx44.ext (z7.trans z8)) rfl (fr_7b0v_0.ext z8) rfl, ?_⟩
    rintro _ w9 ⟨S9, Ge2_9v_0, ne2_9v_0, ce2_9v_0, cse2_9v_0, Ae3_9v_0, ne3_9v_0, ce3_9v_0, rfl, z9, p9, fe2_9v_0, rfl, fe3_9v_0, rfl⟩
    refine Goes.endF 0 p9 rfl rfl ?_
    intro w10 z10 p10
    replace p10 : Hp nz wz S9 w10 ((some gx2, .row 3 [.int .i64 y41.1] 1 0) :: (some gx8, .row 23 [.slice (Gp Ge2_9v_0) y41.2.1.length ce2_9v_0] 1 0) :: (Ge2_9v_0, .row 5 cse2_9v_0 (ce2_9v_0 * (kInt .u8).size) 0) :: (some gr_7b0, .row 23 [.slice Ae3_9v_0 y41.2.2.length ce3_9v_0] 1 0) :: (some r37, .obj (.deferred (some []))) :: (rs.map dE ++ Lr)) := (p10.front 0 _ rfl).drop
    show Goes _ _ [.inBlock 3, .inBlock 2, .code (sub [1, 1, 1, 1, 0, 1, 0, 0, 1, 1, 1] B29), .inLoop (sub [1, 1, 1, 1, 0, 1, 0, 0] B29), .inBlock 1, .code (sub [1, 1, 1, 1, 1] B29)] _ _ _
    refine Goes.runs 7 [(63, .int .i64 (wr .i64 (x46 + 1))), (46, .int .i64 (wr .i64 (x46 + 1)))] [.code (sub [1, 1, 1, 1, 0, 1, 0, 0] B29), .inLoop (sub [1, 1, 1, 1, 0, 1, 0, 0] B29), .inBlock 1, .code (sub [1, 1, 1, 1, 1] B29)] (by kernel_rfl) ?_
    have p10 := (p10.front 3 _ rfl).drop
    exact Goes.jump 65 [(2, .pointer (some ⟨gx2, 0, none⟩)), (8, .pointer (some ⟨gx8, 0, none⟩)), (44, .slice Ax44 x44.length cx44), (45, .int .i64 x45), (46, .int .i64 (wr .i64 (x46 + 1)))] (by kernel_rfl) (ih_frame_Write_l1 _ _ h _ _ ((((hx.trans z7).trans z8).trans z9).trans z10) gx2 gx8 Ge2_9v_0 y41.2.1.length ce2_9v_0 cse2_9v_0 Ax44 x44.length cx44 (r37 :: rs) p10 (fe2_9v_0.ext z10) rfl (fx44.ext (((z7.trans z8).trans z9).trans z10)) rfl)
  · rw [decide_eq_false h24]
    refine Goes.runs 4 [] [.inRegion (opsOf (sub [1, 1, 1, 1, 1, 0] B29)) [0, 1, 2], .code (sub [1, 1, 1, 1, 1, 1] B29)] (by kernel_rfl) ?_
    refine Op_.ld1 23 (.tmp 8) 64 23 ⟨gx8, 0, none⟩ (.slice (Gp Gx8v_0) x8v_0.length cx8v_0) (Goes.vs (by kernel_rfl)) (by kernel_rfl) (by kernel_rfl) ((p1.mem 1 rfl).cell 0 _ rfl) ?_
    refine Goes.runs 3 [(4, .slice (Gp Gx8v_0) x8v_0.length cx8v_0), (5, .int .i64 0)] [.code (sub [1, 1, 1, 1, 1, 1] B29)] (by kernel_rfl) ?_
    obtain rfl := Option.some.inj h
    have p1 := (p1.front 0 _ rfl).drop
    have p1 := (p1.front 0 _ rfl).drop
    refine Goes.retL ?_
    refine lvs_marks0 [(Gx8v_0, .row 5 csx8v_0 (cx8v_0 * (kInt .u8).size) 0)] rs rfl rfl p1 ?_
    intro w11 z11 p11
    replace p11 : Hp nz wz S1 w11 ((Gx8v_0, .row 5 csx8v_0 (cx8v_0 * (kInt .u8).size) 0) :: Lr) := p11
    exact lvs_done (fn := Try.f29) rfl rfl rfl rfl (by kernel_rfl) (v := .tuple #[.slice (Gp Gx8v_0) x8v_0.length cx8v_0, .int .i64 0]) (by kernel_rfl) ⟨S1, Gx8v_0, x8v_0.length, cx8v_0, csx8v_0, rfl, (hx.trans z11), p11, (fx8v_0.ext z11), rfl⟩

/-! tidepole/frame.Write -/
def L.frame_Write_l0 (nz : Nat) (wz : World) (S0 : Fz) (w0 : World) (Lr : List Ent) : (List (List Int)) × Int × Int × Bool → ((List Int) × Int) → Prop := fun ⟨x1, x2v_0, x6, x23⟩ r => ∀ S1 w1, Ext S0 w0 S1 w1 → ∀ (Ax1 : Option Addr) (nx1 : Nat) (cx1 : Nat) (gx2 : Nat) (_ : Hp nz wz S1 w1 ((some gx2, .row 3 [.int .i64 x2v_0] 1 0) :: Lr)) (_ : Rd (kSl (kInt .u8)) S1 w1 Ax1 cx1 x1) (_ : x1.length = nx1) (junk : Nat → Value),
  Goes Try.prog (base 29) [.code (sub [1, 1, 0, 0, 1, 1, 1] B29), .inBlock 0, .code (sub [1, 1, 1] B29)] ⟨lfr 65 [(1, .slice Ax1 nx1 cx1), (2, .pointer (some ⟨gx2, 0, none⟩)), (6, .int .i64 x6), (23, .bool x23)] junk, []⟩ w1 (Done Try.prog 29 (Rets (Post.frame_Write nz wz S0 w0 Lr r)))

theorem W.frame_Write_l0 (nz : Nat) (wz : World) (S0 : Fz) (w0 : World) (Lr : List Ent) : ∀ a r, M.frame_Write_l0 a = some r → L.frame_Write_l0 nz wz S0 w0 Lr a r := by
  intro ⟨x1, x2v_0, x6, x23⟩ r h S1 w1 hx Ax1 nx1 cx1 gx2 p1 fx1 lx1 junk
  rw [M.frame_Write_l0] at h
  try dsimp only at h
  subst lx1
  refine ite_some h (fun h11 h => ?_) (fun h11 h => ?_)
  · rw [h11]
    refine Goes.runs 6 [(4, .slice none 0 0), (5, .int .i64 2)] [.code (sub [1, 1, 0, 0, 1, 1, 1, 0, 1] B29), .inBlock 0, .code (sub [1, 1, 1] B29)] (by kernel_rfl) ?_
    have p1 : Hp nz wz S1 w1 ((none, .row 5 [] (0 * (kInt .u8).size) 0) :: (some gx2, .row 3 [.int .i64 x2v_0] 1 0) :: Lr) := p1.nilRow' 5
    obtain rfl := Option.some.inj h
    have p1 := (p1.front 1 _ rfl).drop
    exact Goes.ret (fn := Try.f29) (by kernel_rfl) (v := .tuple #[.slice (Gp none) 0 0, .int .i64 2]) (by kernel_rfl) ⟨S1, none, 0, 0, [], rfl, hx, p1, (Els.nil (K := (kInt .u8))), rfl⟩
  · have h11' : x23 = false := by simpa using h11
    rw [h11']
    refine Goes.runs 7 [(41, .int .i64 x6), (42, .int .i64 (wr .i64 (x6 * 256)))] [.inRegion (opsOf (sub [1, 1, 1, 0] B29)) [2, 3, 4], .code (sub [1, 1, 1, 1] B29)] (by kernel_rfl) ?_
    refine guard_some' h fun g13 h => ?_
    refine guard_some' h fun g14 h => ?_
    refine Op_.mk_n (K := (kInt .u8)) 23 (.const (.int .i64 0)) (.tmp 42) 43 23 5 .i64 .i64 0 (wr .i64 (x6 * 256)) (.int .u8 0) [.int .u8 0] 1 (0 : Int) ([] : List Int) rfl p1 (Goes.vs (by kernel_rfl)) (by kernel_rfl) (by kernel_rfl) (by kernel_rfl) (by kernel_rfl) (by kernel_rfl) (fun _ _ => rfl) (by decide : (0 : Int) ≤ 0) g13 (by have := g14; omega) (by have := g14; omega) ?_
    intro b15 w4 cs16 z4 p4 f17
    refine Op_.alloc 23 8 0 (.slice none 0 0) [.slice none 0 0] p4 (Goes.vs (by kernel_rfl)) (by kernel_rfl) (by kernel_rfl) ?_
    intro b19 w5 z5 p5
    refine Op_.st 23 (.tmp 8) (.tmp 43) 0 0 b19 0 (.slice (Gp (some b15)) (([] : List Int).length) ((wr .i64 (x6 * 256) : Int).toNat)) [.slice (Gp (some b15)) (([] : List Int).length) ((wr .i64 (x6 * 256) : Int).toNat)] p5 rfl (Goes.ss (by kernel_rfl)) (by kernel_rfl) (by kernel_rfl) (by kernel_rfl) (by kernel_rfl) (Nat.zero_le _) (by simp only [List.length_cons, List.length_nil]; omega) (by simp [Value.oneCell']) ?_
    intro w6 z6 p6
    refine Goes.runs 10 [(44, .slice Ax1 x1.length cx1), (45, .int .i64 (x1.length : Int)), (46, .int .i64 0)] [.code (sub [1, 1, 1, 1, 0, 1, 0, 0] B29), .inLoop (sub [1, 1, 1, 1, 0, 1, 0, 0] B29), .inBlock 1, .code (sub [1, 1, 1, 1, 1] B29)] (by kernel_rfl) ?_
    have p6 := p6.front 1 _ rfl
    have p6 := p6.front 1 _ rfl
    have p6 := p6.front 2 _ rfl
    exact Goes.jump 65 [(2, .pointer (some ⟨gx2, 0, none⟩)), (8, .pointer (some ⟨b19, 0, none⟩)), (44, .slice Ax1 x1.length cx1), (45, .int .i64 (x1.length : Int)), (46, .int .i64 0)] (by kernel_rfl) (W.frame_Write_l1 nz wz S0 w0 Lr _ _ h _ _ (((hx.trans z4).trans z5).trans z6) gx2 b19 (some b15) (([] : List Int).length) ((wr .i64 (x6 * 256) : Int).toNat) cs16 Ax1 x1.length cx1 ([]) p6 (f17.ext (z5.trans z6)) rfl (fx1.ext ((z4.trans z5).trans z6)) rfl)

/-! tidepole/frame.Write -/
theorem W.frame_Write (x0 : Int) (x1 : List (List Int)) (r : (List Int) × Int) (h : M.frame_Write x0 x1 = some r) (nz : Nat) (wz : World) (S0 : Fz) (w0 : World) (Lr : List Ent) (Ax1 : Option Addr) (nx1 : Nat) (cx1 : Nat) (p0 : Hp nz wz S0 w0 (Lr)) (fx1 : Rd (kSl (kInt .u8)) S0 w0 Ax1 cx1 x1) (lx1 : x1.length = nx1) :
    Calls Try.prog 29 #[.int .i64 x0, .slice Ax1 nx1 cx1] w0 (Rets (Post.frame_Write nz wz S0 w0 Lr r)) := by
  subst lx1
  refine calls_of_goes (fn := Try.f29) (c := B29) (by kernel_rfl) (by kernel_rfl) 63 (by kernel_rfl) ?_
  refine Goes.jump 65 [(0, .int .i64 x0), (1, .slice Ax1 x1.length cx1)] (by kernel_rfl) (fun junk => ?_)
  delta M.frame_Write at h
  refine Goes.runs 2 [] [.inRegion (opsOf (sub [0] B29)) [0, 1, 2], .code (sub [1] B29)] (by kernel_rfl) ?_
  refine Op_.box 3 (.tmp 0) 2 0 (.int .i64 x0) [.int .i64 x0] p0 (Goes.vs (by kernel_rfl)) (by kernel_rfl) (by kernel_rfl) ?_
  intro b1 w2 z2 p2
  refine Goes.runs 6 [(4, .slice none 0 0), (5, .int .i64 0), (15, .slice Ax1 x1.length cx1)] [.inRegion (opsOf (sub [1, 0] B29)) [1, 2, 3, 4, 5, 6], .code (sub [1, 1] B29)] (by kernel_rfl) ?_
  refine bind_some' h fun y3 e4 h => ?_
  refine Op_.call (.call { callee := .value (.func 31), args := #[(.tmp 15)], argTypes := #[41] }) 16 46 31 #[.slice Ax1 x1.length cx1] (Goes.cs (by kernel_rfl)) (by kernel_rfl) (W.frame_Need x1 y3 e4 nz wz S0 w2 ((some b1, .row 3 [.int .i64 x0] 1 0) :: Lr) Ax1 x1.length cx1 p2 (fx1.ext z2) rfl) ?_
  rintro _ w3 ⟨S3, rfl, z3, p3⟩
  refine Goes.runs 14 [(14, .tuple #[.int .i64 y3.1, .int .i64 y3.2]), (17, .int .i64 y3.1), (18, .int .i64 y3.2), (6, .int .i64 y3.1), (7, .int .i64 y3.2), (20, .int .i64 y3.2), (21, .bool (!(decide (y3.2 = 0)))), (19, .bool (!(decide (y3.2 = 0))))] [.code (sub [1, 1, 0, 0, 1] B29), .inBlock 0, .code (sub [1, 1, 1] B29)] (by kernel_rfl) ?_
  refine ite_some h (fun h5 h => ?_) (fun h5 h => ?_)
  · rw [decide_eq_true h5]
    refine Goes.runs 3 [] [.inRegion (opsOf (sub [1, 1, 0, 0, 1, 1, 0] B29)) [0, 1, 2, 3, 4, 5, 6, 7, 8, 9, 10, 11, 12, 13, 14, 15, 16, 17], .code (sub [1, 1, 0, 0, 1, 1, 1] B29), .inBlock 0, .code (sub [1, 1, 1] B29)] (by kernel_rfl) ?_
    refine Op_.ld1 3 (.tmp 2) 24 3 ⟨b1, 0, none⟩ (.int .i64 x0) (Goes.vs (by kernel_rfl)) (by kernel_rfl) (by kernel_rfl) ((p3.mem 0 rfl).cell 0 _ rfl) ?_
    refine Goes.runs 2 [(25, .bool (decide (x0 < 0))), (26, .bool (decide (x0 < 0)))] [.inRegion (opsOf (sub [1, 1, 0, 0, 1, 1, 0] B29)) [3, 4, 5, 6, 7, 8, 9, 10, 11, 12, 13, 14, 15, 16, 17], .code (sub [1, 1, 0, 0, 1, 1, 1] B29), .inBlock 0, .code (sub [1, 1, 1] B29)] (by kernel_rfl) ?_
    refine ite_some h (fun h6 h => ?_) (fun h6 h => ?_)
    · rw [decide_eq_true h6]
      refine Goes.runs 14 [(27, undef), (28, undef), (29, .bool true), (30, .bool true), (31, undef), (32, undef), (33, undef), (34, undef), (35, undef), (36, undef), (37, undef), (38, undef), (39, undef), (40, .bool true)] [.inRegion (opsOf (sub [1, 1, 0, 0, 1, 1, 0] B29)) [17], .code (sub [1, 1, 0, 0, 1, 1, 1] B29), .inBlock 0, .code (sub [1, 1, 1] B29)] (by kernel_rfl) ?_
      refine Goes.runs 2 [(23, .bool true)] [.code (sub [1, 1, 0, 0, 1, 1, 1] B29), .inBlock 0, .code (sub [1, 1, 1] B29)] (by kernel_rfl) ?_
      exact Goes.jump 65 [(1, .slice Ax1 x1.length cx1), (2, .pointer (some ⟨b1, 0, none⟩)), (6, .int .i64 y3.1), (23, .bool true)] (by kernel_rfl) (W.frame_Write_l0 nz wz S0 w0 Lr _ _ h _ _ (((Ext.refl S0 w0).trans z2).trans z3) Ax1 x1.length cx1 b1 p3 (fx1.ext (z2.trans z3)) rfl)
    · rw [decide_eq_false h6]
      refine Op_.ld1 3 (.tmp 2) 27 3 ⟨b1, 0, none⟩ (.int .i64 x0) (Goes.vs (by kernel_rfl)) (by kernel_rfl) (by kernel_rfl) ((p3.mem 0 rfl).cell 0 _ rfl) ?_
      refine Goes.runs 3 [(28, .bool (decide (x0 > 4294967295))), (29, .bool (decide (x0 > 4294967295))), (30, .bool (decide (x0 > 4294967295)))] [.inRegion (opsOf (sub [1, 1, 0, 0, 1, 1, 0] B29)) [7, 8, 9, 10, 11, 12, 13, 14, 15, 16, 17], .code (sub [1, 1, 0, 0, 1, 1, 1] B29), .inBlock 0, .code (sub [1, 1, 1] B29)] (by kernel_rfl) ?_
      refine ite_some h (fun h8 h => ?_) (fun h8 h => ?_)
      · rw [decide_eq_true h8]
        refine Goes.runs 12 [(31, undef), (32, undef), (33, undef), (34, undef), (35, undef), (36, undef), (37, undef), (38, undef), (39, undef), (40, .bool true), (23, .bool true)] [.code (sub [1, 1, 0, 0, 1, 1, 1] B29), .inBlock 0, .code (sub [1, 1, 1] B29)] (by kernel_rfl) ?_
        exact Goes.jump 65 [(1, .slice Ax1 x1.length cx1), (2, .pointer (some ⟨b1, 0, none⟩)), (6, .int .i64 y3.1), (23, .bool true)] (by kernel_rfl) (W.frame_Write_l0 nz wz S0 w0 Lr _ _ h _ _ (((Ext.refl S0 w0).trans z2).trans z3) Ax1 x1.length cx1 b1 p3 (fx1.ext (z2.trans z3)) rfl)
      · rw [decide_eq_false h8]
        refine Goes.runs 3 [(31, .int .i64 y3.1), (32, .bool (decide (y3.1 > 0))), (33, .bool (decide (y3.1 > 0)))] [.inRegion (opsOf (sub [1, 1, 0, 0, 1, 1, 0] B29)) [10, 11, 12, 13, 14, 15, 16, 17], .code (sub [1, 1, 0, 0, 1, 1, 1] B29), .inBlock 0, .code (sub [1, 1, 1] B29)] (by kernel_rfl) ?_
        refine ite_some h (fun h9 h => ?_) (fun h9 h => ?_)
        · rw [decide_eq_true h9]
          refine Op_.ld1 3 (.tmp 2) 34 3 ⟨b1, 0, none⟩ (.int .i64 x0) (Goes.vs (by kernel_rfl)) (by kernel_rfl) (by kernel_rfl) ((p3.mem 0 rfl).cell 0 _ rfl) ?_
          refine Goes.runs 8 [(35, .int .i64 y3.1), (36, .int .i64 (wr .i64 (4294967295 - y3.1))), (37, .int .i64 (wr .i64 ((wr .i64 (4294967295 - y3.1)) + 1))), (38, .bool (decide (x0 > wr .i64 ((wr .i64 (4294967295 - y3.1)) + 1)))), (39, .bool (decide (x0 > wr .i64 ((wr .i64 (4294967295 - y3.1)) + 1)))), (40, .bool (decide (x0 > wr .i64 ((wr .i64 (4294967295 - y3.1)) + 1)))), (23, .bool (decide (x0 > wr .i64 ((wr .i64 (4294967295 - y3.1)) + 1))))] [.code (sub [1, 1, 0, 0, 1, 1, 1] B29), .inBlock 0, .code (sub [1, 1, 1] B29)] (by kernel_rfl) ?_
          exact Goes.jump 65 [(1, .slice Ax1 x1.length cx1), (2, .pointer (some ⟨b1, 0, none⟩)), (6, .int .i64 y3.1), (23, .bool (decide (x0 > wr .i64 ((wr .i64 (4294967295 - y3.1)) + 1))))] (by kernel_rfl) (W.frame_Write_l0 nz wz S0 w0 Lr _ _ h _ _ (((Ext.refl S0 w0).trans z2).trans z3) Ax1 x1.length cx1 b1 p3 (fx1.ext (z2.trans z3)) rfl)
        · rw [decide_eq_false h9]
          refine Goes.runs 9 [(34, undef), (35, undef), (36, undef), (37, undef), (38, undef), (39, .bool false), (40, .bool false), (23, .bool false)] [.code (sub [1, 1, 0, 0, 1, 1, 1] B29), .inBlock 0, .code (sub [1, 1, 1] B29)] (by kernel_rfl) ?_
          exact Goes.jump 65 [(1, .slice Ax1 x1.length cx1), (2, .pointer (some ⟨b1, 0, none⟩)), (6, .int .i64 y3.1), (23, .bool false)] (by kernel_rfl) (W.frame_Write_l0 nz wz S0 w0 Lr _ _ h _ _ (((Ext.refl S0 w0).trans z2).trans z3) Ax1 x1.length cx1 b1 p3 (fx1.ext (z2.trans z3)) rfl)
  · rw [decide_eq_false h5]
    refine Goes.runs 7 [(22, .int .i64 y3.2), (4, .slice none 0 0), (5, .int .i64 y3.2)] [.code (sub [1, 1, 0, 0, 1, 0, 1] B29), .inBlock 0, .code (sub [1, 1, 1] B29)] (by kernel_rfl) ?_
    have p3 : Hp nz wz S3 w3 ((none, .row 5 [] (0 * (kInt .u8).size) 0) :: (some b1, .row 3 [.int .i64 x0] 1 0) :: Lr) := p3.nilRow' 5
    obtain rfl := Option.some.inj h
    have p3 := (p3.front 1 _ rfl).drop
    exact Goes.ret (fn := Try.f29) (by kernel_rfl) (v := .tuple #[.slice (Gp none) 0 0, .int .i64 y3.2]) (by kernel_rfl) ⟨S3, none, 0, 0, [], rfl, (((Ext.refl S0 w0).trans z2).trans z3), p3, (Els.nil (K := (kInt .u8))), rfl⟩

/-! tidepole/tidepoleref03.Need -/
def Post.tidepoleref03_Need (nz : Nat) (wz : World) (S0 : Fz) (w0 : World) (Lr : List Ent) (r : Int × Int) (v : Value) (w' : World) : Prop :=
  ∃ (S' : Fz), v = .tuple #[.int .i64 r.1, .int .i64 r.2] ∧ Ext S0 w0 S' w' ∧ Hp nz wz S' w' (Lr)

def L.tidepoleref03_Need_l0 (nz : Nat) (wz : World) (S0 : Fz) (w0 : World) (Lr : List Ent) : (List (List Int)) × Int × Int → (Int × Int) → Prop := fun ⟨x0, x4, x5⟩ r => ∀ S1 w1, Ext S0 w0 S1 w1 → ∀ (Ax0 : Option Addr) (nx0 : Nat) (cx0 : Nat) (_ : Hp nz wz S1 w1 (Lr)) (_ : Rd (kSl (kInt .u8)) S1 w1 Ax0 cx0 x0) (_ : x0.length = nx0) (junk : Nat → Value),
  Goes Try.prog (base 32) [.code (sub [1, 1, 1, 0, 1, 0, 0] B32), .inLoop (sub [1, 1, 1, 0, 1, 0, 0] B32), .inBlock 0, .code (sub [1, 1, 1, 1] B32)] ⟨lfr 32 [(0, .slice Ax0 nx0 cx0), (4, .int .i64 x4), (5, .int .i64 x5)] junk, []⟩ w1 (Done Try.prog 32 (Rets (Post.tidepoleref03_Need nz wz S0 w0 Lr r)))

theorem W.tidepoleref03_Need_l0 (nz : Nat) (wz : World) (S0 : Fz) (w0 : World) (Lr : List Ent) : ∀ a r, M.tidepoleref03_Need_l0 a = some r → (L.tidepoleref03_Need_l0 nz wz S0 w0 Lr) a r := by
  refine M.tidepoleref03_Need_l0.partial_correctness (motive := (L.tidepoleref03_Need_l0 nz wz S0 w0 Lr)) ?_
  intro rec_tidepoleref03_Need_l0 ih_tidepoleref03_Need_l0 ⟨x0, x4, x5⟩ r h S1 w1 hx Ax0 nx0 cx0 p1 fx0 lx0 junk
  dsimp only at h
  subst lx0
  refine Goes.runs 8 [(9, .int .i64 x5), (10, .slice Ax0 x0.length cx0), (11, .int .i64 (x0.length : Int)), (12, .bool (decide (x5 < (x0.length : Int))))] [.code (sub [1, 1, 1, 0, 1, 0, 0, 0, 1] B32), .code (sub [1, 1, 1, 0, 1, 0, 0, 1] B32), .inLoop (sub [1, 1, 1, 0, 1, 0, 0] B32), .inBlock 0, .code (sub [1, 1, 1, 1] B32)] (by kernel_rfl) ?_
  refine ite_some h (fun h2 h => ?_) (fun h2 h => ?_)
  · rw [decide_eq_true h2]
    refine Goes.runs 9 [(15, .slice Ax0 x0.length cx0), (16, .int .i64 x5)] [.inRegion (opsOf (sub [1, 1, 1, 0, 1, 0, 0, 1, 0, 0, 0, 0] B32)) [2, 3, 4, 5], .code (sub [1, 1, 1, 0, 1, 0, 0, 1, 0, 0, 0, 1] B32), .code (sub [1, 1, 1, 0, 1, 0, 0, 1, 0, 0, 1] B32), .inBlock 1, .code (sub [1, 1, 1, 0, 1, 0, 0, 1, 1] B32), .inLoop (sub [1, 1, 1, 0, 1, 0, 0] B32), .inBlock 0, .code (sub [1, 1, 1, 1] B32)] (by kernel_rfl) ?_
    refine guard_some' h fun g3 h => ?_
    refine Op_.ixR_n 41 (.tmp 15) (.tmp 16) 17 0 23 .i64 x5 (gi x0 x5) rfl rfl fx0 (Goes.vs (by kernel_rfl)) (by kernel_rfl) (by kernel_rfl) (by kernel_rfl) (by kernel_rfl) g3 h2 ?_
    intro a4 _ f5 q6
    obtain ⟨A7, c8, rfl, f9⟩ := q6
    refine Op_.ld1 23 (.tmp 17) 18 23 a4 (.slice A7 ((gi x0 x5).length) c8) (Goes.vs (by kernel_rfl)) (by kernel_rfl) (by kernel_rfl) (f5.cell 0 _ rfl) ?_
    refine Goes.runs 3 [(19, .int .i64 ((gi x0 x5).length : Int)), (20, .bool (decide (((gi x0 x5).length : Int) > 65536)))] [.code (sub [1, 1, 1, 0, 1, 0, 0, 1, 0, 0, 0, 1] B32), .code (sub [1, 1, 1, 0, 1, 0, 0, 1, 0, 0, 1] B32), .inBlock 1, .code (sub [1, 1, 1, 0, 1, 0, 0, 1, 1] B32), .inLoop (sub [1, 1, 1, 0, 1, 0, 0] B32), .inBlock 0, .code (sub [1, 1, 1, 1] B32)] (by kernel_rfl) ?_
    refine ite_some h (fun h10 h => ?_) (fun h10 h => ?_)
    · rw [decide_eq_true h10]
      refine Goes.runs 6 [(2, .int .i64 0), (3, .int .i64 3)] [.code (sub [1, 1, 1, 0, 1, 0, 0, 1, 0, 0, 0, 1, 0, 1] B32), .code (sub [1, 1, 1, 0, 1, 0, 0, 1, 0, 0, 1] B32), .inBlock 1, .code (sub [1, 1, 1, 0, 1, 0, 0, 1, 1] B32), .inLoop (sub [1, 1, 1, 0, 1, 0, 0] B32), .inBlock 0, .code (sub [1, 1, 1, 1] B32)] (by kernel_rfl) ?_
      obtain rfl := Option.some.inj h
      exact Goes.ret (fn := Try.f32) (by kernel_rfl) (v := .tuple #[.int .i64 0, .int .i64 3]) (by kernel_rfl) ⟨S1, rfl, hx, p1⟩
    · rw [decide_eq_false h10]
      refine Goes.runs 6 [(21, .int .i64 x4), (22, .slice Ax0 x0.length cx0), (23, .int .i64 x5)] [.inRegion (opsOf (sub [1, 1, 1, 0, 1, 0, 0, 1, 0, 0, 1] B32)) [3, 4, 5, 6, 7, 8, 9, 10], .inBlock 1, .code (sub [1, 1, 1, 0, 1, 0, 0, 1, 1] B32), .inLoop (sub [1, 1, 1, 0, 1, 0, 0] B32), .inBlock 0, .code (sub [1, 1, 1, 1] B32)] (by kernel_rfl) ?_
      refine Op_.ixR_n 41 (.tmp 22) (.tmp 23) 24 0 23 .i64 x5 (gi x0 x5) rfl rfl fx0 (Goes.vs (by kernel_rfl)) (by kernel_rfl) (by kernel_rfl) (by kernel_rfl) (by kernel_rfl) g3 h2 ?_
      intro a11 _ f12 q13
      obtain ⟨A14, c15, rfl, f16⟩ := q13
      refine Op_.ld1 23 (.tmp 24) 25 23 a11 (.slice A14 ((gi x0 x5).length) c15) (Goes.vs (by kernel_rfl)) (by kernel_rfl) (by kernel_rfl) (f12.cell 0 _ rfl) ?_
      refine Goes.runs 14 [(26, .int .i64 ((gi x0 x5).length : Int)), (27, .int .i64 (wr .i64 (((gi x0 x5).length : Int) + 243))), (28, .int .i64 (iquo .i64 (wr .i64 (((gi x0 x5).length : Int) + 243)) 244)), (29, .int .i64 (imx 1 (iquo .i64 (wr .i64 (((gi x0 x5).length : Int) + 243)) 244))), (30, .int .i64 (wr .i64 (x4 + (imx 1 (iquo .i64 (wr .i64 (((gi x0 x5).length : Int) + 243)) 244))))), (4, .int .i64 (wr .i64 (x4 + (imx 1 (iquo .i64 (wr .i64 (((gi x0 x5).length : Int) + 243)) 244))))), (13, .int .i64 x5), (14, .int .i64 (wr .i64 (x5 + 1))), (5, .int .i64 (wr .i64 (x5 + 1)))] [.code (sub [1, 1, 1, 0, 1, 0, 0] B32), .inLoop (sub [1, 1, 1, 0, 1, 0, 0] B32), .inBlock 0, .code (sub [1, 1, 1, 1] B32)] (by kernel_rfl) ?_
      exact Goes.jump 32 [(0, .slice Ax0 x0.length cx0), (4, .int .i64 (wr .i64 (x4 + (imx 1 (iquo .i64 (wr .i64 (((gi x0 x5).length : Int) + 243)) 244))))), (5, .int .i64 (wr .i64 (x5 + 1)))] (by kernel_rfl) (ih_tidepoleref03_Need_l0 _ _ h _ _ hx Ax0 x0.length cx0 p1 fx0 rfl)
  · rw [decide_eq_false h2]
    refine Goes.runs 8 [(31, .int .i64 x4), (2, .int .i64 x4), (3, .int .i64 0)] [.code (sub [1, 1, 1, 1, 1] B32)] (by kernel_rfl) ?_
    obtain rfl := Option.some.inj h
    exact Goes.ret (fn := Try.f32) (by kernel_rfl) (v := .tuple #[.int .i64 x4, .int .i64 0]) (by kernel_rfl) ⟨S1, rfl, hx, p1⟩

/-! tidepole/tidepoleref03.Need -/
theorem W.tidepoleref03_Need (x0 : List (List Int)) (r : Int × Int) (h : M.tidepoleref03_Need x0 = some r) (nz : Nat) (wz : World) (S0 : Fz) (w0 : World) (Lr : List Ent) (Ax0 : Option Addr) (nx0 : Nat) (cx0 : Nat) (p0 : Hp nz wz S0 w0 (Lr)) (fx0 : Rd (kSl (kInt .u8)) S0 w0 Ax0 cx0 x0) (lx0 : x0.length = nx0) :
    Calls Try.prog 32 #[.slice Ax0 nx0 cx0] w0 (Rets (Post.tidepoleref03_Need nz wz S0 w0 Lr r)) := by
  subst lx0
  refine calls_of_goes (fn := Try.f32) (c := B32) (by kernel_rfl) (by kernel_rfl) 31 (by kernel_rfl) ?_
  refine Goes.jump 32 [(0, .slice Ax0 x0.length cx0)] (by kernel_rfl) (fun junk => ?_)
  delta M.tidepoleref03_Need at h
  refine Goes.runs 12 [(2, .int .i64 0), (3, .int .i64 0), (6, .slice Ax0 x0.length cx0), (7, .int .i64 (x0.length : Int)), (8, .bool (decide ((x0.length : Int) > 4096)))] [.code (sub [1, 0, 1] B32), .code (sub [1, 1] B32)] (by kernel_rfl) ?_
  refine ite_some h (fun h1 h => ?_) (fun h1 h => ?_)
  · rw [decide_eq_true h1]
    refine Goes.runs 6 [(2, .int .i64 0), (3, .int .i64 3)] [.code (sub [1, 0, 1, 0, 1] B32), .code (sub [1, 1] B32)] (by kernel_rfl) ?_
    obtain rfl := Option.some.inj h
    exact Goes.ret (fn := Try.f32) (by kernel_rfl) (v := .tuple #[.int .i64 0, .int .i64 3]) (by kernel_rfl) ⟨S0, rfl, (Ext.refl S0 w0), p0⟩
  · rw [decide_eq_false h1]
    refine Goes.runs 13 [(4, .int .i64 0), (5, .int .i64 0)] [.code (sub [1, 1, 1, 0, 1, 0, 0] B32), .inLoop (sub [1, 1, 1, 0, 1, 0, 0] B32), .inBlock 0, .code (sub [1, 1, 1, 1] B32)] (by kernel_rfl) ?_
    exact Goes.jump 32 [(0, .slice Ax0 x0.length cx0), (4, .int .i64 0), (5, .int .i64 0)] (by kernel_rfl) (W.tidepoleref03_Need_l0 nz wz S0 w0 Lr _ _ h _ _ (Ext.refl S0 w0) Ax0 x0.length cx0 p0 fx0 rfl)

/-! tidepole/tidepoleref02.step -/
def Post.tidepoleref02_step (nz : Nat) (wz : World) (S0 : Fz) (w0 : World) (Lr : List Ent) (r : Int) (v : Value) (w' : World) : Prop :=
  ∃ (S' : Fz), v = .int .u32 r ∧ Ext S0 w0 S' w' ∧ Hp nz wz S' w' (Lr)

def L.tidepoleref02_step_l0 (nz : Nat) (wz : World) (S0 : Fz) (w0 : World) (Lr : List Ent) : Int × Int → Int → Prop := fun ⟨x0, x3⟩ r => ∀ S1 w1, Ext S0 w0 S1 w1 → ∀ (_ : Hp nz wz S1 w1 (Lr)) (junk : Nat → Value),
  Goes Try.prog (base 39) [.code (sub [1, 0, 1, 0, 0] B39), .inLoop (sub [1, 0, 1, 0, 0] B39), .inBlock 0, .code (sub [1, 1] B39)] ⟨lfr 17 [(0, .int .u32 x0), (3, .int .i64 x3)] junk, []⟩ w1 (Done Try.prog 39 (Rets (Post.tidepoleref02_step nz wz S0 w0 Lr r)))

def L.tidepoleref02_step_l1 (nz : Nat) (wz : World) (S0 : Fz) (w0 : World) (Lr : List Ent) : Int × Int → Int → Prop := fun ⟨x0, x3⟩ r => ∀ S1 w1, Ext S0 w0 S1 w1 → ∀ (_ : Hp nz wz S1 w1 (Lr)) (junk : Nat → Value),
  Goes Try.prog (base 39) [.inBlock 1, .code (sub [1, 0, 1, 0, 0, 1, 1] B39), .inLoop (sub [1, 0, 1, 0, 0] B39), .inBlock 0, .code (sub [1, 1] B39)] ⟨lfr 17 [(0, .int .u32 x0), (3, .int .i64 x3)] junk, []⟩ w1 (Done Try.prog 39 (Rets (Post.tidepoleref02_step nz wz S0 w0 Lr r)))

theorem W.tidepoleref02_step_l0_all (nz : Nat) (wz : World) (S0 : Fz) (w0 : World) (Lr : List Ent) : (∀ a r, M.tidepoleref02_step_l0 a = some r → (L.tidepoleref02_step_l0 nz wz S0 w0 Lr) a r) ∧ (∀ a r, M.tidepoleref02_step_l1 a = some r → (L.tidepoleref02_step_l1 nz wz S0 w0 Lr) a r) := by
  refine M.tidepoleref02_step_l0.mutual_partial_correctness (L.tidepoleref02_step_l0 nz wz S0 w0 Lr) (L.tidepoleref02_step_l1 nz wz S0 w0 Lr) ?_ ?_
  · intro rec_tidepoleref02_step_l1 ih_tidepoleref02_step_l1 ⟨x0, x3⟩ r h S1 w1 hx p1 junk
    dsimp only at h
    refine Goes.runs 6 [(4, .int .i64 x3), (5, .bool (decide (x3 < 8)))] [.code (sub [1, 0, 1, 0, 0, 0, 1] B39), .code (sub [1, 0, 1, 0, 0, 1] B39), .inLoop (sub [1, 0, 1, 0, 0] B39), .inBlock 0, .code (sub [1, 1] B39)] (by kernel_rfl) ?_
    refine ite_some h (fun h1 h => ?_) (fun h1 h => ?_)
    · rw [decide_eq_true h1]
      refine Goes.runs 10 [(8, .int .u32 x0), (9, .int .u32 (irem .u32 x0 2)), (10, .bool (decide (irem .u32 x0 2 = 1)))] [.code (sub [1, 0, 1, 0, 0, 1, 0, 0, 1] B39), .inBlock 1, .code (sub [1, 0, 1, 0, 0, 1, 1] B39), .inLoop (sub [1, 0, 1, 0, 0] B39), .inBlock 0, .code (sub [1, 1] B39)] (by kernel_rfl) ?_
      refine ite_some h (fun h2 h => ?_) (fun h2 h => ?_)
      · rw [decide_eq_true h2]
        refine Goes.runs 7 [(11, .int .u32 x0), (12, .int .u32 (iquo .u32 x0 2)), (13, .int .u32 (ixor .u32 (iquo .u32 x0 2) 2197175160)), (0, .int .u32 (ixor .u32 (iquo .u32 x0 2) 2197175160))] [.inBlock 1, .code (sub [1, 0, 1, 0, 0, 1, 1] B39), .inLoop (sub [1, 0, 1, 0, 0] B39), .inBlock 0, .code (sub [1, 1] B39)] (by kernel_rfl) ?_
        exact Goes.jump 17 [(0, .int .u32 (ixor .u32 (iquo .u32 x0 2) 2197175160)), (3, .int .i64 x3)] (by kernel_rfl) (ih_tidepoleref02_step_l1 _ _ h _ _ hx p1)
      · rw [decide_eq_false h2]
        refine Goes.runs 6 [(14, .int .u32 x0), (15, .int .u32 (iquo .u32 x0 2)), (0, .int .u32 (iquo .u32 x0 2))] [.inBlock 1, .code (sub [1, 0, 1, 0, 0, 1, 1] B39), .inLoop (sub [1, 0, 1, 0, 0] B39), .inBlock 0, .code (sub [1, 1] B39)] (by kernel_rfl) ?_
        exact Goes.jump 17 [(0, .int .u32 (iquo .u32 x0 2)), (3, .int .i64 x3)] (by kernel_rfl) (ih_tidepoleref02_step_l1 _ _ h _ _ hx p1)
    · rw [decide_eq_false h1]
      refine Goes.runs 7 [(16, .int .u32 x0), (2, .int .u32 x0)] [.code (sub [1, 1, 1] B39)] (by kernel_rfl) ?_
      obtain rfl := Option.some.inj h
      exact Goes.ret (fn := Try.f39) (by kernel_rfl) (v := .int .u32 x0) (by kernel_rfl) ⟨S1, rfl, hx, p1⟩
  · intro rec_tidepoleref02_step_l0 ih_tidepoleref02_step_l0 ⟨x0, x3⟩ r h S1 w1 hx p1 junk
    dsimp only at h
    refine Goes.runs 7 [(6, .int .i64 x3), (7, .int .i64 (wr .i64 (x3 + 1))), (3, .int .i64 (wr .i64 (x3 + 1)))] [.code (sub [1, 0, 1, 0, 0] B39), .inLoop (sub [1, 0, 1, 0, 0] B39), .inBlock 0, .code (sub [1, 1] B39)] (by kernel_rfl) ?_
    exact Goes.jump 17 [(0, .int .u32 x0), (3, .int .i64 (wr .i64 (x3 + 1)))] (by kernel_rfl) (ih_tidepoleref02_step_l0 _ _ h _ _ hx p1)

theorem W.tidepoleref02_step_l0 (nz : Nat) (wz : World) (S0 : Fz) (w0 : World) (Lr : List Ent) : ∀ a r, M.tidepoleref02_step_l0 a = some r → (L.tidepoleref02_step_l0 nz wz S0 w0 Lr) a r := (W.tidepoleref02_step_l0_all nz wz S0 w0 Lr).1

theorem W.tidepoleref02_step_l1 (nz : Nat) (wz : World) (S0 : Fz) (w0 : World) (Lr : List Ent) : ∀ a r, M.tidepoleref02_step_l1 a = some r → (L.tidepoleref02_step_l1 nz wz S0 w0 Lr) a r := (W.tidepoleref02_step_l0_all nz wz S0 w0 Lr).2

/-! tidepole/tidepoleref02.step -/
theorem W.tidepoleref02_step (x0 : Int) (r : Int) (h : M.tidepoleref02_step x0 = some r) (nz : Nat) (wz : World) (S0 : Fz) (w0 : World) (Lr : List Ent) (p0 : Hp nz wz S0 w0 (Lr)) :
    Calls Try.prog 39 #[.int .u32 x0] w0 (Rets (Post.tidepoleref02_step nz wz S0 w0 Lr r)) := by
  refine calls_of_goes (fn := Try.f39) (c := B39) (by kernel_rfl) (by kernel_rfl) 16 (by kernel_rfl) ?_
  refine Goes.jump 17 [(0, .int .u32 x0)] (by kernel_rfl) (fun junk => ?_)
  delta M.tidepoleref02_step at h
  refine Goes.runs 11 [(2, .int .u32 0), (3, .int .i64 0)] [.code (sub [1, 0, 1, 0, 0] B39), .inLoop (sub [1, 0, 1, 0, 0] B39), .inBlock 0, .code (sub [1, 1] B39)] (by kernel_rfl) ?_
  exact Goes.jump 17 [(0, .int .u32 x0), (3, .int .i64 0)] (by kernel_rfl) (W.tidepoleref02_step_l0 nz wz S0 w0 Lr _ _ h _ _ (Ext.refl S0 w0) p0)

/-! tidepole/tidepoleref02.More -/
def Post.tidepoleref02_More (nz : Nat) (wz : World) (S0 : Fz) (w0 : World) (Lr : List Ent) (r : Int) (v : Value) (w' : World) : Prop :=
  ∃ (S' : Fz), v = .int .u32 r ∧ Ext S0 w0 S' w' ∧ Hp nz wz S' w' (Lr)

def L.tidepoleref02_More_l0 (nz : Nat) (wz : World) (S0 : Fz) (w0 : World) (Lr : List Ent) : (List Int) × Int × Int → Int → Prop := fun ⟨x1, x5, x6⟩ r => ∀ S1 w1, Ext S0 w0 S1 w1 → ∀ (Ax1 : Option Addr) (nx1 : Nat) (cx1 : Nat) (_ : Hp nz wz S1 w1 (Lr)) (_ : Rd (kInt .u8) S1 w1 Ax1 cx1 x1) (_ : x1.length = nx1) (junk : Nat → Value),
  Goes Try.prog (base 16) [.code (sub [1, 1, 0, 1, 0, 0] B16), .inLoop (sub [1, 1, 0, 1, 0, 0] B16), .inBlock 0, .code (sub [1, 1, 1] B16)] ⟨lfr 25 [(1, .slice Ax1 nx1 cx1), (5, .int .u32 x5), (6, .int .i64 x6)] junk, []⟩ w1 (Done Try.prog 16 (Rets (Post.tidepoleref02_More nz wz S0 w0 Lr r)))

theorem W.tidepoleref02_More_l0 (nz : Nat) (wz : World) (S0 : Fz) (w0 : World) (Lr : List Ent) : ∀ a r, M.tidepoleref02_More_l0 a = some r → (L.tidepoleref02_More_l0 nz wz S0 w0 Lr) a r := by
  refine M.tidepoleref02_More_l0.partial_correctness (motive := (L.tidepoleref02_More_l0 nz wz S0 w0 Lr)) ?_
  intro rec_tidepoleref02_More_l0 ih_tidepoleref02_More_l0 ⟨x1, x5, x6⟩ r h S1 w1 hx Ax1 nx1 cx1 p1 fx1 lx1 junk
  dsimp only at h
  subst lx1
  refine Goes.runs 8 [(9, .int .i64 x6), (10, .slice Ax1 x1.length cx1), (11, .int .i64 (x1.length : Int)), (12, .bool (decide (x6 < (x1.length : Int))))] [.code (sub [1, 1, 0, 1, 0, 0, 0, 1] B16), .code (sub [1, 1, 0, 1, 0, 0, 1] B16), .inLoop (sub [1, 1, 0, 1, 0, 0] B16), .inBlock 0, .code (sub [1, 1, 1] B16)] (by kernel_rfl) ?_
  refine ite_some h (fun h1 h => ?_) (fun h1 h => ?_)
  · rw [decide_eq_true h1]
    refine Goes.runs 8 [(15, .int .u32 x5), (16, .slice Ax1 x1.length cx1), (17, .int .i64 x6)] [.inRegion (opsOf (sub [1, 1, 0, 1, 0, 0, 1, 0, 0] B16)) [3, 4, 5, 6, 7, 8], .inBlock 1, .code (sub [1, 1, 0, 1, 0, 0, 1, 1] B16), .inLoop (sub [1, 1, 0, 1, 0, 0] B16), .inBlock 0, .code (sub [1, 1, 1] B16)] (by kernel_rfl) ?_
    refine guard_some' h fun g2 h => ?_
    refine Op_.ixR_n 23 (.tmp 16) (.tmp 17) 18 0 5 .i64 x6 (gi x1 x6) rfl rfl fx1 (Goes.vs (by kernel_rfl)) (by kernel_rfl) (by kernel_rfl) (by kernel_rfl) (by kernel_rfl) g2 h1 ?_
    intro a3 _ f4 q5
    obtain rfl := q5
    refine Op_.ld1 5 (.tmp 18) 19 5 a3 (.int .u8 (gi x1 x6)) (Goes.vs (by kernel_rfl)) (by kernel_rfl) (by kernel_rfl) (f4.cell 0 _ rfl) ?_
    refine Goes.runs 2 [(20, .int .u32 (wr .u32 (gi x1 x6))), (21, .int .u32 (ixor .u32 x5 (wr .u32 (gi x1 x6))))] [.inRegion (opsOf (sub [1, 1, 0, 1, 0, 0, 1, 0, 0] B16)) [7, 8], .inBlock 1, .code (sub [1, 1, 0, 1, 0, 0, 1, 1] B16), .inLoop (sub [1, 1, 0, 1, 0, 0] B16), .inBlock 0, .code (sub [1, 1, 1] B16)] (by kernel_rfl) ?_
    refine bind_some' h fun y6 e7 h => ?_
    refine Op_.call (.call { callee := .value (.func 39), args := #[(.tmp 21)], argTypes := #[22] }) 22 22 39 #[.int .u32 (ixor .u32 x5 (wr .u32 (gi x1 x6)))] (Goes.cs (by kernel_rfl)) (by kernel_rfl) (W.tidepoleref02_step (ixor .u32 x5 (wr .u32 (gi x1 x6))) y6 e7 nz wz S1 w1 (Lr)  p1 ) ?_
    rintro _ w2 ⟨S2, rfl, z2, p2⟩
    refine Goes.runs 9 [(5, .int .u32 y6), (13, .int .i64 x6), (14, .int .i64 (wr .i64 (x6 + 1))), (6, .int .i64 (wr .i64 (x6 + 1)))] [.code (sub [1, 1, 0, 1, 0, 0] B16), .inLoop (sub [1, 1, 0, 1, 0, 0] B16), .inBlock 0, .code (sub [1, 1, 1] B16)] (by kernel_rfl) ?_
    exact Goes.jump 25 [(1, .slice Ax1 x1.length cx1), (5, .int .u32 y6), (6, .int .i64 (wr .i64 (x6 + 1)))] (by kernel_rfl) (ih_tidepoleref02_More_l0 _ _ h _ _ (hx.trans z2) Ax1 x1.length cx1 p2 (fx1.ext z2) rfl)
  · rw [decide_eq_false h1]
    refine Goes.runs 8 [(23, .int .u32 x5), (24, .int .u32 (ixor .u32 x5 4294967295)), (4, .int .u32 (ixor .u32 x5 4294967295))] [.code (sub [1, 1, 1, 1] B16)] (by kernel_rfl) ?_
    obtain rfl := Option.some.inj h
    exact Goes.ret (fn := Try.f16) (by kernel_rfl) (v := .int .u32 (ixor .u32 x5 4294967295)) (by kernel_rfl) ⟨S1, rfl, hx, p1⟩

/-! tidepole/tidepoleref02.More -/
theorem W.tidepoleref02_More (x0 : Int) (x1 : List Int) (r : Int) (h : M.tidepoleref02_More x0 x1 = some r) (nz : Nat) (wz : World) (S0 : Fz) (w0 : World) (Lr : List Ent) (Ax1 : Option Addr) (nx1 : Nat) (cx1 : Nat) (p0 : Hp nz wz S0 w0 (Lr)) (fx1 : Rd (kInt .u8) S0 w0 Ax1 cx1 x1) (lx1 : x1.length = nx1) :
    Calls Try.prog 16 #[.int .u32 x0, .slice Ax1 nx1 cx1] w0 (Rets (Post.tidepoleref02_More nz wz S0 w0 Lr r)) := by
  subst lx1
  refine calls_of_goes (fn := Try.f16) (c := B16) (by kernel_rfl) (by kernel_rfl) 23 (by kernel_rfl) ?_
  refine Goes.jump 25 [(0, .int .u32 x0), (1, .slice Ax1 x1.length cx1)] (by kernel_rfl) (fun junk => ?_)
  delta M.tidepoleref02_More at h
  refine Goes.runs 14 [(4, .int .u32 0), (7, .int .u32 x0), (8, .int .u32 (ixor .u32 x0 4294967295)), (5, .int .u32 (ixor .u32 x0 4294967295)), (6, .int .i64 0)] [.inRegion (opsOf (sub [1, 1, 0, 0] B16)) [], .code (sub [1, 1, 0, 1] B16), .code (sub [1, 1, 1] B16)] (by kernel_rfl) ?_
  refine Goes.runs 3 [] [.code (sub [1, 1, 0, 1, 0, 0] B16), .inLoop (sub [1, 1, 0, 1, 0, 0] B16), .inBlock 0, .code (sub [1, 1, 1] B16)] (by kernel_rfl) ?_
  exact Goes.jump 25 [(1, .slice Ax1 x1.length cx1), (5, .int .u32 (ixor .u32 x0 4294967295)), (6, .int .i64 0)] (by kernel_rfl) (W.tidepoleref02_More_l0 nz wz S0 w0 Lr _ _ h _ _ (Ext.refl S0 w0) Ax1 x1.length cx1 p0 fx1 rfl)

/-! tidepole/tidepoleref02.Sum -/
def Post.tidepoleref02_Sum (nz : Nat) (wz : World) (S0 : Fz) (w0 : World) (Lr : List Ent) (r : Int) (v : Value) (w' : World) : Prop :=
  ∃ (S' : Fz), v = .int .u32 r ∧ Ext S0 w0 S' w' ∧ Hp nz wz S' w' (Lr)

theorem W.tidepoleref02_Sum (x0 : List Int) (r : Int) (h : M.tidepoleref02_Sum x0 = some r) (nz : Nat) (wz : World) (S0 : Fz) (w0 : World) (Lr : List Ent) (Ax0 : Option Addr) (nx0 : Nat) (cx0 : Nat) (p0 : Hp nz wz S0 w0 (Lr)) (fx0 : Rd (kInt .u8) S0 w0 Ax0 cx0 x0) (lx0 : x0.length = nx0) :
    Calls Try.prog 14 #[.slice Ax0 nx0 cx0] w0 (Rets (Post.tidepoleref02_Sum nz wz S0 w0 Lr r)) := by
  subst lx0
  refine calls_of_goes (fn := Try.f14) (c := B14) (by kernel_rfl) (by kernel_rfl) 4 (by kernel_rfl) ?_
  refine Goes.jump 5 [(0, .slice Ax0 x0.length cx0)] (by kernel_rfl) (fun junk => ?_)
  delta M.tidepoleref02_Sum at h
  refine Goes.runs 7 [(2, .int .u32 0), (3, .slice Ax0 x0.length cx0)] [.inRegion (opsOf (sub [1, 0] B14)) [1, 2], .code (sub [1, 1] B14)] (by kernel_rfl) ?_
  refine bind_some' h fun y1 e2 h => ?_
  refine Op_.call (.call { callee := .value (.func 16), args := #[(.const (.int .u32 0)), (.tmp 3)], argTypes := #[22, 23] }) 4 22 16 #[.int .u32 0, .slice Ax0 x0.length cx0] (Goes.cs (by kernel_rfl)) (by kernel_rfl) (W.tidepoleref02_More 0 x0 y1 e2 nz wz S0 w0 (Lr) Ax0 x0.length cx0 p0 fx0 rfl) ?_
  rintro _ w2 ⟨S2, rfl, z2, p2⟩
  refine Goes.runs 2 [(2, .int .u32 y1)] [.code (sub [1, 1] B14)] (by kernel_rfl) ?_
  obtain rfl := Option.some.inj h
  exact Goes.ret (fn := Try.f14) (by kernel_rfl) (v := .int .u32 y1) (by kernel_rfl) ⟨S2, rfl, ((Ext.refl S0 w0).trans z2), p2⟩

/-! tidepole/tidepoleref02.Put -/
def Post.tidepoleref02_Put (nz : Nat) (wz : World) (S0 : Fz) (w0 : World) (Lr : List Ent) (r : List Int) (v : Value) (w' : World) : Prop :=
  ∃ (S' : Fz) (Gq : Option Nat) (nq : Nat) (cq : Nat) (csq : List Value), v = .slice (Gp Gq) nq cq ∧ Ext S0 w0 S' w' ∧ Hp nz wz S' w' ((Gq, .row 5 csq (cq * (kInt .u8).size) 0) :: Lr) ∧ Els (kInt .u8) S' w' csq r ∧ r.length = nq

theorem W.tidepoleref02_Put (x0 : List Int) (x1 : Int) (r : List Int) (h : M.tidepoleref02_Put x0 x1 = some r) (nz : Nat) (wz : World) (S0 : Fz) (w0 : World) (Lr : List Ent) (Ax0 : Option Addr) (nx0 : Nat) (cx0 : Nat) (p0 : Hp nz wz S0 w0 (Lr)) (fx0 : Rd (kInt .u8) S0 w0 Ax0 cx0 x0) (lx0 : x0.length = nx0) :
    Calls Try.prog 24 #[.slice Ax0 nx0 cx0, .int .u32 x1] w0 (Rets (Post.tidepoleref02_Put nz wz S0 w0 Lr r)) := by
  subst lx0
  refine calls_of_goes (fn := Try.f24) (c := B24) (by kernel_rfl) (by kernel_rfl) 22 (by kernel_rfl) ?_
  refine Goes.jump 24 [(0, .slice Ax0 x0.length cx0), (1, .int .u32 x1)] (by kernel_rfl) (fun junk => ?_)
  delta M.tidepoleref02_Put at h
  refine Goes.runs 6 [(4, .slice none 0 0)] [.inRegion (opsOf (sub [1, 0] B24)) [0, 1, 2, 3, 4, 5, 6, 7, 8, 9, 10, 11, 12, 13, 14, 15, 16, 17, 18, 19], .code (sub [1, 1] B24)] (by kernel_rfl) ?_
  have f2 : Els (kInt .u8) S0 w0 ([] : List Value) ([] : List Int) := by exact Els.nil
  refine Op_.made (.buildSlice 23 0 #[]) 5 23 (fun b => .slice (Gp (some b)) 0 0) 5 ([] : List Value) p0 (Goes.vs (by kernel_rfl)) (by kernel_rfl) ?_
  intro b1 w2 z2 p2
  have p2 : Hp nz wz S0 w2 (((some b1), .row 5 ([] : List Value) (0 * (kInt .u8).size) 0) :: Lr) := p2
  refine Goes.runs 1 [(6, .slice Ax0 x0.length cx0)] [.inRegion (opsOf (sub [1, 0] B24)) [2, 3, 4, 5, 6, 7, 8, 9, 10, 11, 12, 13, 14, 15, 16, 17, 18, 19], .code (sub [1, 1] B24)] (by kernel_rfl) ?_
  obtain ⟨ns4, f5, f6⟩ := src_rd (fx0.ext z2)
  refine guard_some' h fun g7 h => ?_
  refine Op_.ap_n (K := (kInt .u8)) 23 (.tmp 5) (.tmp 6) 7 23 5 0 (.int .u8 0) 1 0 0 x0.length ([] : List Int) x0 x0 Ax0 cx0 rfl rfl (List.nil_append _) p2 rfl (f2.ext z2) (Goes.vs (by kernel_rfl)) (by kernel_rfl) (by kernel_rfl) (by kernel_rfl) (by kernel_rfl) rfl (by decide) f5 f6 (by have := g7; omega) (by have := g7; omega) ?_
  intro w3 G8 c9 cs10 z3 p3 f11
  refine Goes.runs 14 [(8, .int .u32 x1), (9, .int .u32 (irem .u32 x1 256)), (10, .int .u8 (wr .u8 (irem .u32 x1 256))), (11, .int .u32 x1), (12, .int .u32 (iquo .u32 x1 256)), (13, .int .u32 (irem .u32 (iquo .u32 x1 256) 256)), (14, .int .u8 (wr .u8 (irem .u32 (iquo .u32 x1 256) 256))), (15, .int .u32 x1), (16, .int .u32 (iquo .u32 x1 65536)), (17, .int .u32 (irem .u32 (iquo .u32 x1 65536) 256)), (18, .int .u8 (wr .u8 (irem .u32 (iquo .u32 x1 65536) 256))), (19, .int .u32 x1), (20, .int .u32 (iquo .u32 x1 16777216)), (21, .int .u8 (wr .u8 (iquo .u32 x1 16777216)))] [.inRegion (opsOf (sub [1, 0] B24)) [17, 18, 19], .code (sub [1, 1] B24)] (by kernel_rfl) ?_
  refine let_some h fun v14 e15 h => ?_
  have f13 : Els (kInt .u8) S0 w3 ([.int .u8 (wr .u8 (irem .u32 x1 256)), .int .u8 (wr .u8 (irem .u32 (iquo .u32 x1 256) 256)), .int .u8 (wr .u8 (irem .u32 (iquo .u32 x1 65536) 256)), .int .u8 (wr .u8 (iquo .u32 x1 16777216))] : List Value) v14 := by rw [← e15]; exact (Els.cons (K := (kInt .u8)) (vs := [.int .u8 (wr .u8 (irem .u32 x1 256))]) (x := wr .u8 (irem .u32 x1 256)) rfl (Els.cons (K := (kInt .u8)) (vs := [.int .u8 (wr .u8 (irem .u32 (iquo .u32 x1 256) 256))]) (x := wr .u8 (irem .u32 (iquo .u32 x1 256) 256)) rfl (Els.cons (K := (kInt .u8)) (vs := [.int .u8 (wr .u8 (irem .u32 (iquo .u32 x1 65536) 256))]) (x := wr .u8 (irem .u32 (iquo .u32 x1 65536) 256)) rfl (Els.cons (K := (kInt .u8)) (vs := [.int .u8 (wr .u8 (iquo .u32 x1 16777216))]) (x := wr .u8 (iquo .u32 x1 16777216)) rfl Els.nil))))
  refine Op_.made (.buildSlice 23 4 #[(0, (.tmp 10)), (1, (.tmp 14)), (2, (.tmp 18)), (3, (.tmp 21))]) 22 23 (fun b => .slice (Gp (some b)) 4 4) 5 ([.int .u8 (wr .u8 (irem .u32 x1 256)), .int .u8 (wr .u8 (irem .u32 (iquo .u32 x1 256) 256)), .int .u8 (wr .u8 (irem .u32 (iquo .u32 x1 65536) 256)), .int .u8 (wr .u8 (iquo .u32 x1 16777216))] : List Value) p3 (Goes.vs (by kernel_rfl)) (by kernel_rfl) ?_
  intro b12 w4 z4 p4
  have p4 : Hp nz wz S0 w4 (((some b12), .row 5 ([.int .u8 (wr .u8 (irem .u32 x1 256)), .int .u8 (wr .u8 (irem .u32 (iquo .u32 x1 256) 256)), .int .u8 (wr .u8 (irem .u32 (iquo .u32 x1 65536) 256)), .int .u8 (wr .u8 (iquo .u32 x1 16777216))] : List Value) (4 * (kInt .u8).size) 0) :: (G8, .row 5 cs10 (c9 * (kInt .u8).size) 0) :: Lr) := p4
  refine guard_some' h fun g20 h => ?_
  refine Op_.ap_n (K := (kInt .u8)) 23 (.tmp 7) (.tmp 22) 23 23 5 1 (.int .u8 0) 1 x0.length c9 4 x0 v14 (x0 ++ v14) (Gp (some b12)) 4 rfl (by rw [← e15]; rfl) rfl p4 rfl (f11.ext z4) (Goes.vs (by kernel_rfl)) (by kernel_rfl) (by kernel_rfl) (by kernel_rfl) (by kernel_rfl) rfl (by decide) (f13.ext z4) (src_own p4 (q := 0) rfl) (by have := g20; omega) (by have := g20; omega) ?_
  intro w5 G21 c22 cs23 z5 p5 f24
  refine Goes.runs 2 [(4, .slice (Gp G21) ((x0 ++ v14).length) c22)] [.code (sub [1, 1] B24)] (by kernel_rfl) ?_
  obtain rfl := Option.some.inj h
  have p5 := (p5.front 0 _ rfl).drop
  exact Goes.ret (fn := Try.f24) (by kernel_rfl) (v := .slice (Gp G21) ((x0 ++ v14).length) c22) (by kernel_rfl) ⟨S0, G21, (x0 ++ v14).length, c22, cs23, rfl, (((((Ext.refl S0 w0).trans z2).trans z3).trans z4).trans z5), p5, f24, rfl⟩

/-! tidepole/tidepoleref03.Sector -/
def Post.tidepoleref03_Sector (nz : Nat) (wz : World) (S0 : Fz) (w0 : World) (Lr : List Ent) (r : List Int) (v : Value) (w' : World) : Prop :=
  ∃ (S' : Fz) (Gq : Option Nat) (nq : Nat) (cq : Nat) (csq : List Value), v = .slice (Gp Gq) nq cq ∧ Ext S0 w0 S' w' ∧ Hp nz wz S' w' ((Gq, .row 5 csq (cq * (kInt .u8).size) 0) :: Lr) ∧ Els (kInt .u8) S' w' csq r ∧ r.length = nq

theorem W.tidepoleref03_Sector (x0 : Int) (x1 : List Int) (x2 : Int) (r : List Int) (h : M.tidepoleref03_Sector x0 x1 x2 = some r) (nz : Nat) (wz : World) (S0 : Fz) (w0 : World) (Lr : List Ent) (Ax1 : Option Addr) (nx1 : Nat) (cx1 : Nat) (p0 : Hp nz wz S0 w0 (Lr)) (fx1 : Rd (kInt .u8) S0 w0 Ax1 cx1 x1) (lx1 : x1.length = nx1) :
    Calls Try.prog 42 #[.int .i64 x0, .slice Ax1 nx1 cx1, .int .i64 x2] w0 (Rets (Post.tidepoleref03_Sector nz wz S0 w0 Lr r)) := by
  subst lx1
  refine calls_of_goes (fn := Try.f42) (c := B42) (by kernel_rfl) (by kernel_rfl) 44 (by kernel_rfl) ?_
  refine Goes.jump 47 [(0, .int .i64 x0), (1, .slice Ax1 x1.length cx1), (2, .int .i64 x2)] (by kernel_rfl) (fun junk => ?_)
  delta M.tidepoleref03_Sector at h
  refine Goes.runs 14 [(6, .slice none 0 0), (8, .int .i64 x0), (9, .int .i64 (irem .i64 x0 256)), (10, .int .u8 (wr .u8 (irem .i64 x0 256))), (11, .int .i64 x0), (12, .int .i64 (iquo .i64 x0 256)), (13, .int .i64 (irem .i64 (iquo .i64 x0 256) 256)), (14, .int .u8 (wr .u8 (irem .i64 (iquo .i64 x0 256) 256))), (15, .int .i64 x0)] [.inRegion (opsOf (sub [1, 0] B42)) [8, 9, 10, 11, 12, 13, 14, 15, 16, 17, 18, 19, 20, 21, 22, 23, 24, 25], .code (sub [1, 1] B42)] (by kernel_rfl) ?_
  refine Goes.runs 14 [(16, .int .i64 (iquo .i64 x0 65536)), (17, .int .i64 (irem .i64 (iquo .i64 x0 65536) 256)), (18, .int .u8 (wr .u8 (irem .i64 (iquo .i64 x0 65536) 256))), (19, .int .i64 x0), (20, .int .i64 (iquo .i64 x0 16777216)), (21, .int .u8 (wr .u8 (iquo .i64 x0 16777216))), (22, .slice Ax1 x1.length cx1), (23, .int .i64 (x1.length : Int)), (24, .int .i64 (irem .i64 (x1.length : Int) 256)), (25, .int .u8 (wr .u8 (irem .i64 (x1.length : Int) 256))), (26, .slice Ax1 x1.length cx1), (27, .int .i64 (x1.length : Int)), (28, .int .i64 (iquo .i64 (x1.length : Int) 256)), (29, .int .u8 (wr .u8 (iquo .i64 (x1.length : Int) 256)))] [.inRegion (opsOf (sub [1, 0] B42)) [22, 23, 24, 25], .code (sub [1, 1] B42)] (by kernel_rfl) ?_
  refine Goes.runs 2 [(30, .int .i64 x2), (31, .int .u8 (wr .u8 x2))] [.inRegion (opsOf (sub [1, 0] B42)) [24, 25], .code (sub [1, 1] B42)] (by kernel_rfl) ?_
  refine let_some h fun v3 e4 h => ?_
  have f2 : Els (kInt .u8) S0 w0 ([.int .u8 (wr .u8 (irem .i64 x0 256)), .int .u8 (wr .u8 (irem .i64 (iquo .i64 x0 256) 256)), .int .u8 (wr .u8 (irem .i64 (iquo .i64 x0 65536) 256)), .int .u8 (wr .u8 (iquo .i64 x0 16777216)), .int .u8 (wr .u8 (irem .i64 (x1.length : Int) 256)), .int .u8 (wr .u8 (iquo .i64 (x1.length : Int) 256)), .int .u8 (wr .u8 x2)] : List Value) v3 := by rw [← e4]; exact (Els.cons (K := (kInt .u8)) (vs := [.int .u8 (wr .u8 (irem .i64 x0 256))]) (x := wr .u8 (irem .i64 x0 256)) rfl (Els.cons (K := (kInt .u8)) (vs := [.int .u8 (wr .u8 (irem .i64 (iquo .i64 x0 256) 256))]) (x := wr .u8 (irem .i64 (iquo .i64 x0 256) 256)) rfl (Els.cons (K := (kInt .u8)) (vs := [.int .u8 (wr .u8 (irem .i64 (iquo .i64 x0 65536) 256))]) (x := wr .u8 (irem .i64 (iquo .i64 x0 65536) 256)) rfl (Els.cons (K := (kInt .u8)) (vs := [.int .u8 (wr .u8 (iquo .i64 x0 16777216))]) (x := wr .u8 (iquo .i64 x0 16777216)) rfl (Els.cons (K := (kInt .u8)) (vs := [.int .u8 (wr .u8 (irem .i64 (x1.length : Int) 256))]) (x := wr .u8 (irem .i64 (x1.length : Int) 256)) rfl (Els.cons (K := (kInt .u8)) (vs := [.int .u8 (wr .u8 (iquo .i64 (x1.length : Int) 256))]) (x := wr .u8 (iquo .i64 (x1.length : Int) 256)) rfl (Els.cons (K := (kInt .u8)) (vs := [.int .u8 (wr .u8 x2)]) (x := wr .u8 x2) rfl Els.nil)))))))
  refine Op_.made (.buildSlice 23 7 #[(0, (.tmp 10)), (1, (.tmp 14)), (2, (.tmp 18)), (3, (.tmp 21)), (4, (.tmp 25)), (5, (.tmp 29)), (6, (.tmp 31))]) 32 23 (fun b => .slice (Gp (some b)) 7 7) 5 ([.int .u8 (wr .u8 (irem .i64 x0 256)), .int .u8 (wr .u8 (irem .i64 (iquo .i64 x0 256) 256)), .int .u8 (wr .u8 (irem .i64 (iquo .i64 x0 65536) 256)), .int .u8 (wr .u8 (iquo .i64 x0 16777216)), .int .u8 (wr .u8 (irem .i64 (x1.length : Int) 256)), .int .u8 (wr .u8 (iquo .i64 (x1.length : Int) 256)), .int .u8 (wr .u8 x2)] : List Value) p0 (Goes.vs (by kernel_rfl)) (by kernel_rfl) ?_
  intro b1 w2 z2 p2
  have p2 : Hp nz wz S0 w2 (((some b1), .row 5 ([.int .u8 (wr .u8 (irem .i64 x0 256)), .int .u8 (wr .u8 (irem .i64 (iquo .i64 x0 256) 256)), .int .u8 (wr .u8 (irem .i64 (iquo .i64 x0 65536) 256)), .int .u8 (wr .u8 (iquo .i64 x0 16777216)), .int .u8 (wr .u8 (irem .i64 (x1.length : Int) 256)), .int .u8 (wr .u8 (iquo .i64 (x1.length : Int) 256)), .int .u8 (wr .u8 x2)] : List Value) (7 * (kInt .u8).size) 0) :: Lr) := p2
  refine Goes.runs 6 [(7, .slice (Gp (some b1)) 7 7), (33, .slice (Gp (some b1)) 7 7), (34, .slice Ax1 x1.length cx1)] [.inRegion (opsOf (sub [1, 1, 0] B42)) [2, 3], .code (sub [1, 1, 1] B42)] (by kernel_rfl) ?_
  obtain ⟨ns6, f7, f8⟩ := src_rd (fx1.ext z2)
  refine guard_some' h fun g9 h => ?_
  refine Op_.ap_n (K := (kInt .u8)) 23 (.tmp 33) (.tmp 34) 35 23 5 0 (.int .u8 0) 1 7 7 x1.length v3 x1 (v3 ++ x1) Ax1 cx1 (by rw [← e4]; rfl) rfl rfl p2 rfl (f2.ext z2) (Goes.vs (by kernel_rfl)) (by kernel_rfl) (by kernel_rfl) (by kernel_rfl) (by kernel_rfl) rfl (by decide) f7 f8 (by have := g9; omega) (by have := g9; omega) ?_
  intro w3 G10 c11 cs12 z3 p3 f13
  refine Goes.runs 8 [(7, .slice (Gp G10) ((v3 ++ x1).length) c11), (36, .slice (Gp G10) ((v3 ++ x1).length) c11), (37, .slice (Gp G10) ((v3 ++ x1).length) c11), (38, .int .i64 ((v3 ++ x1).length : Int)), (39, .int .i64 (wr .i64 (251 - ((v3 ++ x1).length : Int))))] [.inRegion (opsOf (sub [1, 1, 1, 0] B42)) [4, 5], .code (sub [1, 1, 1, 1] B42)] (by kernel_rfl) ?_
  refine guard_some' h fun g17 h => ?_
  refine guard_some' h fun g18 h => ?_
  refine let_some h fun v19 e20 h => ?_
  refine Op_.apz_n (K := (kInt .u8)) 23 3 (.tmp 36) (.tmp 39) 40 23 5 0 (.int .u8 0) 1 ((v3 ++ x1).length) c11 (v3 ++ x1) (0 : Int) v19 .i64 .i64 (wr .i64 (251 - ((v3 ++ x1).length : Int))) rfl e20 p3 rfl f13 (Goes.vs (by kernel_rfl)) (by kernel_rfl) (by kernel_rfl) (by kernel_rfl) (by kernel_rfl) (by kernel_rfl) rfl rfl rfl (fun _ _ => rfl) g17 (by have := g18; omega) g18 ?_
  intro w4 G21 c22 cs23 z4 p4 f24
  refine Goes.runs 6 [(7, .slice (Gp G21) v19.length c22), (41, .slice (Gp G21) v19.length c22), (42, .slice (Gp G21) v19.length c22)] [.inRegion (opsOf (sub [1, 1, 1, 1, 0] B42)) [2, 3, 4, 5, 6], .code (sub [1, 1, 1, 1, 1] B42)] (by kernel_rfl) ?_
  obtain ⟨S5, z5, p5, f25⟩ := p4.freezeRd 0 rfl f24 (by decide)
  refine bind_some' h fun y26 e27 h => ?_
  refine Op_.call (.call { callee := .value (.func 14), args := #[(.tmp 42)], argTypes := #[23] }) 43 22 14 #[.slice (Gp G21) v19.length c22] (Goes.cs (by kernel_rfl)) (by kernel_rfl) (W.tidepoleref02_Sum v19 y26 e27 nz wz S5 w4 ((G21, .row 5 cs23 (c22 * (kInt .u8).size) cs23.length) :: Lr) (Gp G21) v19.length c22 p5 f25 rfl) ?_
  rintro _ w6 ⟨S6, rfl, z6, p6⟩
  refine bind_some' h fun y28 e29 h => ?_
  refine Op_.call (.call { callee := .value (.func 24), args := #[(.tmp 41), (.tmp 43)], argTypes := #[23, 22] }) 44 23 24 #[.slice (Gp G21) v19.length c22, .int .u32 y26] (Goes.cs (by kernel_rfl)) (by kernel_rfl) (W.tidepoleref02_Put v19 y26 y28 e29 nz wz S6 w6 ((G21, .row 5 cs23 (c22 * (kInt .u8).size) cs23.length) :: Lr) (Gp G21) v19.length c22 p6 (f25.ext z6) rfl) ?_
  rintro _ w7 ⟨S7, Gr_7, nr_7, cr_7, csr_7, rfl, z7, p7, fr_7, rfl⟩
  have p7 := (p7.front 1 _ rfl).drop
  have f32 : Els (kInt .u8) S7 w7 ([.int .u8 255] : List Value) [255] := by exact (Els.cons (K := (kInt .u8)) (vs := [.int .u8 255]) (x := 255) rfl Els.nil)
  refine Op_.made (.buildSlice 23 1 #[(0, (.const (.int .u8 255)))]) 45 23 (fun b => .slice (Gp (some b)) 1 1) 5 ([.int .u8 255] : List Value) p7 (Goes.vs (by kernel_rfl)) (by kernel_rfl) ?_
  intro b31 w8 z8 p8
  have p8 : Hp nz wz S7 w8 (((some b31), .row 5 ([.int .u8 255] : List Value) (1 * (kInt .u8).size) 0) :: (Gr_7, .row 5 csr_7 (cr_7 * (kInt .u8).size) 0) :: Lr) := p8
  refine guard_some' h fun g37 h => ?_
  refine Op_.ap_n (K := (kInt .u8)) 23 (.tmp 44) (.tmp 45) 46 23 5 1 (.int .u8 0) 1 y28.length cr_7 1 y28 [255] (y28 ++ [255]) (Gp (some b31)) 1 rfl rfl rfl p8 rfl (fr_7.ext z8) (Goes.vs (by kernel_rfl)) (by kernel_rfl) (by kernel_rfl) (by kernel_rfl) (by kernel_rfl) rfl (by decide) (f32.ext z8) (src_own p8 (q := 0) rfl) (by have := g37; omega) (by have := g37; omega) ?_
  intro w9 G38 c39 cs40 z9 p9 f41
  refine Goes.runs 2 [(6, .slice (Gp G38) ((y28 ++ [255]).length) c39)] [.code (sub [1, 1, 1, 1, 1] B42)] (by kernel_rfl) ?_
  obtain rfl := Option.some.inj h
  have p9 := (p9.front 0 _ rfl).drop
  exact Goes.ret (fn := Try.f42) (by kernel_rfl) (v := .slice (Gp G38) ((y28 ++ [255]).length) c39) (by kernel_rfl) ⟨S7, G38, (y28 ++ [255]).length, c39, cs40, rfl, (((((((((Ext.refl S0 w0).trans z2).trans z3).trans z4).trans z5).trans z6).trans z7).trans z8).trans z9), p9, f41, rfl⟩

/-! tidepole/tidepoleref03.Write -/
def Post.tidepoleref03_Write (nz : Nat) (wz : World) (S0 : Fz) (w0 : World) (Lr : List Ent) (r : (List Int) × Int) (v : Value) (w' : World) : Prop :=
  ∃ (S' : Fz) (Gq_0 : Option Nat) (nq_0 : Nat) (cq_0 : Nat) (csq_0 : List Value), v = .tuple #[.slice (Gp Gq_0) nq_0 cq_0, .int .i64 r.2] ∧ Ext S0 w0 S' w' ∧ Hp nz wz S' w' ((Gq_0, .row 5 csq_0 (cq_0 * (kInt .u8).size) 0) :: Lr) ∧ Els (kInt .u8) S' w' csq_0 r.1 ∧ r.1.length = nq_0

def L.tidepoleref03_Write_l1 (nz : Nat) (wz : World) (S0 : Fz) (w0 : World) (Lr : List Ent) : Int × (List (List Int)) × (List Int) × Int → ((List Int) × Int) → Prop := fun ⟨x0, x1, x8, x9⟩ r => ∀ S1 w1, Ext S0 w0 S1 w1 → ∀ (Ax1 : Option Addr) (nx1 : Nat) (cx1 : Nat) (Gx8 : Option Nat) (nx8 : Nat) (cx8 : Nat) (csx8 : List Value) (_ : Hp nz wz S1 w1 ((Gx8, .row 5 csx8 (cx8 * (kInt .u8).size) 0) :: Lr)) (_ : Rd (kSl (kInt .u8)) S1 w1 Ax1 cx1 x1) (_ : x1.length = nx1) (_ : Els (kInt .u8) S1 w1 csx8 x8) (_ : x8.length = nx8) (junk : Nat → Value),
  Goes Try.prog (base 30) [.code (sub [1, 1, 1, 1, 1, 0, 1, 0, 0] B30), .inLoop (sub [1, 1, 1, 1, 1, 0, 1, 0, 0] B30), .inBlock 0, .code (sub [1, 1, 1, 1, 1, 1] B30)] ⟨lfr 94 [(0, .int .i64 x0), (1, .slice Ax1 nx1 cx1), (8, .slice (Gp Gx8) nx8 cx8), (9, .int .i64 x9)] junk, []⟩ w1 (Done Try.prog 30 (Rets (Post.tidepoleref03_Write nz wz S0 w0 Lr r)))

def L.tidepoleref03_Write_l2 (nz : Nat) (wz : World) (S0 : Fz) (w0 : World) (Lr : List Ent) : Int × (List (List Int)) × (List Int) × Int × Int → ((List Int) × Int) → Prop := fun ⟨x0, x1, x8, x9, x10⟩ r => ∀ S1 w1, Ext S0 w0 S1 w1 → ∀ (Ax1 : Option Addr) (nx1 : Nat) (cx1 : Nat) (Gx8 : Option Nat) (nx8 : Nat) (cx8 : Nat) (csx8 : List Value) (_ : Hp nz wz S1 w1 ((Gx8, .row 5 csx8 (cx8 * (kInt .u8).size) 0) :: Lr)) (_ : Rd (kSl (kInt .u8)) S1 w1 Ax1 cx1 x1) (_ : x1.length = nx1) (_ : Els (kInt .u8) S1 w1 csx8 x8) (_ : x8.length = nx8) (junk : Nat → Value),
  Goes Try.prog (base 30) [.code (sub [1, 1, 1, 1, 1, 0, 1, 0, 0, 1, 0, 0, 1, 0, 0] B30), .inLoop (sub [1, 1, 1, 1, 1, 0, 1, 0, 0, 1, 0, 0, 1, 0, 0] B30), .inBlock 2, .inBlock 1, .code (sub [1, 1, 1, 1, 1, 0, 1, 0, 0, 1, 1] B30), .inLoop (sub [1, 1, 1, 1, 1, 0, 1, 0, 0] B30), .inBlock 0, .code (sub [1, 1, 1, 1, 1, 1] B30)] ⟨lfr 94 [(0, .int .i64 x0), (1, .slice Ax1 nx1 cx1), (8, .slice (Gp Gx8) nx8 cx8), (9, .int .i64 x9), (10, .int .i64 x10)] junk, []⟩ w1 (Done Try.prog 30 (Rets (Post.tidepoleref03_Write nz wz S0 w0 Lr r)))

def L.tidepoleref03_Write_l3 (nz : Nat) (wz : World) (S0 : Fz) (w0 : World) (Lr : List Ent) : Int × (List (List Int)) × (List Int) × Int × Int × Bool → ((List Int) × Int) → Prop := fun ⟨x0, x1, x8, x9, x10, x55⟩ r => ∀ S1 w1, Ext S0 w0 S1 w1 → ∀ (Ax1 : Option Addr) (nx1 : Nat) (cx1 : Nat) (Gx8 : Option Nat) (nx8 : Nat) (cx8 : Nat) (csx8 : List Value) (_ : Hp nz wz S1 w1 ((Gx8, .row 5 csx8 (cx8 * (kInt .u8).size) 0) :: Lr)) (_ : Rd (kSl (kInt .u8)) S1 w1 Ax1 cx1 x1) (_ : x1.length = nx1) (_ : Els (kInt .u8) S1 w1 csx8 x8) (_ : x8.length = nx8) (junk : Nat → Value),
  Goes Try.prog (base 30) [.code (sub [1, 1, 1, 1, 1, 0, 1, 0, 0, 1, 0, 0, 1, 0, 0, 0, 1] B30), .code (sub [1, 1, 1, 1, 1, 0, 1, 0, 0, 1, 0, 0, 1, 0, 0, 1] B30), .inLoop (sub [1, 1, 1, 1, 1, 0, 1, 0, 0, 1, 0, 0, 1, 0, 0] B30), .inBlock 2, .inBlock 1, .code (sub [1, 1, 1, 1, 1, 0, 1, 0, 0, 1, 1] B30), .inLoop (sub [1, 1, 1, 1, 1, 0, 1, 0, 0] B30), .inBlock 0, .code (sub [1, 1, 1, 1, 1, 1] B30)] ⟨lfr 94 [(0, .int .i64 x0), (1, .slice Ax1 nx1 cx1), (8, .slice (Gp Gx8) nx8 cx8), (9, .int .i64 x9), (10, .int .i64 x10), (55, .bool x55)] junk, []⟩ w1 (Done Try.prog 30 (Rets (Post.tidepoleref03_Write nz wz S0 w0 Lr r)))

def L.tidepoleref03_Write_l4 (nz : Nat) (wz : World) (S0 : Fz) (w0 : World) (Lr : List Ent) : Int × (List (List Int)) × (List Int) × Int × Int × Int → ((List Int) × Int) → Prop := fun ⟨x0, x1, x8, x9, x10, x11⟩ r => ∀ S1 w1, Ext S0 w0 S1 w1 → ∀ (Ax1 : Option Addr) (nx1 : Nat) (cx1 : Nat) (Gx8 : Option Nat) (nx8 : Nat) (cx8 : Nat) (csx8 : List Value) (_ : Hp nz wz S1 w1 ((Gx8, .row 5 csx8 (cx8 * (kInt .u8).size) 0) :: Lr)) (_ : Rd (kSl (kInt .u8)) S1 w1 Ax1 cx1 x1) (_ : x1.length = nx1) (_ : Els (kInt .u8) S1 w1 csx8 x8) (_ : x8.length = nx8) (junk : Nat → Value),
  Goes Try.prog (base 30) [.code (sub [1, 1, 1, 1, 1, 0, 1, 0, 0, 1, 0, 0, 1, 0, 0, 1, 0, 0, 1, 1] B30), .inBlock 3, .code (sub [1, 1, 1, 1, 1, 0, 1, 0, 0, 1, 0, 0, 1, 0, 0, 1, 1] B30), .inLoop (sub [1, 1, 1, 1, 1, 0, 1, 0, 0, 1, 0, 0, 1, 0, 0] B30), .inBlock 2, .inBlock 1, .code (sub [1, 1, 1, 1, 1, 0, 1, 0, 0, 1, 1] B30), .inLoop (sub [1, 1, 1, 1, 1, 0, 1, 0, 0] B30), .inBlock 0, .code (sub [1, 1, 1, 1, 1, 1] B30)] ⟨lfr 94 [(0, .int .i64 x0), (1, .slice Ax1 nx1 cx1), (8, .slice (Gp Gx8) nx8 cx8), (9, .int .i64 x9), (10, .int .i64 x10), (11, .int .i64 x11)] junk, []⟩ w1 (Done Try.prog 30 (Rets (Post.tidepoleref03_Write nz wz S0 w0 Lr r)))

def L.tidepoleref03_Write_l5 (nz : Nat) (wz : World) (S0 : Fz) (w0 : World) (Lr : List Ent) : Int × (List (List Int)) × (List Int) × Int × Int × Int × Int → ((List Int) × Int) → Prop := fun ⟨x0, x1, x8, x9, x10, x11, x12⟩ r => ∀ S1 w1, Ext S0 w0 S1 w1 → ∀ (Ax1 : Option Addr) (nx1 : Nat) (cx1 : Nat) (Gx8 : Option Nat) (nx8 : Nat) (cx8 : Nat) (csx8 : List Value) (_ : Hp nz wz S1 w1 ((Gx8, .row 5 csx8 (cx8 * (kInt .u8).size) 0) :: Lr)) (_ : Rd (kSl (kInt .u8)) S1 w1 Ax1 cx1 x1) (_ : x1.length = nx1) (_ : Els (kInt .u8) S1 w1 csx8 x8) (_ : x8.length = nx8) (junk : Nat → Value),
  Goes Try.prog (base 30) [.code (sub [1, 1, 1, 1, 1, 0, 1, 0, 0, 1, 0, 0, 1, 0, 0, 1, 0, 0, 1, 1, 1, 1] B30), .inBlock 3, .code (sub [1, 1, 1, 1, 1, 0, 1, 0, 0, 1, 0, 0, 1, 0, 0, 1, 1] B30), .inLoop (sub [1, 1, 1, 1, 1, 0, 1, 0, 0, 1, 0, 0, 1, 0, 0] B30), .inBlock 2, .inBlock 1, .code (sub [1, 1, 1, 1, 1, 0, 1, 0, 0, 1, 1] B30), .inLoop (sub [1, 1, 1, 1, 1, 0, 1, 0, 0] B30), .inBlock 0, .code (sub [1, 1, 1, 1, 1, 1] B30)] ⟨lfr 94 [(0, .int .i64 x0), (1, .slice Ax1 nx1 cx1), (8, .slice (Gp Gx8) nx8 cx8), (9, .int .i64 x9), (10, .int .i64 x10), (11, .int .i64 x11), (12, .int .i64 x12)] junk, []⟩ w1 (Done Try.prog 30 (Rets (Post.tidepoleref03_Write nz wz S0 w0 Lr r)))

theorem W.tidepoleref03_Write_l1_all (nz : Nat) (wz : World) (S0 : Fz) (w0 : World) (Lr : List Ent) : (∀ a r, M.tidepoleref03_Write_l1 a = some r → (L.tidepoleref03_Write_l1 nz wz S0 w0 Lr) a r) ∧ (∀ a r, M.tidepoleref03_Write_l2 a = some r → (L.tidepoleref03_Write_l2 nz wz S0 w0 Lr) a r) ∧ (∀ a r, M.tidepoleref03_Write_l3 a = some r → (L.tidepoleref03_Write_l3 nz wz S0 w0 Lr) a r) ∧ (∀ a r, M.tidepoleref03_Write_l4 a = some r → (L.tidepoleref03_Write_l4 nz wz S0 w0 Lr) a r) ∧ (∀ a r, M.tidepoleref03_Write_l5 a = some r → (L.tidepoleref03_Write_l5 nz wz S0 w0 Lr) a r) := by
  refine M.tidepoleref03_Write_l1.mutual_partial_correctness (L.tidepoleref03_Write_l1 nz wz S0 w0 Lr) (L.tidepoleref03_Write_l2 nz wz S0 w0 Lr) (L.tidepoleref03_Write_l3 nz wz S0 w0 Lr) (L.tidepoleref03_Write_l4 nz wz S0 w0 Lr) (L.tidepoleref03_Write_l5 nz wz S0 w0 Lr) ?_ ?_ ?_ ?_ ?_
  · intro rec_tidepoleref03_Write_l2 ih_tidepoleref03_Write_l2 ⟨x0, x1, x8, x9⟩ r h S1 w1 hx Ax1 nx1 cx1 Gx8 nx8 cx8 csx8 p1 fx1 lx1 fx8 lx8 junk
    dsimp only at h
    subst lx1
    subst lx8
    refine Goes.runs 8 [(39, .int .i64 x9), (40, .slice Ax1 x1.length cx1), (41, .int .i64 (x1.length : Int)), (42, .bool (decide (x9 < (x1.length : Int))))] [.code (sub [1, 1, 1, 1, 1, 0, 1, 0, 0, 0, 1] B30), .code (sub [1, 1, 1, 1, 1, 0, 1, 0, 0, 1] B30), .inLoop (sub [1, 1, 1, 1, 1, 0, 1, 0, 0] B30), .inBlock 0, .code (sub [1, 1, 1, 1, 1, 1] B30)] (by kernel_rfl) ?_
    refine ite_some h (fun h14 h => ?_) (fun h14 h => ?_)
    · rw [decide_eq_true h14]
      refine Goes.runs 10 [(10, .int .i64 0)] [.code (sub [1, 1, 1, 1, 1, 0, 1, 0, 0, 1, 0, 0, 1, 0, 0] B30), .inLoop (sub [1, 1, 1, 1, 1, 0, 1, 0, 0, 1, 0, 0, 1, 0, 0] B30), .inBlock 2, .inBlock 1, .code (sub [1, 1, 1, 1, 1, 0, 1, 0, 0, 1, 1] B30), .inLoop (sub [1, 1, 1, 1, 1, 0, 1, 0, 0] B30), .inBlock 0, .code (sub [1, 1, 1, 1, 1, 1] B30)] (by kernel_rfl) ?_
      exact Goes.jump 94 [(0, .int .i64 x0), (1, .slice Ax1 x1.length cx1), (8, .slice (Gp Gx8) x8.length cx8), (9, .int .i64 x9), (10, .int .i64 0)] (by kernel_rfl) (ih_tidepoleref03_Write_l2 _ _ h _ _ hx Ax1 x1.length cx1 Gx8 x8.length cx8 csx8 p1 fx1 rfl fx8 rfl)
    · rw [decide_eq_false h14]
      refine Goes.runs 8 [(93, .slice (Gp Gx8) x8.length cx8), (4, .slice (Gp Gx8) x8.length cx8), (5, .int .i64 0)] [.code (sub [1, 1, 1, 1, 1, 1, 1] B30)] (by kernel_rfl) ?_
      obtain rfl := Option.some.inj h
      exact Goes.ret (fn := Try.f30) (by kernel_rfl) (v := .tuple #[.slice (Gp Gx8) x8.length cx8, .int .i64 0]) (by kernel_rfl) ⟨S1, Gx8, x8.length, cx8, csx8, rfl, hx, p1, fx8, rfl⟩
  · intro rec_tidepoleref03_Write_l3 ih_tidepoleref03_Write_l3 ⟨x0, x1, x8, x9, x10⟩ r h S1 w1 hx Ax1 nx1 cx1 Gx8 nx8 cx8 csx8 p1 fx1 lx1 fx8 lx8 junk
    dsimp only at h
    subst lx1
    subst lx8
    refine Goes.runs 6 [(45, .int .i64 x10), (46, .bool (decide (x10 = 0))), (47, .bool (decide (x10 = 0)))] [.inRegion (opsOf (sub [1, 1, 1, 1, 1, 0, 1, 0, 0, 1, 0, 0, 1, 0, 0, 0, 0] B30)) [3, 4, 5, 6, 7, 8, 9, 10], .code (sub [1, 1, 1, 1, 1, 0, 1, 0, 0, 1, 0, 0, 1, 0, 0, 0, 1] B30), .code (sub [1, 1, 1, 1, 1, 0, 1, 0, 0, 1, 0, 0, 1, 0, 0, 1] B30), .inLoop (sub [1, 1, 1, 1, 1, 0, 1, 0, 0, 1, 0, 0, 1, 0, 0] B30), .inBlock 2, .inBlock 1, .code (sub [1, 1, 1, 1, 1, 0, 1, 0, 0, 1, 1] B30), .inLoop (sub [1, 1, 1, 1, 1, 0, 1, 0, 0] B30), .inBlock 0, .code (sub [1, 1, 1, 1, 1, 1] B30)] (by kernel_rfl) ?_
    refine ite_some h (fun h16 h => ?_) (fun h16 h => ?_)
    · rw [decide_eq_true h16]
      refine Goes.runs 9 [(48, undef), (49, undef), (50, undef), (51, undef), (52, undef), (53, undef), (54, undef), (55, .bool true)] [.code (sub [1, 1, 1, 1, 1, 0, 1, 0, 0, 1, 0, 0, 1, 0, 0, 0, 1] B30), .code (sub [1, 1, 1, 1, 1, 0, 1, 0, 0, 1, 0, 0, 1, 0, 0, 1] B30), .inLoop (sub [1, 1, 1, 1, 1, 0, 1, 0, 0, 1, 0, 0, 1, 0, 0] B30), .inBlock 2, .inBlock 1, .code (sub [1, 1, 1, 1, 1, 0, 1, 0, 0, 1, 1] B30), .inLoop (sub [1, 1, 1, 1, 1, 0, 1, 0, 0] B30), .inBlock 0, .code (sub [1, 1, 1, 1, 1, 1] B30)] (by kernel_rfl) ?_
      exact Goes.jump 94 [(0, .int .i64 x0), (1, .slice Ax1 x1.length cx1), (8, .slice (Gp Gx8) x8.length cx8), (9, .int .i64 x9), (10, .int .i64 x10), (55, .bool true)] (by kernel_rfl) (ih_tidepoleref03_Write_l3 _ _ h _ _ hx Ax1 x1.length cx1 Gx8 x8.length cx8 csx8 p1 fx1 rfl fx8 rfl)
    · rw [decide_eq_false h16]
      refine Goes.runs 3 [(48, .int .i64 x10), (49, .slice Ax1 x1.length cx1), (50, .int .i64 x9)] [.inRegion (opsOf (sub [1, 1, 1, 1, 1, 0, 1, 0, 0, 1, 0, 0, 1, 0, 0, 0, 0] B30)) [6, 7, 8, 9, 10], .code (sub [1, 1, 1, 1, 1, 0, 1, 0, 0, 1, 0, 0, 1, 0, 0, 0, 1] B30), .code (sub [1, 1, 1, 1, 1, 0, 1, 0, 0, 1, 0, 0, 1, 0, 0, 1] B30), .inLoop (sub [1, 1, 1, 1, 1, 0, 1, 0, 0, 1, 0, 0, 1, 0, 0] B30), .inBlock 2, .inBlock 1, .code (sub [1, 1, 1, 1, 1, 0, 1, 0, 0, 1, 1] B30), .inLoop (sub [1, 1, 1, 1, 1, 0, 1, 0, 0] B30), .inBlock 0, .code (sub [1, 1, 1, 1, 1, 1] B30)] (by kernel_rfl) ?_
      refine guard_some' h fun g18 h => ?_
      refine guard_some' h fun g19 h => ?_
      refine Op_.ixR_n 41 (.tmp 49) (.tmp 50) 51 0 23 .i64 x9 (gi x1 x9) rfl rfl fx1 (Goes.vs (by kernel_rfl)) (by kernel_rfl) (by kernel_rfl) (by kernel_rfl) (by kernel_rfl) g18 g19 ?_
      intro a20 _ f21 q22
      obtain ⟨A23, c24, rfl, f25⟩ := q22
      refine Op_.ld1 23 (.tmp 51) 52 23 a20 (.slice A23 ((gi x1 x9).length) c24) (Goes.vs (by kernel_rfl)) (by kernel_rfl) (by kernel_rfl) (f21.cell 0 _ rfl) ?_
      refine Goes.runs 4 [(53, .int .i64 ((gi x1 x9).length : Int)), (54, .bool (decide (x10 < ((gi x1 x9).length : Int)))), (55, .bool (decide (x10 < ((gi x1 x9).length : Int))))] [.code (sub [1, 1, 1, 1, 1, 0, 1, 0, 0, 1, 0, 0, 1, 0, 0, 0, 1] B30), .code (sub [1, 1, 1, 1, 1, 0, 1, 0, 0, 1, 0, 0, 1, 0, 0, 1] B30), .inLoop (sub [1, 1, 1, 1, 1, 0, 1, 0, 0, 1, 0, 0, 1, 0, 0] B30), .inBlock 2, .inBlock 1, .code (sub [1, 1, 1, 1, 1, 0, 1, 0, 0, 1, 1] B30), .inLoop (sub [1, 1, 1, 1, 1, 0, 1, 0, 0] B30), .inBlock 0, .code (sub [1, 1, 1, 1, 1, 1] B30)] (by kernel_rfl) ?_
      exact Goes.jump 94 [(0, .int .i64 x0), (1, .slice Ax1 x1.length cx1), (8, .slice (Gp Gx8) x8.length cx8), (9, .int .i64 x9), (10, .int .i64 x10), (55, .bool (decide (x10 < ((gi x1 x9).length : Int))))] (by kernel_rfl) (ih_tidepoleref03_Write_l3 _ _ h _ _ hx Ax1 x1.length cx1 Gx8 x8.length cx8 csx8 p1 fx1 rfl fx8 rfl)
  · intro rec_tidepoleref03_Write_l1 rec_tidepoleref03_Write_l4 ih_tidepoleref03_Write_l1 ih_tidepoleref03_Write_l4 ⟨x0, x1, x8, x9, x10, x55⟩ r h S1 w1 hx Ax1 nx1 cx1 Gx8 nx8 cx8 csx8 p1 fx1 lx1 fx8 lx8 junk
    dsimp only at h
    subst lx1
    subst lx8
    refine ite_some h (fun h26 h => ?_) (fun h26 h => ?_)
    · rw [h26]
      refine Goes.runs 14 [(11, .int .i64 0), (58, .int .i64 x10), (59, .bool (decide (x10 = 0)))] [.code (sub [1, 1, 1, 1, 1, 0, 1, 0, 0, 1, 0, 0, 1, 0, 0, 1, 0, 0, 1, 0, 1] B30), .code (sub [1, 1, 1, 1, 1, 0, 1, 0, 0, 1, 0, 0, 1, 0, 0, 1, 0, 0, 1, 1] B30), .inBlock 3, .code (sub [1, 1, 1, 1, 1, 0, 1, 0, 0, 1, 0, 0, 1, 0, 0, 1, 1] B30), .inLoop (sub [1, 1, 1, 1, 1, 0, 1, 0, 0, 1, 0, 0, 1, 0, 0] B30), .inBlock 2, .inBlock 1, .code (sub [1, 1, 1, 1, 1, 0, 1, 0, 0, 1, 1] B30), .inLoop (sub [1, 1, 1, 1, 1, 0, 1, 0, 0] B30), .inBlock 0, .code (sub [1, 1, 1, 1, 1, 1] B30)] (by kernel_rfl) ?_
      refine ite_some h (fun h27 h => ?_) (fun h27 h => ?_)
      · rw [decide_eq_true h27]
        refine Goes.runs 6 [(60, .int .i64 0), (61, .int .i64 1), (11, .int .i64 1)] [.code (sub [1, 1, 1, 1, 1, 0, 1, 0, 0, 1, 0, 0, 1, 0, 0, 1, 0, 0, 1, 1] B30), .inBlock 3, .code (sub [1, 1, 1, 1, 1, 0, 1, 0, 0, 1, 0, 0, 1, 0, 0, 1, 1] B30), .inLoop (sub [1, 1, 1, 1, 1, 0, 1, 0, 0, 1, 0, 0, 1, 0, 0] B30), .inBlock 2, .inBlock 1, .code (sub [1, 1, 1, 1, 1, 0, 1, 0, 0, 1, 1] B30), .inLoop (sub [1, 1, 1, 1, 1, 0, 1, 0, 0] B30), .inBlock 0, .code (sub [1, 1, 1, 1, 1, 1] B30)] (by kernel_rfl) ?_
        exact Goes.jump 94 [(0, .int .i64 x0), (1, .slice Ax1 x1.length cx1), (8, .slice (Gp Gx8) x8.length cx8), (9, .int .i64 x9), (10, .int .i64 x10), (11, .int .i64 1)] (by kernel_rfl) (ih_tidepoleref03_Write_l4 _ _ h _ _ hx Ax1 x1.length cx1 Gx8 x8.length cx8 csx8 p1 fx1 rfl fx8 rfl)
      · rw [decide_eq_false h27]
        refine Goes.runs 2 [] [.code (sub [1, 1, 1, 1, 1, 0, 1, 0, 0, 1, 0, 0, 1, 0, 0, 1, 0, 0, 1, 1] B30), .inBlock 3, .code (sub [1, 1, 1, 1, 1, 0, 1, 0, 0, 1, 0, 0, 1, 0, 0, 1, 1] B30), .inLoop (sub [1, 1, 1, 1, 1, 0, 1, 0, 0, 1, 0, 0, 1, 0, 0] B30), .inBlock 2, .inBlock 1, .code (sub [1, 1, 1, 1, 1, 0, 1, 0, 0, 1, 1] B30), .inLoop (sub [1, 1, 1, 1, 1, 0, 1, 0, 0] B30), .inBlock 0, .code (sub [1, 1, 1, 1, 1, 1] B30)] (by kernel_rfl) ?_
        exact Goes.jump 94 [(0, .int .i64 x0), (1, .slice Ax1 x1.length cx1), (8, .slice (Gp Gx8) x8.length cx8), (9, .int .i64 x9), (10, .int .i64 x10), (11, .int .i64 0)] (by kernel_rfl) (ih_tidepoleref03_Write_l4 _ _ h _ _ hx Ax1 x1.length cx1 Gx8 x8.length cx8 csx8 p1 fx1 rfl fx8 rfl)
    · have h26' : x55 = false := by simpa using h26
      rw [h26']
      refine Goes.runs 9 [(43, .int .i64 x9), (44, .int .i64 (wr .i64 (x9 + 1))), (9, .int .i64 (wr .i64 (x9 + 1)))] [.code (sub [1, 1, 1, 1, 1, 0, 1, 0, 0] B30), .inLoop (sub [1, 1, 1, 1, 1, 0, 1, 0, 0] B30), .inBlock 0, .code (sub [1, 1, 1, 1, 1, 1] B30)] (by kernel_rfl) ?_
      exact Goes.jump 94 [(0, .int .i64 x0), (1, .slice Ax1 x1.length cx1), (8, .slice (Gp Gx8) x8.length cx8), (9, .int .i64 (wr .i64 (x9 + 1)))] (by kernel_rfl) (ih_tidepoleref03_Write_l1 _ _ h _ _ hx Ax1 x1.length cx1 Gx8 x8.length cx8 csx8 p1 fx1 rfl fx8 rfl)
  · intro rec_tidepoleref03_Write_l5 ih_tidepoleref03_Write_l5 ⟨x0, x1, x8, x9, x10, x11⟩ r h S1 w1 hx Ax1 nx1 cx1 Gx8 nx8 cx8 csx8 p1 fx1 lx1 fx8 lx8 junk
    dsimp only at h
    subst lx1
    subst lx8
    refine Goes.runs 4 [(62, .slice Ax1 x1.length cx1), (63, .int .i64 x9)] [.inRegion (opsOf (sub [1, 1, 1, 1, 1, 0, 1, 0, 0, 1, 0, 0, 1, 0, 0, 1, 0, 0, 1, 1, 0] B30)) [2, 3, 4, 5, 6, 7, 8], .code (sub [1, 1, 1, 1, 1, 0, 1, 0, 0, 1, 0, 0, 1, 0, 0, 1, 0, 0, 1, 1, 1] B30), .inBlock 3, .code (sub [1, 1, 1, 1, 1, 0, 1, 0, 0, 1, 0, 0, 1, 0, 0, 1, 1] B30), .inLoop (sub [1, 1, 1, 1, 1, 0, 1, 0, 0, 1, 0, 0, 1, 0, 0] B30), .inBlock 2, .inBlock 1, .code (sub [1, 1, 1, 1, 1, 0, 1, 0, 0, 1, 1] B30), .inLoop (sub [1, 1, 1, 1, 1, 0, 1, 0, 0] B30), .inBlock 0, .code (sub [1, 1, 1, 1, 1, 1] B30)] (by kernel_rfl) ?_
    refine guard_some' h fun g29 h => ?_
    refine guard_some' h fun g30 h => ?_
    refine Op_.ixR_n 41 (.tmp 62) (.tmp 63) 64 0 23 .i64 x9 (gi x1 x9) rfl rfl fx1 (Goes.vs (by kernel_rfl)) (by kernel_rfl) (by kernel_rfl) (by kernel_rfl) (by kernel_rfl) g29 g30 ?_
    intro a31 _ f32 q33
    obtain ⟨A34, c35, rfl, f36⟩ := q33
    refine Op_.ld1 23 (.tmp 64) 65 23 a31 (.slice A34 ((gi x1 x9).length) c35) (Goes.vs (by kernel_rfl)) (by kernel_rfl) (by kernel_rfl) (f32.cell 0 _ rfl) ?_
    refine Goes.runs 12 [(66, .int .i64 ((gi x1 x9).length : Int)), (67, .int .i64 x10), (68, .int .i64 (wr .i64 (x10 + 244))), (69, .int .i64 (imn ((gi x1 x9).length : Int) (wr .i64 (x10 + 244)))), (12, .int .i64 (imn ((gi x1 x9).length : Int) (wr .i64 (x10 + 244)))), (70, .int .i64 (imn ((gi x1 x9).length : Int) (wr .i64 (x10 + 244)))), (71, .slice Ax1 x1.length cx1), (72, .int .i64 x9)] [.inRegion (opsOf (sub [1, 1, 1, 1, 1, 0, 1, 0, 0, 1, 0, 0, 1, 0, 0, 1, 0, 0, 1, 1, 1, 0, 0] B30)) [3, 4, 5, 6], .code (sub [1, 1, 1, 1, 1, 0, 1, 0, 0, 1, 0, 0, 1, 0, 0, 1, 0, 0, 1, 1, 1, 0, 1] B30), .code (sub [1, 1, 1, 1, 1, 0, 1, 0, 0, 1, 0, 0, 1, 0, 0, 1, 0, 0, 1, 1, 1, 1] B30), .inBlock 3, .code (sub [1, 1, 1, 1, 1, 0, 1, 0, 0, 1, 0, 0, 1, 0, 0, 1, 1] B30), .inLoop (sub [1, 1, 1, 1, 1, 0, 1, 0, 0, 1, 0, 0, 1, 0, 0] B30), .inBlock 2, .inBlock 1, .code (sub [1, 1, 1, 1, 1, 0, 1, 0, 0, 1, 1] B30), .inLoop (sub [1, 1, 1, 1, 1, 0, 1, 0, 0] B30), .inBlock 0, .code (sub [1, 1, 1, 1, 1, 1] B30)] (by kernel_rfl) ?_
    refine Op_.ixR_n 41 (.tmp 71) (.tmp 72) 73 0 23 .i64 x9 (gi x1 x9) rfl rfl fx1 (Goes.vs (by kernel_rfl)) (by kernel_rfl) (by kernel_rfl) (by kernel_rfl) (by kernel_rfl) g29 g30 ?_
    intro a37 _ f38 q39
    obtain ⟨A40, c41, rfl, f42⟩ := q39
    refine Op_.ld1 23 (.tmp 73) 74 23 a37 (.slice A40 ((gi x1 x9).length) c41) (Goes.vs (by kernel_rfl)) (by kernel_rfl) (by kernel_rfl) (f38.cell 0 _ rfl) ?_
    refine Goes.runs 3 [(75, .int .i64 ((gi x1 x9).length : Int)), (76, .bool (decide (imn ((gi x1 x9).length : Int) (wr .i64 (x10 + 244)) = ((gi x1 x9).length : Int))))] [.code (sub [1, 1, 1, 1, 1, 0, 1, 0, 0, 1, 0, 0, 1, 0, 0, 1, 0, 0, 1, 1, 1, 0, 1] B30), .code (sub [1, 1, 1, 1, 1, 0, 1, 0, 0, 1, 0, 0, 1, 0, 0, 1, 0, 0, 1, 1, 1, 1] B30), .inBlock 3, .code (sub [1, 1, 1, 1, 1, 0, 1, 0, 0, 1, 0, 0, 1, 0, 0, 1, 1] B30), .inLoop (sub [1, 1, 1, 1, 1, 0, 1, 0, 0, 1, 0, 0, 1, 0, 0] B30), .inBlock 2, .inBlock 1, .code (sub [1, 1, 1, 1, 1, 0, 1, 0, 0, 1, 1] B30), .inLoop (sub [1, 1, 1, 1, 1, 0, 1, 0, 0] B30), .inBlock 0, .code (sub [1, 1, 1, 1, 1, 1] B30)] (by kernel_rfl) ?_
    refine ite_some h (fun h43 h => ?_) (fun h43 h => ?_)
    · rw [decide_eq_true h43]
      refine Goes.runs 6 [(77, .int .i64 x11), (78, .int .i64 (wr .i64 (x11 + 2))), (11, .int .i64 (wr .i64 (x11 + 2)))] [.code (sub [1, 1, 1, 1, 1, 0, 1, 0, 0, 1, 0, 0, 1, 0, 0, 1, 0, 0, 1, 1, 1, 1] B30), .inBlock 3, .code (sub [1, 1, 1, 1, 1, 0, 1, 0, 0, 1, 0, 0, 1, 0, 0, 1, 1] B30), .inLoop (sub [1, 1, 1, 1, 1, 0, 1, 0, 0, 1, 0, 0, 1, 0, 0] B30), .inBlock 2, .inBlock 1, .code (sub [1, 1, 1, 1, 1, 0, 1, 0, 0, 1, 1] B30), .inLoop (sub [1, 1, 1, 1, 1, 0, 1, 0, 0] B30), .inBlock 0, .code (sub [1, 1, 1, 1, 1, 1] B30)] (by kernel_rfl) ?_
      exact Goes.jump 94 [(0, .int .i64 x0), (1, .slice Ax1 x1.length cx1), (8, .slice (Gp Gx8) x8.length cx8), (9, .int .i64 x9), (10, .int .i64 x10), (11, .int .i64 (wr .i64 (x11 + 2))), (12, .int .i64 (imn ((gi x1 x9).length : Int) (wr .i64 (x10 + 244))))] (by kernel_rfl) (ih_tidepoleref03_Write_l5 _ _ h _ _ hx Ax1 x1.length cx1 Gx8 x8.length cx8 csx8 p1 fx1 rfl fx8 rfl)
    · rw [decide_eq_false h43]
      refine Goes.runs 2 [] [.code (sub [1, 1, 1, 1, 1, 0, 1, 0, 0, 1, 0, 0, 1, 0, 0, 1, 0, 0, 1, 1, 1, 1] B30), .inBlock 3, .code (sub [1, 1, 1, 1, 1, 0, 1, 0, 0, 1, 0, 0, 1, 0, 0, 1, 1] B30), .inLoop (sub [1, 1, 1, 1, 1, 0, 1, 0, 0, 1, 0, 0, 1, 0, 0] B30), .inBlock 2, .inBlock 1, .code (sub [1, 1, 1, 1, 1, 0, 1, 0, 0, 1, 1] B30), .inLoop (sub [1, 1, 1, 1, 1, 0, 1, 0, 0] B30), .inBlock 0, .code (sub [1, 1, 1, 1, 1, 1] B30)] (by kernel_rfl) ?_
      exact Goes.jump 94 [(0, .int .i64 x0), (1, .slice Ax1 x1.length cx1), (8, .slice (Gp Gx8) x8.length cx8), (9, .int .i64 x9), (10, .int .i64 x10), (11, .int .i64 x11), (12, .int .i64 (imn ((gi x1 x9).length : Int) (wr .i64 (x10 + 244))))] (by kernel_rfl) (ih_tidepoleref03_Write_l5 _ _ h _ _ hx Ax1 x1.length cx1 Gx8 x8.length cx8 csx8 p1 fx1 rfl fx8 rfl)
  · intro rec_tidepoleref03_Write_l2 ih_tidepoleref03_Write_l2 ⟨x0, x1, x8, x9, x10, x11, x12⟩ r h S1 w1 hx Ax1 nx1 cx1 Gx8 nx8 cx8 csx8 p1 fx1 lx1 fx8 lx8 junk
    dsimp only at h
    subst lx1
    subst lx8
    refine Goes.runs 6 [(79, .slice (Gp Gx8) x8.length cx8), (80, .int .i64 x0), (81, .slice Ax1 x1.length cx1), (82, .int .i64 x9)] [.inRegion (opsOf (sub [1, 1, 1, 1, 1, 0, 1, 0, 0, 1, 0, 0, 1, 0, 0, 1, 0, 0, 1, 1, 1, 1, 0] B30)) [4, 5, 6, 7, 8, 9, 10, 11, 12], .code (sub [1, 1, 1, 1, 1, 0, 1, 0, 0, 1, 0, 0, 1, 0, 0, 1, 0, 0, 1, 1, 1, 1, 1] B30), .inBlock 3, .code (sub [1, 1, 1, 1, 1, 0, 1, 0, 0, 1, 0, 0, 1, 0, 0, 1, 1] B30), .inLoop (sub [1, 1, 1, 1, 1, 0, 1, 0, 0, 1, 0, 0, 1, 0, 0] B30), .inBlock 2, .inBlock 1, .code (sub [1, 1, 1, 1, 1, 0, 1, 0, 0, 1, 1] B30), .inLoop (sub [1, 1, 1, 1, 1, 0, 1, 0, 0] B30), .inBlock 0, .code (sub [1, 1, 1, 1, 1, 1] B30)] (by kernel_rfl) ?_
    refine guard_some' h fun g45 h => ?_
    refine guard_some' h fun g46 h => ?_
    refine Op_.ixR_n 41 (.tmp 81) (.tmp 82) 83 0 23 .i64 x9 (gi x1 x9) rfl rfl fx1 (Goes.vs (by kernel_rfl)) (by kernel_rfl) (by kernel_rfl) (by kernel_rfl) (by kernel_rfl) g45 g46 ?_
    intro a47 _ f48 q49
    obtain ⟨A50, c51, rfl, f52⟩ := q49
    refine Op_.ld1 23 (.tmp 83) 84 23 a47 (.slice A50 ((gi x1 x9).length) c51) (Goes.vs (by kernel_rfl)) (by kernel_rfl) (by kernel_rfl) (f48.cell 0 _ rfl) ?_
    refine Goes.runs 2 [(85, .int .i64 x10), (86, .int .i64 x12)] [.inRegion (opsOf (sub [1, 1, 1, 1, 1, 0, 1, 0, 0, 1, 0, 0, 1, 0, 0, 1, 0, 0, 1, 1, 1, 1, 0] B30)) [8, 9, 10, 11, 12], .code (sub [1, 1, 1, 1, 1, 0, 1, 0, 0, 1, 0, 0, 1, 0, 0, 1, 0, 0, 1, 1, 1, 1, 1] B30), .inBlock 3, .code (sub [1, 1, 1, 1, 1, 0, 1, 0, 0, 1, 0, 0, 1, 0, 0, 1, 1] B30), .inLoop (sub [1, 1, 1, 1, 1, 0, 1, 0, 0, 1, 0, 0, 1, 0, 0] B30), .inBlock 2, .inBlock 1, .code (sub [1, 1, 1, 1, 1, 0, 1, 0, 0, 1, 1] B30), .inLoop (sub [1, 1, 1, 1, 1, 0, 1, 0, 0] B30), .inBlock 0, .code (sub [1, 1, 1, 1, 1, 1] B30)] (by kernel_rfl) ?_
    refine guard_some' h fun g53 h => ?_
    refine guard_some' h fun g54 h => ?_
    refine guard_some' h fun g55 h => ?_
    refine Op_.slR_n 23 (.tmp 84) (some (.tmp 85)) (some (.tmp 86)) 87 23 5 x10 x12 (sl (gi x1 x9) x10 x12) rfl rfl f52 (Goes.vs (by kernel_rfl)) (by kernel_rfl) (by kernel_rfl) (by kernel_rfl) (Bnd.at_ .i64 (by kernel_rfl)) (Bnd.at_ .i64 (by kernel_rfl)) g53 g54 g55 ?_
    intro A56 c57 f58
    refine Goes.runs 1 [(88, .int .i64 x11)] [.inRegion (opsOf (sub [1, 1, 1, 1, 1, 0, 1, 0, 0, 1, 0, 0, 1, 0, 0, 1, 0, 0, 1, 1, 1, 1, 0] B30)) [10, 11, 12], .code (sub [1, 1, 1, 1, 1, 0, 1, 0, 0, 1, 0, 0, 1, 0, 0, 1, 0, 0, 1, 1, 1, 1, 1] B30), .inBlock 3, .code (sub [1, 1, 1, 1, 1, 0, 1, 0, 0, 1, 0, 0, 1, 0, 0, 1, 1] B30), .inLoop (sub [1, 1, 1, 1, 1, 0, 1, 0, 0, 1, 0, 0, 1, 0, 0] B30), .inBlock 2, .inBlock 1, .code (sub [1, 1, 1, 1, 1, 0, 1, 0, 0, 1, 1] B30), .inLoop (sub [1, 1, 1, 1, 1, 0, 1, 0, 0] B30), .inBlock 0, .code (sub [1, 1, 1, 1, 1, 1] B30)] (by kernel_rfl) ?_
    refine bind_some' h fun y59 e60 h => ?_
    refine Op_.call (.call { callee := .value (.func 42), args := #[(.tmp 80), (.tmp 87), (.tmp 88)], argTypes := #[3, 23, 3] }) 89 23 42 #[.int .i64 x0, .slice A56 ((sl (gi x1 x9) x10 x12).length) c57, .int .i64 x11] (Goes.cs (by kernel_rfl)) (by kernel_rfl) (W.tidepoleref03_Sector x0 (sl (gi x1 x9) x10 x12) x11 y59 e60 nz wz S1 w1 ((Gx8, .row 5 csx8 (cx8 * (kInt .u8).size) 0) :: Lr) A56 ((sl (gi x1 x9) x10 x12).length) c57 p1 f58 rfl) ?_
    rintro _ w4 ⟨S4, Gr_4, nr_4, cr_4, csr_4, rfl, z4, p4, fr_4, rfl⟩
    refine guard_some' h fun g65 h => ?_
    refine Op_.ap_n (K := (kInt .u8)) 23 (.tmp 79) (.tmp 89) 90 23 5 1 (.int .u8 0) 1 x8.length cx8 y59.length x8 y59 (x8 ++ y59) (Gp Gr_4) cr_4 rfl rfl rfl p4 rfl (fx8.ext z4) (Goes.vs (by kernel_rfl)) (by kernel_rfl) (by kernel_rfl) (by kernel_rfl) (by kernel_rfl) rfl (by decide) fr_4 (src_own p4 (q := 0) rfl) (by have := g65; omega) (by have := g65; omega) ?_
    intro w5 G66 c67 cs68 z5 p5 f69
    refine Goes.runs 14 [(8, .slice (Gp G66) ((x8 ++ y59).length) c67), (91, .int .i64 x0), (92, .int .i64 (wr .i64 (x0 + 1))), (0, .int .i64 (wr .i64 (x0 + 1))), (56, .int .i64 x10), (57, .int .i64 (wr .i64 (x10 + 244))), (10, .int .i64 (wr .i64 (x10 + 244)))] [.code (sub [1, 1, 1, 1, 1, 0, 1, 0, 0, 1, 0, 0, 1, 0, 0] B30), .inLoop (sub [1, 1, 1, 1, 1, 0, 1, 0, 0, 1, 0, 0, 1, 0, 0] B30), .inBlock 2, .inBlock 1, .code (sub [1, 1, 1, 1, 1, 0, 1, 0, 0, 1, 1] B30), .inLoop (sub [1, 1, 1, 1, 1, 0, 1, 0, 0] B30), .inBlock 0, .code (sub [1, 1, 1, 1, 1, 1] B30)] (by kernel_rfl) ?_
    have p5 := (p5.front 0 _ rfl).drop
    exact Goes.jump 94 [(0, .int .i64 (wr .i64 (x0 + 1))), (1, .slice Ax1 x1.length cx1), (8, .slice (Gp G66) ((x8 ++ y59).length) c67), (9, .int .i64 x9), (10, .int .i64 (wr .i64 (x10 + 244)))] (by kernel_rfl) (ih_tidepoleref03_Write_l2 _ _ h _ _ ((hx.trans z4).trans z5) Ax1 x1.length cx1 G66 ((x8 ++ y59).length) c67 cs68 p5 (fx1.ext (z4.trans z5)) rfl f69 rfl)

theorem W.tidepoleref03_Write_l1 (nz : Nat) (wz : World) (S0 : Fz) (w0 : World) (Lr : List Ent) : ∀ a r, M.tidepoleref03_Write_l1 a = some r → (L.tidepoleref03_Write_l1 nz wz S0 w0 Lr) a r := (W.tidepoleref03_Write_l1_all nz wz S0 w0 Lr).1

theorem W.tidepoleref03_Write_l2 (nz : Nat) (wz : World) (S0 : Fz) (w0 : World) (Lr : List Ent) : ∀ a r, M.tidepoleref03_Write_l2 a = some r → (L.tidepoleref03_Write_l2 nz wz S0 w0 Lr) a r := (W.tidepoleref03_Write_l1_all nz wz S0 w0 Lr).2.1

theorem W.tidepoleref03_Write_l3 (nz : Nat) (wz : World) (S0 : Fz) (w0 : World) (Lr : List Ent) : ∀ a r, M.tidepoleref03_Write_l3 a = some r → (L.tidepoleref03_Write_l3 nz wz S0 w0 Lr) a r := (W.tidepoleref03_Write_l1_all nz wz S0 w0 Lr).2.2.1

theorem W.tidepoleref03_Write_l4 (nz : Nat) (wz : World) (S0 : Fz) (w0 : World) (Lr : List Ent) : ∀ a r, M.tidepoleref03_Write_l4 a = some r → (L.tidepoleref03_Write_l4 nz wz S0 w0 Lr) a r := (W.tidepoleref03_Write_l1_all nz wz S0 w0 Lr).2.2.2.1

theorem W.tidepoleref03_Write_l5 (nz : Nat) (wz : World) (S0 : Fz) (w0 : World) (Lr : List Ent) : ∀ a r, M.tidepoleref03_Write_l5 a = some r → (L.tidepoleref03_Write_l5 nz wz S0 w0 Lr) a r := (W.tidepoleref03_Write_l1_all nz wz S0 w0 Lr).2.2.2.2

/-! tidepole/tidepoleref03.Write -/
def L.tidepoleref03_Write_l0 (nz : Nat) (wz : World) (S0 : Fz) (w0 : World) (Lr : List Ent) : Int × (List (List Int)) × Bool → ((List Int) × Int) → Prop := fun ⟨x0, x1, x37⟩ r => ∀ S1 w1, Ext S0 w0 S1 w1 → ∀ (Ax1 : Option Addr) (nx1 : Nat) (cx1 : Nat) (_ : Hp nz wz S1 w1 (Lr)) (_ : Rd (kSl (kInt .u8)) S1 w1 Ax1 cx1 x1) (_ : x1.length = nx1) (junk : Nat → Value),
  Goes Try.prog (base 30) [.code (sub [1, 1, 1, 0, 1] B30), .code (sub [1, 1, 1, 1] B30)] ⟨lfr 94 [(0, .int .i64 x0), (1, .slice Ax1 nx1 cx1), (37, .bool x37)] junk, []⟩ w1 (Done Try.prog 30 (Rets (Post.tidepoleref03_Write nz wz S0 w0 Lr r)))

theorem W.tidepoleref03_Write_l0 (nz : Nat) (wz : World) (S0 : Fz) (w0 : World) (Lr : List Ent) : ∀ a r, M.tidepoleref03_Write_l0 a = some r → L.tidepoleref03_Write_l0 nz wz S0 w0 Lr a r := by
  intro ⟨x0, x1, x37⟩ r h S1 w1 hx Ax1 nx1 cx1 p1 fx1 lx1 junk
  rw [M.tidepoleref03_Write_l0] at h
  try dsimp only at h
  subst lx1
  refine ite_some h (fun h8 h => ?_) (fun h8 h => ?_)
  · rw [h8]
    refine Goes.runs 6 [(4, .slice none 0 0), (5, .int .i64 2)] [.code (sub [1, 1, 1, 0, 1, 0, 1] B30), .code (sub [1, 1, 1, 1] B30)] (by kernel_rfl) ?_
    have p1 : Hp nz wz S1 w1 ((none, .row 5 [] (0 * (kInt .u8).size) 0) :: Lr) := p1.nilRow' 5
    obtain rfl := Option.some.inj h
    exact Goes.ret (fn := Try.f30) (by kernel_rfl) (v := .tuple #[.slice (Gp none) 0 0, .int .i64 2]) (by kernel_rfl) ⟨S1, none, 0, 0, [], rfl, hx, p1, (Els.nil (K := (kInt .u8))), rfl⟩
  · have h8' : x37 = false := by simpa using h8
    rw [h8']
    refine Goes.runs 4 [] [.inRegion (opsOf (sub [1, 1, 1, 1, 0] B30)) [0, 1], .code (sub [1, 1, 1, 1, 1] B30)] (by kernel_rfl) ?_
    have f11 : Els (kInt .u8) S1 w1 ([] : List Value) ([] : List Int) := by exact Els.nil
    refine Op_.made (.buildSlice 23 0 #[]) 38 23 (fun b => .slice (Gp (some b)) 0 0) 5 ([] : List Value) p1 (Goes.vs (by kernel_rfl)) (by kernel_rfl) ?_
    intro b10 w3 z3 p3
    have p3 : Hp nz wz S1 w3 (((some b10), .row 5 ([] : List Value) (0 * (kInt .u8).size) 0) :: Lr) := p3
    refine Goes.runs 9 [(8, .slice (Gp (some b10)) 0 0), (9, .int .i64 0)] [.code (sub [1, 1, 1, 1, 1, 0, 1, 0, 0] B30), .inLoop (sub [1, 1, 1, 1, 1, 0, 1, 0, 0] B30), .inBlock 0, .code (sub [1, 1, 1, 1, 1, 1] B30)] (by kernel_rfl) ?_
    exact Goes.jump 94 [(0, .int .i64 x0), (1, .slice Ax1 x1.length cx1), (8, .slice (Gp (some b10)) 0 0), (9, .int .i64 0)] (by kernel_rfl) (W.tidepoleref03_Write_l1 nz wz S0 w0 Lr _ _ h _ _ (hx.trans z3) Ax1 x1.length cx1 (some b10) 0 0 ([] : List Value) p3 (fx1.ext z3) rfl (f11.ext z3) rfl)

/-! tidepole/tidepoleref03.Write -/
theorem W.tidepoleref03_Write (x0 : Int) (x1 : List (List Int)) (r : (List Int) × Int) (h : M.tidepoleref03_Write x0 x1 = some r) (nz : Nat) (wz : World) (S0 : Fz) (w0 : World) (Lr : List Ent) (Ax1 : Option Addr) (nx1 : Nat) (cx1 : Nat) (p0 : Hp nz wz S0 w0 (Lr)) (fx1 : Rd (kSl (kInt .u8)) S0 w0 Ax1 cx1 x1) (lx1 : x1.length = nx1) :
    Calls Try.prog 30 #[.int .i64 x0, .slice Ax1 nx1 cx1] w0 (Rets (Post.tidepoleref03_Write nz wz S0 w0 Lr r)) := by
  subst lx1
  refine calls_of_goes (fn := Try.f30) (c := B30) (by kernel_rfl) (by kernel_rfl) 92 (by kernel_rfl) ?_
  refine Goes.jump 94 [(0, .int .i64 x0), (1, .slice Ax1 x1.length cx1)] (by kernel_rfl) (fun junk => ?_)
  delta M.tidepoleref03_Write at h
  refine Goes.runs 8 [(4, .slice none 0 0), (5, .int .i64 0), (14, .slice Ax1 x1.length cx1)] [.inRegion (opsOf (sub [1, 0] B30)) [1, 2, 3, 4, 5, 6], .code (sub [1, 1] B30)] (by kernel_rfl) ?_
  refine bind_some' h fun y1 e2 h => ?_
  refine Op_.call (.call { callee := .value (.func 32), args := #[(.tmp 14)], argTypes := #[41] }) 15 46 32 #[.slice Ax1 x1.length cx1] (Goes.cs (by kernel_rfl)) (by kernel_rfl) (W.tidepoleref03_Need x1 y1 e2 nz wz S0 w0 (Lr) Ax1 x1.length cx1 p0 fx1 rfl) ?_
  rintro _ w2 ⟨S2, rfl, z2, p2⟩
  refine Goes.runs 12 [(13, .tuple #[.int .i64 y1.1, .int .i64 y1.2]), (16, .int .i64 y1.1), (17, .int .i64 y1.2), (6, .int .i64 y1.1), (7, .int .i64 y1.2), (18, .int .i64 y1.2), (19, .bool (!(decide (y1.2 = 0))))] [.code (sub [1, 1, 0, 1] B30), .code (sub [1, 1, 1] B30)] (by kernel_rfl) ?_
  refine ite_some h (fun h3 h => ?_) (fun h3 h => ?_)
  · rw [decide_eq_true h3]
    refine Goes.runs 8 [(21, .int .i64 x0), (22, .bool (decide (x0 < 0))), (23, .bool (decide (x0 < 0)))] [.inRegion (opsOf (sub [1, 1, 1, 0, 0] B30)) [3, 4, 5, 6, 7, 8, 9, 10, 11, 12, 13, 14, 15, 16], .code (sub [1, 1, 1, 0, 1] B30), .code (sub [1, 1, 1, 1] B30)] (by kernel_rfl) ?_
    refine ite_some h (fun h4 h => ?_) (fun h4 h => ?_)
    · rw [decide_eq_true h4]
      refine Goes.runs 14 [(24, undef), (25, undef), (26, .bool true), (27, .bool true), (28, undef), (29, undef), (30, undef), (31, undef), (32, undef), (33, undef), (34, undef), (35, undef), (36, undef), (37, .bool true)] [.inRegion (opsOf (sub [1, 1, 1, 0, 0] B30)) [], .code (sub [1, 1, 1, 0, 1] B30), .code (sub [1, 1, 1, 1] B30)] (by kernel_rfl) ?_
      refine Goes.runs 1 [] [.code (sub [1, 1, 1, 0, 1] B30), .code (sub [1, 1, 1, 1] B30)] (by kernel_rfl) ?_
      exact Goes.jump 94 [(0, .int .i64 x0), (1, .slice Ax1 x1.length cx1), (37, .bool true)] (by kernel_rfl) (W.tidepoleref03_Write_l0 nz wz S0 w0 Lr _ _ h _ _ ((Ext.refl S0 w0).trans z2) Ax1 x1.length cx1 p2 (fx1.ext z2) rfl)
    · rw [decide_eq_false h4]
      refine Goes.runs 4 [(24, .int .i64 x0), (25, .bool (decide (x0 > 4294967295))), (26, .bool (decide (x0 > 4294967295))), (27, .bool (decide (x0 > 4294967295)))] [.inRegion (opsOf (sub [1, 1, 1, 0, 0] B30)) [7, 8, 9, 10, 11, 12, 13, 14, 15, 16], .code (sub [1, 1, 1, 0, 1] B30), .code (sub [1, 1, 1, 1] B30)] (by kernel_rfl) ?_
      refine ite_some h (fun h5 h => ?_) (fun h5 h => ?_)
      · rw [decide_eq_true h5]
        refine Goes.runs 11 [(28, undef), (29, undef), (30, undef), (31, undef), (32, undef), (33, undef), (34, undef), (35, undef), (36, undef), (37, .bool true)] [.code (sub [1, 1, 1, 0, 1] B30), .code (sub [1, 1, 1, 1] B30)] (by kernel_rfl) ?_
        exact Goes.jump 94 [(0, .int .i64 x0), (1, .slice Ax1 x1.length cx1), (37, .bool true)] (by kernel_rfl) (W.tidepoleref03_Write_l0 nz wz S0 w0 Lr _ _ h _ _ ((Ext.refl S0 w0).trans z2) Ax1 x1.length cx1 p2 (fx1.ext z2) rfl)
      · rw [decide_eq_false h5]
        refine Goes.runs 3 [(28, .int .i64 y1.1), (29, .bool (decide (y1.1 > 0))), (30, .bool (decide (y1.1 > 0)))] [.inRegion (opsOf (sub [1, 1, 1, 0, 0] B30)) [10, 11, 12, 13, 14, 15, 16], .code (sub [1, 1, 1, 0, 1] B30), .code (sub [1, 1, 1, 1] B30)] (by kernel_rfl) ?_
        refine ite_some h (fun h6 h => ?_) (fun h6 h => ?_)
        · rw [decide_eq_true h6]
          refine Goes.runs 8 [(31, .int .i64 x0), (32, .int .i64 y1.1), (33, .int .i64 (wr .i64 (4294967295 - y1.1))), (34, .int .i64 (wr .i64 ((wr .i64 (4294967295 - y1.1)) + 1))), (35, .bool (decide (x0 > wr .i64 ((wr .i64 (4294967295 - y1.1)) + 1)))), (36, .bool (decide (x0 > wr .i64 ((wr .i64 (4294967295 - y1.1)) + 1)))), (37, .bool (decide (x0 > wr .i64 ((wr .i64 (4294967295 - y1.1)) + 1))))] [.code (sub [1, 1, 1, 0, 1] B30), .code (sub [1, 1, 1, 1] B30)] (by kernel_rfl) ?_
          exact Goes.jump 94 [(0, .int .i64 x0), (1, .slice Ax1 x1.length cx1), (37, .bool (decide (x0 > wr .i64 ((wr .i64 (4294967295 - y1.1)) + 1))))] (by kernel_rfl) (W.tidepoleref03_Write_l0 nz wz S0 w0 Lr _ _ h _ _ ((Ext.refl S0 w0).trans z2) Ax1 x1.length cx1 p2 (fx1.ext z2) rfl)
        · rw [decide_eq_false h6]
          refine Goes.runs 8 [(31, undef), (32, undef), (33, undef), (34, undef), (35, undef), (36, .bool false), (37, .bool false)] [.code (sub [1, 1, 1, 0, 1] B30), .code (sub [1, 1, 1, 1] B30)] (by kernel_rfl) ?_
          exact Goes.jump 94 [(0, .int .i64 x0), (1, .slice Ax1 x1.length cx1), (37, .bool false)] (by kernel_rfl) (W.tidepoleref03_Write_l0 nz wz S0 w0 Lr _ _ h _ _ ((Ext.refl S0 w0).trans z2) Ax1 x1.length cx1 p2 (fx1.ext z2) rfl)
  · rw [decide_eq_false h3]
    refine Goes.runs 7 [(20, .int .i64 y1.2), (4, .slice none 0 0), (5, .int .i64 y1.2)] [.code (sub [1, 1, 0, 1, 0, 1] B30), .code (sub [1, 1, 1] B30)] (by kernel_rfl) ?_
    have p2 : Hp nz wz S2 w2 ((none, .row 5 [] (0 * (kInt .u8).size) 0) :: Lr) := p2.nilRow' 5
    obtain rfl := Option.some.inj h
    exact Goes.ret (fn := Try.f30) (by kernel_rfl) (v := .tuple #[.slice (Gp none) 0 0, .int .i64 y1.2]) (by kernel_rfl) ⟨S2, none, 0, 0, [], rfl, ((Ext.refl S0 w0).trans z2), p2, (Els.nil (K := (kInt .u8))), rfl⟩

/-! tidepole/tidepolebase.SameBytes -/
def Post.tidepolebase_SameBytes (nz : Nat) (wz : World) (S0 : Fz) (w0 : World) (Lr : List Ent) (r : Bool) (v : Value) (w' : World) : Prop :=
  ∃ (S' : Fz), v = .bool r ∧ Ext S0 w0 S' w' ∧ Hp nz wz S' w' (Lr)

theorem W.tidepolebase_SameBytes (x0 : List Int) (x1 : List Int) (r : Bool) (h : M.tidepolebase_SameBytes x0 x1 = some r) (nz : Nat) (wz : World) (S0 : Fz) (w0 : World) (Lr : List Ent) (Ax0 : Option Addr) (nx0 : Nat) (cx0 : Nat) (Ax1 : Option Addr) (nx1 : Nat) (cx1 : Nat) (p0 : Hp nz wz S0 w0 (Lr)) (fx0 : Rd (kInt .u8) S0 w0 Ax0 cx0 x0) (lx0 : x0.length = nx0) (fx1 : Rd (kInt .u8) S0 w0 Ax1 cx1 x1) (lx1 : x1.length = nx1) :
    Calls Try.prog 17 #[.slice Ax0 nx0 cx0, .slice Ax1 nx1 cx1] w0 (Rets (Post.tidepolebase_SameBytes nz wz S0 w0 Lr r)) := by
  subst lx0
  subst lx1
  refine calls_of_goes (fn := Try.f17) (c := B17) (by kernel_rfl) (by kernel_rfl) 8 (by kernel_rfl) ?_
  refine Goes.jump 10 [(0, .slice Ax0 x0.length cx0), (1, .slice Ax1 x1.length cx1)] (by kernel_rfl) (fun junk => ?_)
  delta M.tidepolebase_SameBytes at h
  refine Goes.runs 7 [(4, .bool false), (5, .slice Ax0 x0.length cx0)] [.inRegion (opsOf (sub [1, 0] B17)) [1, 2, 3, 4, 5], .code (sub [1, 1] B17)] (by kernel_rfl) ?_
  refine Op_.b2s_n 23 9 (.tmp 5) 6 9 5 (b2s x0) rfl rfl fx0 (Goes.vs (by kernel_rfl)) (by kernel_rfl) (by kernel_rfl) (by kernel_rfl) (by kernel_rfl) ?_
  refine Goes.runs 1 [(7, .slice Ax1 x1.length cx1)] [.inRegion (opsOf (sub [1, 0] B17)) [3, 4, 5], .code (sub [1, 1] B17)] (by kernel_rfl) ?_
  refine Op_.b2s_n 23 9 (.tmp 7) 8 9 5 (b2s x1) rfl rfl fx1 (Goes.vs (by kernel_rfl)) (by kernel_rfl) (by kernel_rfl) (by kernel_rfl) (by kernel_rfl) ?_
  refine Goes.runs 3 [(9, .bool ((b2s x0).toList == (b2s x1).toList)), (4, .bool ((b2s x0).toList == (b2s x1).toList))] [.code (sub [1, 1] B17)] (by kernel_rfl) ?_
  obtain rfl := Option.some.inj h
  exact Goes.ret (fn := Try.f17) (by kernel_rfl) (v := .bool ((b2s x0).toList == (b2s x1).toList)) (by kernel_rfl) ⟨S0, rfl, (Ext.refl S0 w0), p0⟩

/-! tidepole/frame.sectors -/
def Post.frame_sectors (nz : Nat) (wz : World) (S0 : Fz) (w0 : World) (Lr : List Ent) (r : (List Int) × Int) (v : Value) (w' : World) : Prop :=
  ∃ (S' : Fz) (gqb0 : Nat) (Aqb0v_0 : Option Addr) (nqb0v_0 : Nat) (cqb0v_0 : Nat) (gqb1 : Nat), v = .func (.func 47) #[] #[.pointer (some ⟨gqb0, 0, none⟩), .pointer (some ⟨gqb1, 0, none⟩)] ∧ Ext S0 w0 S' w' ∧ Hp nz wz S' w' ((some gqb0, .row 23 [.slice Aqb0v_0 nqb0v_0 cqb0v_0] 1 0) :: (some gqb1, .row 3 [.int .i64 r.2] 1 0) :: Lr) ∧ Rd (kInt .u8) S' w' Aqb0v_0 cqb0v_0 r.1 ∧ r.1.length = nqb0v_0

theorem W.frame_sectors (x0 : Int) (x1 : List Int) (r : (List Int) × Int) (h : M.frame_sectors x0 x1 = some r) (nz : Nat) (wz : World) (S0 : Fz) (w0 : World) (Lr : List Ent) (Ax1 : Option Addr) (nx1 : Nat) (cx1 : Nat) (p0 : Hp nz wz S0 w0 (Lr)) (fx1 : Rd (kInt .u8) S0 w0 Ax1 cx1 x1) (lx1 : x1.length = nx1) :
    Calls Try.prog 44 #[.int .i64 x0, .slice Ax1 nx1 cx1] w0 (Rets (Post.frame_sectors nz wz S0 w0 Lr r)) := by
  subst lx1
  refine calls_of_goes (fn := Try.f44) (c := B44) (by kernel_rfl) (by kernel_rfl) 4 (by kernel_rfl) ?_
  refine Goes.jump 6 [(0, .int .i64 x0), (1, .slice Ax1 x1.length cx1)] (by kernel_rfl) (fun junk => ?_)
  delta M.frame_sectors at h
  refine Goes.runs 2 [] [.inRegion (opsOf (sub [0] B44)) [0, 1, 2], .code (sub [1] B44)] (by kernel_rfl) ?_
  refine Op_.box 3 (.tmp 0) 2 0 (.int .i64 x0) [.int .i64 x0] p0 (Goes.vs (by kernel_rfl)) (by kernel_rfl) (by kernel_rfl) ?_
  intro b1 w2 z2 p2
  refine Op_.box 23 (.tmp 1) 3 0 (.slice Ax1 x1.length cx1) [.slice Ax1 x1.length cx1] p2 (Goes.vs (by kernel_rfl)) (by kernel_rfl) (by kernel_rfl) ?_
  intro b3 w3 z3 p3
  refine Goes.runs 7 [(4, .func (.func 47) #[] #[.pointer (some ⟨b3, 0, none⟩), .pointer (some ⟨b1, 0, none⟩)]), (5, .func (.func 47) #[] #[.pointer (some ⟨b3, 0, none⟩), .pointer (some ⟨b1, 0, none⟩)])] [.code (sub [1, 1] B44)] (by kernel_rfl) ?_
  obtain rfl := Option.some.inj h
  exact Goes.ret (fn := Try.f44) (by kernel_rfl) (v := .func (.func 47) #[] #[.pointer (some ⟨b3, 0, none⟩), .pointer (some ⟨b1, 0, none⟩)]) (by kernel_rfl) ⟨S0, b3, Ax1, x1.length, cx1, b1, rfl, (((Ext.refl S0 w0).trans z2).trans z3), p3, (fx1.ext (z2.trans z3)), rfl⟩

end Go.Gx
