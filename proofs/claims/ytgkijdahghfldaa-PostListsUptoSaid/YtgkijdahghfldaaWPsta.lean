import Derived.Test.YtgkijdahghfldaaMPst

import Derived.Test.YtgkijdahghfldaaGA

import Derived.Test.YtgkijdahghfldaaProg

set_option linter.unusedVariables false

set_option maxRecDepth 100000

namespace Go.Gx

open Go.RowKit Go.Proofs

noncomputable def B3 : Code := (Try.f3.body).getD .skip

noncomputable def B4 : Code := (Try.f4.body).getD .skip

noncomputable def B5 : Code := (Try.f5.body).getD .skip

noncomputable def B8 : Code := (Try.f8.body).getD .skip

noncomputable def B9 : Code := (Try.f9.body).getD .skip

noncomputable def B10 : Code := (Try.f10.body).getD .skip

noncomputable def B11 : Code := (Try.f11.body).getD .skip

noncomputable def B12 : Code := (Try.f12.body).getD .skip

noncomputable def B13 : Code := (Try.f13.body).getD .skip

noncomputable def B14 : Code := (Try.f14.body).getD .skip

noncomputable def B15 : Code := (Try.f15.body).getD .skip

noncomputable def B16 : Code := (Try.f16.body).getD .skip

noncomputable def B17 : Code := (Try.f17.body).getD .skip

noncomputable def B18 : Code := (Try.f18.body).getD .skip

noncomputable def B19 : Code := (Try.f19.body).getD .skip

noncomputable def B20 : Code := (Try.f20.body).getD .skip

noncomputable def B21 : Code := (Try.f21.body).getD .skip

noncomputable def B22 : Code := (Try.f22.body).getD .skip

noncomputable def B23 : Code := (Try.f23.body).getD .skip

noncomputable def B24 : Code := (Try.f24.body).getD .skip

noncomputable def B25 : Code := (Try.f25.body).getD .skip

noncomputable def B26 : Code := (Try.f26.body).getD .skip

noncomputable def B27 : Code := (Try.f27.body).getD .skip

noncomputable def B28 : Code := (Try.f28.body).getD .skip

noncomputable def B29 : Code := (Try.f29.body).getD .skip

noncomputable def B30 : Code := (Try.f30.body).getD .skip

noncomputable def B31 : Code := (Try.f31.body).getD .skip

noncomputable def B43 : Code := (Try.f43.body).getD .skip

noncomputable def B44 : Code := (Try.f44.body).getD .skip

noncomputable def B45 : Code := (Try.f45.body).getD .skip

noncomputable def B46 : Code := (Try.f46.body).getD .skip

noncomputable def B47 : Code := (Try.f47.body).getD .skip

noncomputable def B48 : Code := (Try.f48.body).getD .skip

noncomputable def B49 : Code := (Try.f49.body).getD .skip

noncomputable def B50 : Code := (Try.f50.body).getD .skip

noncomputable def B51 : Code := (Try.f51.body).getD .skip

noncomputable def B55 : Code := (Try.f55.body).getD .skip

noncomputable def B58 : Code := (Try.f58.body).getD .skip

noncomputable def B59 : Code := (Try.f59.body).getD .skip

noncomputable def B60 : Code := (Try.f60.body).getD .skip

noncomputable def B63 : Code := (Try.f63.body).getD .skip

noncomputable def B64 : Code := (Try.f64.body).getD .skip

noncomputable def B68 : Code := (Try.f68.body).getD .skip

/-! tidepole/post.rises[uint64] -/
def Post.post_rises_uint64 (nz : Nat) (wz : World) (S0 : Fz) (w0 : World) (Lr : List Ent) (r : Bool) (v : Value) (w' : World) : Prop :=
  ∃ (S' : Fz) , v = .bool r ∧ Ext S0 w0 S' w' ∧ Hp nz wz S' w' (Lr)

def L.post_rises_uint64_l0 (nz : Nat) (wz : World) (S0 : Fz) (w0 : World) (Lr : List Ent) : List Int × Int → Bool → Prop := fun ⟨x0, x3⟩ r => ∀ S1 w1, Ext S0 w0 S1 w1 → ∀ (Ax0 : Option Addr) (cx0 : Nat) (_ : Hp nz wz S1 w1 (Lr)) (_ : Rd (kInt .u64) S1 w1 Ax0 cx0 x0) (junk : Nat → Value),
  Goes Try.prog (base 50) [.code (sub [1, 0, 1, 0, 0] B50), .inLoop (sub [1, 0, 1, 0, 0] B50), .inBlock 0, .code (sub [1, 1] B50)] ⟨lfr 20 [(0, .slice Ax0 x0.length cx0), (3, .int .i64 x3)] junk, []⟩ w1 (Done Try.prog 50 (Rets (Post.post_rises_uint64 nz wz S0 w0 Lr r)))

theorem W.post_rises_uint64_l0 (nz : Nat) (wz : World) (S0 : Fz) (w0 : World) (Lr : List Ent) : ∀ a r, M.post_rises_uint64_l0 a = some r → L.post_rises_uint64_l0 nz wz S0 w0 Lr a r := by
  refine M.post_rises_uint64_l0.partial_correctness (motive := L.post_rises_uint64_l0 nz wz S0 w0 Lr) ?_
  intro rec_post_rises_uint64_l0 ih_post_rises_uint64_l0 ⟨x0, x3⟩ r h S1 w1 hx Ax0 cx0 p1 fx0 junk
  dsimp only at h
  refine Goes.runs 8 [(4, .int .i64 x3), (5, .slice Ax0 x0.length cx0), (6, .int .i64 (x0.length : Int)), (7, .bool (decide (x3 < (x0.length : Int))))] [.code (sub [1, 0, 1, 0, 0, 0, 1] B50), .code (sub [1, 0, 1, 0, 0, 1] B50), .inLoop (sub [1, 0, 1, 0, 0] B50), .inBlock 0, .code (sub [1, 1] B50)] (by kernel_rfl) ?_
  by_cases h1 : x3 < (x0.length : Int)
  · rw [if_pos h1] at h
    rw [decide_eq_true h1]
    refine Goes.runs 5 [] [.code (sub [1, 0, 1, 0, 0, 1, 0, 0, 0] B50), .code (sub [1, 0, 1, 0, 0, 1, 0, 0, 1] B50), .inBlock 1, .code (sub [1, 0, 1, 0, 0, 1, 1] B50), .inLoop (sub [1, 0, 1, 0, 0] B50), .inBlock 0, .code (sub [1, 1] B50)] (by kernel_rfl) ?_
    have z2 : Ext S1 w1 S1 (w1).drew := Ext.draw
    have p2 := p1.draw
    refine Goes.drawn (s := []) (F := Fc S1 (w1).drew []) 4 10 (by kernel_rfl) (by kernel_rfl) (by kernel_rfl) (by kernel_rfl) ?_
    generalize (w1).drew = w2 at z2 p2 ⊢
    refine AnyG.pure (i := 0) (.move (.tmp 0)) 10 22 (.slice Ax0 x0.length cx0) (by kernel_rfl) (by kernel_rfl) (by kernel_rfl) (Fc.here trivial) ?_
    refine AnyG.pure (i := 1) (.move (.tmp 3)) 11 3 (.int .i64 x3) (by kernel_rfl) (by kernel_rfl) (by kernel_rfl) (Fc.here trivial) ?_
    refine AnyG.pure (i := 2) (.binOp .sub 3 (.tmp 11) (.const (.int .i64 1)) 3) 12 3 (.int .i64 (wr .i64 (x3 - 1))) (by kernel_rfl) (by kernel_rfl) (by kernel_rfl) (Fc.here trivial) ?_
    obtain ⟨g2, h⟩ := guard_some h
    obtain ⟨g3, h⟩ := guard_some h
    refine AnyG.ixR (i := 3) 22 (.tmp 10) (.tmp 12) 13 0 35 .i64 (wr .i64 (x3 - 1)) (fx0.ext z2) (by kernel_rfl) (by kernel_rfl) (Fc.here trivial) (by kernel_rfl) (by kernel_rfl) (by kernel_rfl) (by kernel_rfl) g2 g3 ?_
    rintro a4 _ f5 rfl
    refine AnyG.ld1 (i := 4) 35 (.tmp 13) 14 35 a4 (.int .u64 (gi x0 (wr .i64 (x3 - 1)))) (by kernel_rfl) (by kernel_rfl) (Fc.here trivial) (by kernel_rfl) (by kernel_rfl) (fun _ h => f5.fc h 0 _ rfl) ?_
    refine AnyG.pure (i := 5) (.move (.tmp 0)) 15 22 (.slice Ax0 x0.length cx0) (by kernel_rfl) (by kernel_rfl) (by kernel_rfl) (Fc.here trivial) ?_
    refine AnyG.pure (i := 6) (.move (.tmp 3)) 16 3 (.int .i64 x3) (by kernel_rfl) (by kernel_rfl) (by kernel_rfl) (Fc.here trivial) ?_
    obtain ⟨g6, h⟩ := guard_some h
    refine AnyG.ixR (i := 7) 22 (.tmp 15) (.tmp 16) 17 0 35 .i64 x3 (fx0.ext z2) (by kernel_rfl) (by kernel_rfl) (Fc.here trivial) (by kernel_rfl) (by kernel_rfl) (by kernel_rfl) (by kernel_rfl) g6 h1 ?_
    rintro a7 _ f8 rfl
    refine AnyG.ld1 (i := 8) 35 (.tmp 17) 18 35 a7 (.int .u64 (gi x0 x3)) (by kernel_rfl) (by kernel_rfl) (Fc.here trivial) (by kernel_rfl) (by kernel_rfl) (fun _ h => f8.fc h 0 _ rfl) ?_
    refine AnyG.pure (i := 9) (.binOp .geq 35 (.tmp 14) (.tmp 18) 35) 19 4 (.bool (decide (gi x0 (wr .i64 (x3 - 1)) ≥ gi x0 x3))) (by kernel_rfl) (by kernel_rfl) (by kernel_rfl) (Fc.here trivial) ?_
    refine AnyG.done (by kernel_rfl) ?_ _
    by_cases h9 : gi x0 (wr .i64 (x3 - 1)) ≥ gi x0 x3
    · rw [if_pos h9] at h
      rw [decide_eq_true h9]
      refine Goes.runs 5 [(2, .bool false)] [.code (sub [1, 0, 1, 0, 0, 1, 0, 0, 1, 0, 1] B50), .inBlock 1, .code (sub [1, 0, 1, 0, 0, 1, 1] B50), .inLoop (sub [1, 0, 1, 0, 0] B50), .inBlock 0, .code (sub [1, 1] B50)] (by kernel_rfl) ?_
      obtain rfl := Option.some.inj h
      exact Goes.ret (fn := Try.f50) (by kernel_rfl) (v := .bool false) (by kernel_rfl) ⟨S1, rfl, (hx.trans z2), p2⟩
    · rw [if_neg h9] at h
      rw [decide_eq_false h9]
      refine Goes.runs 9 [(8, .int .i64 x3), (9, .int .i64 (wr .i64 (x3 + 1))), (3, .int .i64 (wr .i64 (x3 + 1)))] [.code (sub [1, 0, 1, 0, 0] B50), .inLoop (sub [1, 0, 1, 0, 0] B50), .inBlock 0, .code (sub [1, 1] B50)] (by kernel_rfl) ?_
      exact Goes.jump 20 [(0, .slice Ax0 x0.length cx0), (3, .int .i64 (wr .i64 (x3 + 1)))] (by kernel_rfl) (ih_post_rises_uint64_l0 _ _ h _ _ (hx.trans z2) Ax0 cx0 p2 (fx0.ext z2))
  · rw [if_neg h1] at h
    rw [decide_eq_false h1]
    refine Goes.runs 6 [(2, .bool true)] [.code (sub [1, 1, 1] B50)] (by kernel_rfl) ?_
    obtain rfl := Option.some.inj h
    exact Goes.ret (fn := Try.f50) (by kernel_rfl) (v := .bool true) (by kernel_rfl) ⟨S1, rfl, hx, p1⟩

theorem W.post_rises_uint64 (x0 : List Int) (r : Bool) (h : M.post_rises_uint64 x0 = some r) (nz : Nat) (wz : World) (S0 : Fz) (w0 : World) (Lr : List Ent) (Ax0 : Option Addr) (cx0 : Nat) (p0 : Hp nz wz S0 w0 (Lr)) (fx0 : Rd (kInt .u64) S0 w0 Ax0 cx0 x0) :
    Calls Try.prog 50 #[.slice Ax0 x0.length cx0] w0 (Rets (Post.post_rises_uint64 nz wz S0 w0 Lr r)) := by
  refine calls_of_goes (fn := Try.f50) (c := B50) (by kernel_rfl) (by kernel_rfl) 19 (by kernel_rfl) ?_
  refine Goes.jump 20 [(0, .slice Ax0 x0.length cx0)] (by kernel_rfl) (fun junk => ?_)
  delta M.post_rises_uint64 at h
  refine Goes.runs 11 [(2, .bool false), (3, .int .i64 1)] [.code (sub [1, 0, 1, 0, 0] B50), .inLoop (sub [1, 0, 1, 0, 0] B50), .inBlock 0, .code (sub [1, 1] B50)] (by kernel_rfl) ?_
  exact Goes.jump 20 [(0, .slice Ax0 x0.length cx0), (3, .int .i64 1)] (by kernel_rfl) (W.post_rises_uint64_l0 nz wz S0 w0 Lr _ _ h _ _ (Ext.refl S0 w0) Ax0 cx0 p0 fx0)

/-! tidepole/post.Check -/
def Post.post_Check (nz : Nat) (wz : World) (S0 : Fz) (w0 : World) (Lr : List Ent) (r : Int) (v : Value) (w' : World) : Prop :=
  ∃ (S' : Fz) , v = .int .i64 r ∧ Ext S0 w0 S' w' ∧ Hp nz wz S' w' (Lr)

theorem W.post_Check (x0 : List Int) (r : Int) (h : M.post_Check x0 = some r) (nz : Nat) (wz : World) (S0 : Fz) (w0 : World) (Lr : List Ent) (Ax0 : Option Addr) (cx0 : Nat) (p0 : Hp nz wz S0 w0 (Lr)) (fx0 : Rd (kInt .u64) S0 w0 Ax0 cx0 x0) :
    Calls Try.prog 23 #[.slice Ax0 x0.length cx0] w0 (Rets (Post.post_Check nz wz S0 w0 Lr r)) := by
  refine calls_of_goes (fn := Try.f23) (c := B23) (by kernel_rfl) (by kernel_rfl) 5 (by kernel_rfl) ?_
  refine Goes.jump 6 [(0, .slice Ax0 x0.length cx0)] (by kernel_rfl) (fun junk => ?_)
  delta M.post_Check at h
  refine Goes.runs 8 [(2, .int .i64 0), (3, .slice Ax0 x0.length cx0)] [.inRegion (opsOf (sub [1, 0, 0] B23)) [1, 2], .code (sub [1, 0, 1] B23), .code (sub [1, 1] B23)] (by kernel_rfl) ?_
  obtain ⟨y1, e2, h⟩ := bind_some h
  try dsimp only at h
  refine Op_.call (.call { callee := .value (.func 50), args := #[(.tmp 3)], argTypes := #[22] }) 4 4 50 #[.slice Ax0 x0.length cx0] (Goes.cs (by kernel_rfl)) (by kernel_rfl) (W.post_rises_uint64 x0 y1 e2 nz wz S0 w0 (Lr) Ax0 cx0 p0 fx0) ?_
  rintro _ w2 ⟨S2, rfl, z2, p2⟩
  refine Goes.runs 2 [(5, .bool (!y1))] [.code (sub [1, 0, 1] B23), .code (sub [1, 1] B23)] (by kernel_rfl) ?_
  by_cases h3 : y1 = true
  · rw [if_pos h3] at h
    rw [h3]
    refine Goes.runs 6 [(2, .int .i64 0)] [.code (sub [1, 1, 1] B23)] (by kernel_rfl) ?_
    obtain rfl := Option.some.inj h
    exact Goes.ret (fn := Try.f23) (by kernel_rfl) (v := .int .i64 0) (by kernel_rfl) ⟨S2, rfl, ((Ext.refl S0 w0).trans z2), p2⟩
  · rw [if_neg h3] at h
    have h3' : y1 = false := by simpa using h3
    rw [h3']
    refine Goes.runs 5 [(2, .int .i64 2)] [.code (sub [1, 0, 1, 0, 1] B23), .code (sub [1, 1] B23)] (by kernel_rfl) ?_
    obtain rfl := Option.some.inj h
    exact Goes.ret (fn := Try.f23) (by kernel_rfl) (v := .int .i64 2) (by kernel_rfl) ⟨S2, rfl, ((Ext.refl S0 w0).trans z2), p2⟩

/-! slices.Clone[[]uint64,uint64] -/
def Post.slices_Clone_uint64_uint64 (nz : Nat) (wz : World) (S0 : Fz) (w0 : World) (Lr : List Ent) (r : List Int) (v : Value) (w' : World) : Prop :=
  ∃ (S' : Fz) (G1 : Option Nat) (c2 : Nat) (cs3 : List Value), v = .slice (Gp G1) r.length c2 ∧ Ext S0 w0 S' w' ∧ Hp nz wz S' w' ((G1, .row 35 cs3 (c2 * (kInt .u64).size) 0) :: Lr) ∧ Els (kInt .u64) S' w' cs3 r

theorem W.slices_Clone_uint64_uint64 (x0 : List Int) (r : List Int) (h : M.slices_Clone_uint64_uint64 x0 = some r) (nz : Nat) (wz : World) (S0 : Fz) (w0 : World) (Lr : List Ent) (Ax0 : Option Addr) (cx0 : Nat) (p0 : Hp nz wz S0 w0 (Lr)) (fx0 : Rd (kInt .u64) S0 w0 Ax0 cx0 x0) :
    Calls Try.prog 55 #[.slice Ax0 x0.length cx0] w0 (Rets (Post.slices_Clone_uint64_uint64 nz wz S0 w0 Lr r)) := by
  refine calls_of_goes (fn := Try.f55) (c := B55) (by kernel_rfl) (by kernel_rfl) 7 (by kernel_rfl) ?_
  refine Goes.jump 8 [(0, .slice Ax0 x0.length cx0)] (by kernel_rfl) (fun junk => ?_)
  delta M.slices_Clone_uint64_uint64 at h
  refine Goes.runs 8 [(2, .slice none 0 0), (3, .slice Ax0 x0.length cx0)] [.inRegion (opsOf (sub [1, 0, 0] B55)) [1], .code (sub [1, 0, 1] B55), .code (sub [1, 1] B55)] (by kernel_rfl) ?_
  rcases Rd.isnil fx0 with ⟨rfl, rfl, rfl⟩ | ⟨a1, rfl⟩
  · replace h : (some ([] : List Int)) = some r := by first | exact h | (simpa using h) | (simp at h ⊢; exact h)
    refine Goes.runs 7 [(4, .bool true), (2, .slice none 0 0)] [.code (sub [1, 0, 1, 0, 1] B55), .code (sub [1, 1] B55)] (by kernel_rfl) ?_
    have p0 : Hp nz wz S0 w0 ((none, .row 35 [] (0 * (kInt .u64).size) 0) :: Lr) := p0.nilRow' 35
    obtain rfl := Option.some.inj h
    exact Goes.ret (fn := Try.f55) (by kernel_rfl) (v := .slice (Gp none) ([] : List Int).length 0) (by kernel_rfl) ⟨S0, none, 0, [], rfl, (Ext.refl S0 w0), p0, (Els.nil : Els (kInt .u64) S0 w0 [] [])⟩
  · refine Goes.runs 6 [(4, .bool false)] [.inRegion (opsOf (sub [1, 1, 0] B55)) [0, 1, 2, 3], .code (sub [1, 1, 1] B55)] (by kernel_rfl) ?_
    have f4 : Els (kInt .u64) S0 w0 ([] : List Value) ([] : List Int) := Els.nil
    refine Op_.made (.buildSlice 22 0 #[]) 5 22 (fun b => .slice (Gp (some b)) 0 0) 35 ([] : List Value) p0 (Goes.vs (by kernel_rfl)) (by kernel_rfl) ?_
    intro b3 w2 z2 p2
    have p2 : Hp nz wz S0 w2 (((some b3), .row 35 ([] : List Value) (0 * (kInt .u64).size) 0) :: Lr) := p2
    refine Goes.runs 1 [(6, .slice (some a1) x0.length cx0)] [.inRegion (opsOf (sub [1, 1, 0] B55)) [2, 3], .code (sub [1, 1, 1] B55)] (by kernel_rfl) ?_
    obtain ⟨ns6, f7, f8⟩ := src_rd (fx0.ext z2)
    obtain ⟨g9, h⟩ := guard_some h
    refine Op_.ap (K := (kInt .u64)) 22 (.tmp 5) (.tmp 6) 7 22 35 0 (.int .u64 0) 8 0 ([] : List Int) x0 (some a1) cx0 p2 rfl (f4.ext z2) (Goes.vs (by kernel_rfl)) (by kernel_rfl) (by kernel_rfl) (by kernel_rfl) (by kernel_rfl) rfl (by decide) f7 f8 (by have := g9; simp only [List.nil_append]; omega) (by have := g9; simp only [List.nil_append]; omega) ?_
    intro w3 G10 c11 cs12 z3 p3 f13
    refine Goes.runs 2 [(2, .slice (Gp G10) x0.length c11)] [.code (sub [1, 1, 1] B55)] (by kernel_rfl) ?_
    obtain rfl := Option.some.inj h
    exact Goes.ret (fn := Try.f55) (by kernel_rfl) (v := .slice (Gp G10) x0.length c11) (by kernel_rfl) ⟨S0, G10, c11, cs12, rfl, (((Ext.refl S0 w0).trans z2).trans z3), p3, f13⟩

/-! tidepole/post.merge[uint64] -/
def Post.post_merge_uint64 (nz : Nat) (wz : World) (S0 : Fz) (w0 : World) (Lr : List Ent) (r : (List Int) × (List Int)) (v : Value) (w' : World) : Prop :=
  ∃ (S' : Fz) (b1 : Nat) (A2 : Option Addr) (c3 : Nat) (b4 : Nat) (A5 : Option Addr) (c6 : Nat), v = .func (.func 68) #[] #[.pointer (some ⟨b1, 0, none⟩), .pointer (some ⟨b4, 0, none⟩)] ∧ Ext S0 w0 S' w' ∧ Hp nz wz S' w' ((some b1, .row 22 [.slice A2 r.1.length c3] 1 0) :: (some b4, .row 22 [.slice A5 r.2.length c6] 1 0) :: Lr) ∧ Rd (kInt .u64) S' w' A2 c3 r.1 ∧ Rd (kInt .u64) S' w' A5 c6 r.2

theorem W.post_merge_uint64 (x0 : List Int) (x1 : List Int) (r : (List Int) × (List Int)) (h : M.post_merge_uint64 x0 x1 = some r) (nz : Nat) (wz : World) (S0 : Fz) (w0 : World) (Lr : List Ent) (Ax0 : Option Addr) (cx0 : Nat) (Ax1 : Option Addr) (cx1 : Nat) (p0 : Hp nz wz S0 w0 (Lr)) (fx0 : Rd (kInt .u64) S0 w0 Ax0 cx0 x0) (fx1 : Rd (kInt .u64) S0 w0 Ax1 cx1 x1) :
    Calls Try.prog 63 #[.slice Ax0 x0.length cx0, .slice Ax1 x1.length cx1] w0 (Rets (Post.post_merge_uint64 nz wz S0 w0 Lr r)) := by
  refine calls_of_goes (fn := Try.f63) (c := B63) (by kernel_rfl) (by kernel_rfl) 4 (by kernel_rfl) ?_
  refine Goes.jump 6 [(0, .slice Ax0 x0.length cx0), (1, .slice Ax1 x1.length cx1)] (by kernel_rfl) (fun junk => ?_)
  delta M.post_merge_uint64 at h
  refine Goes.runs 2 [] [.inRegion (opsOf (sub [0] B63)) [0, 1, 2], .code (sub [1] B63)] (by kernel_rfl) ?_
  refine Op_.box 22 (.tmp 0) 2 0 (.slice Ax0 x0.length cx0) [.slice Ax0 x0.length cx0] p0 (Goes.vs (by kernel_rfl)) (by kernel_rfl) (by kernel_rfl) ?_
  intro b1 w2 z2 p2
  refine Op_.box 22 (.tmp 1) 3 0 (.slice Ax1 x1.length cx1) [.slice Ax1 x1.length cx1] p2 (Goes.vs (by kernel_rfl)) (by kernel_rfl) (by kernel_rfl) ?_
  intro b3 w3 z3 p3
  refine Goes.runs 7 [(4, .func (.func 68) #[] #[.pointer (some ⟨b1, 0, none⟩), .pointer (some ⟨b3, 0, none⟩)]), (5, .func (.func 68) #[] #[.pointer (some ⟨b1, 0, none⟩), .pointer (some ⟨b3, 0, none⟩)])] [.code (sub [1, 1] B63)] (by kernel_rfl) ?_
  have p3 := p3.front 0 _ rfl
  have p3 := p3.front 1 _ rfl
  obtain rfl := Option.some.inj h
  exact Goes.ret (fn := Try.f63) (by kernel_rfl) (v := .func (.func 68) #[] #[.pointer (some ⟨b1, 0, none⟩), .pointer (some ⟨b3, 0, none⟩)]) (by kernel_rfl) ⟨S0, b1, Ax0, cx0, b3, Ax1, cx1, rfl, (((Ext.refl S0 w0).trans z2).trans z3), p3, ((fx0.ext z2).ext z3), ((fx1.ext z2).ext z3)⟩

/-! tidepole/post.both -/
def Post.post_both (nz : Nat) (wz : World) (S0 : Fz) (w0 : World) (Lr : List Ent) (r : Bool) (v : Value) (w' : World) : Prop :=
  ∃ (S' : Fz) , v = .bool r ∧ Ext S0 w0 S' w' ∧ Hp nz wz S' w' (Lr)

theorem W.post_both (x0 : Int) (r : Bool) (h : M.post_both x0 = some r) (nz : Nat) (wz : World) (S0 : Fz) (w0 : World) (Lr : List Ent) (p0 : Hp nz wz S0 w0 (Lr)) :
    Calls Try.prog 46 #[.int .i64 x0] w0 (Rets (Post.post_both nz wz S0 w0 Lr r)) := by
  refine calls_of_goes (fn := Try.f46) (c := B46) (by kernel_rfl) (by kernel_rfl) 4 (by kernel_rfl) ?_
  refine Goes.jump 5 [(0, .int .i64 x0)] (by kernel_rfl) (fun junk => ?_)
  delta M.post_both at h
  refine Goes.runs 10 [(2, .bool (decide (x0 = 3))), (3, .int .i64 x0), (4, .bool (decide (x0 = 3)))] [.code (sub [1, 1] B46)] (by kernel_rfl) ?_
  obtain rfl := Option.some.inj h
  exact Goes.ret (fn := Try.f46) (by kernel_rfl) (v := .bool (decide (x0 = 3))) (by kernel_rfl) ⟨S0, rfl, (Ext.refl S0 w0), p0⟩

/-! tidepole/post.those[uint64] -/
def Post.post_those_uint64__r (nz : Nat) (wz : World) (S0 : Fz) (w0 : World) (Lr : List Ent) (lk : Nat) (rk : Nat) (jkk : Nat → Value) (gkq5 : Nat) (gkq7 : Nat) (gkq12b0 : Nat) (gkq12b1 : Nat) (r : (List Int) × (List Int) × (List Int)) (v : Value) (w' : World) : Prop :=
  ∃ (S' : Fz) (G1 : Option Nat) (c2 : Nat) (cs3 : List Value) (A4 : Option Addr) (c5 : Nat) (A6 : Option Addr) (c7 : Nat), v = .bool true ∧ Ext S0 w0 S' w' ∧ Hp nz wz S' w' ((G1, .row 35 cs3 (c2 * (kInt .u64).size) 0) :: (some lk, .obj (lpst 58 (lfr 23 [(5, .pointer (some ⟨gkq5, 0, none⟩)), (7, .pointer (some ⟨gkq7, 0, none⟩)), (12, .func (.func 68) #[] #[.pointer (some ⟨gkq12b0, 0, none⟩), .pointer (some ⟨gkq12b1, 0, none⟩)])] jkk) #[13, 14] (rfAssign (sub [1, 1, 0, 1, 0] B58)) (rfBody (sub [1, 1, 0, 1, 0] B58)) rk .ready none)) :: (some gkq5, .row 72 [.func (.func 46) #[] #[]] 1 0) :: (some gkq7, .row 22 [.slice (Gp G1) r.1.length c2] 1 0) :: (some gkq12b0, .row 22 [.slice A4 r.2.1.length c5] 1 0) :: (some gkq12b1, .row 22 [.slice A6 r.2.2.length c7] 1 0) :: Lr) ∧ Els (kInt .u64) S' w' cs3 r.1 ∧ Rd (kInt .u64) S' w' A4 c5 r.2.1 ∧ Rd (kInt .u64) S' w' A6 c7 r.2.2

theorem W.post_those_uint64__r (kq7v0 : List Int) (kq12b0v0 : List Int) (kq12b1v0 : List Int) (a0 : Int) (a1 : Int) (r : (List Int) × (List Int) × (List Int)) (h : M.post_those_uint64__r kq7v0 kq12b0v0 kq12b1v0 a0 a1 = some r) (nz : Nat) (wz : World) (S0 : Fz) (w0 : World) (Lr : List Ent) (lk : Nat) (rk : Nat) (jkk : Nat → Value) (gkq5 : Nat) (gkq7 : Nat) (Gkq7v0 : Option Nat) (ckq7v0 : Nat) (cskq7v0 : List Value) (gkq12b0 : Nat) (Akq12b0v0 : Option Addr) (ckq12b0v0 : Nat) (gkq12b1 : Nat) (Akq12b1v0 : Option Addr) (ckq12b1v0 : Nat) (p0 : Hp nz wz S0 w0 ((some lk, .obj (lpst 58 (lfr 23 [(5, .pointer (some ⟨gkq5, 0, none⟩)), (7, .pointer (some ⟨gkq7, 0, none⟩)), (12, .func (.func 68) #[] #[.pointer (some ⟨gkq12b0, 0, none⟩), .pointer (some ⟨gkq12b1, 0, none⟩)])] jkk) #[13, 14] (rfAssign (sub [1, 1, 0, 1, 0] B58)) (rfBody (sub [1, 1, 0, 1, 0] B58)) rk .ready none)) :: (some gkq5, .row 72 [.func (.func 46) #[] #[]] 1 0) :: (some gkq7, .row 22 [.slice (Gp Gkq7v0) kq7v0.length ckq7v0] 1 0) :: (Gkq7v0, .row 35 cskq7v0 (ckq7v0 * (kInt .u64).size) 0) :: (some gkq12b0, .row 22 [.slice Akq12b0v0 kq12b0v0.length ckq12b0v0] 1 0) :: (some gkq12b1, .row 22 [.slice Akq12b1v0 kq12b1v0.length ckq12b1v0] 1 0) :: Lr)) (fkq7v0 : Els (kInt .u64) S0 w0 cskq7v0 kq7v0) (fkq12b0v0 : Rd (kInt .u64) S0 w0 Akq12b0v0 ckq12b0v0 kq12b0v0) (fkq12b1v0 : Rd (kInt .u64) S0 w0 Akq12b1v0 ckq12b1v0 kq12b1v0) :
    Goes Try.prog (rbase 58 lk) [.code (rfAssign (sub [1, 1, 0, 1, 0] B58)), .beginRound, .code (rfBody (sub [1, 1, 0, 1, 0] B58))] ⟨setp (lfr 23 [(5, .pointer (some ⟨gkq5, 0, none⟩)), (7, .pointer (some ⟨gkq7, 0, none⟩)), (12, .func (.func 68) #[] #[.pointer (some ⟨gkq12b0, 0, none⟩), .pointer (some ⟨gkq12b1, 0, none⟩)])] jkk) #[13, 14] #[.int .u64 a0, .int .i64 a1], []⟩ w0 (DoneR (Post.post_those_uint64__r nz wz S0 w0 Lr lk rk jkk gkq5 gkq7 gkq12b0 gkq12b1 r)) := by
  refine Goes.jump 23 [(5, .pointer (some ⟨gkq5, 0, none⟩)), (7, .pointer (some ⟨gkq7, 0, none⟩)), (12, .func (.func 68) #[] #[.pointer (some ⟨gkq12b0, 0, none⟩), .pointer (some ⟨gkq12b1, 0, none⟩)]), (13, .int .u64 a0), (14, .int .i64 a1)] (by kernel_rfl) (fun junk => ?_)
  delta M.post_those_uint64__r at h
  refine Goes.runs 7 [(8, .int .u64 a0), (9, .int .i64 a1)] [.beginRound, .code (sub [1, 1, 0, 1, 0, 1] B58)] (by kernel_rfl) ?_
  refine Goes.beginR 0 rfl p0 rfl ?_
  intro w2 z2 p2
  refine Goes.runs 3 [] [.inRegion (opsOf (sub [1, 1, 0, 1, 0, 1, 0, 0] B58)) [0, 1, 2], .code (sub [1, 1, 0, 1, 0, 1, 0, 1] B58), .inBlock 1] (by kernel_rfl) ?_
  refine Op_.ld1 72 (.tmp 5) 15 72 ⟨gkq5, 0, none⟩ (.func (.func 46) #[] #[]) (Goes.vs (by kernel_rfl)) (by kernel_rfl) (by kernel_rfl) ((p2.mem 1 rfl).cell 0 _ rfl) ?_
  refine Goes.runs 1 [(16, .int .i64 a1)] [.inRegion (opsOf (sub [1, 1, 0, 1, 0, 1, 0, 0] B58)) [2], .code (sub [1, 1, 0, 1, 0, 1, 0, 1] B58), .inBlock 1] (by kernel_rfl) ?_
  obtain ⟨y1, e2, h⟩ := bind_some h
  try dsimp only at h
  refine Op_.call (.call { callee := .value (.tmp 15), args := #[(.tmp 16)], argTypes := #[3] }) 17 4 46 #[.int .i64 a1] (Goes.cs (by kernel_rfl)) (by kernel_rfl) (W.post_both a1 y1 e2 nz wz S0 w2 ((some lk, .obj (lpst 58 (lfr 23 [(5, .pointer (some ⟨gkq5, 0, none⟩)), (7, .pointer (some ⟨gkq7, 0, none⟩)), (12, .func (.func 68) #[] #[.pointer (some ⟨gkq12b0, 0, none⟩), .pointer (some ⟨gkq12b1, 0, none⟩)])] jkk) #[13, 14] (rfAssign (sub [1, 1, 0, 1, 0] B58)) (rfBody (sub [1, 1, 0, 1, 0] B58)) rk .busy none)) :: (some gkq5, .row 72 [.func (.func 46) #[] #[]] 1 0) :: (some gkq7, .row 22 [.slice (Gp Gkq7v0) kq7v0.length ckq7v0] 1 0) :: (Gkq7v0, .row 35 cskq7v0 (ckq7v0 * (kInt .u64).size) 0) :: (some gkq12b0, .row 22 [.slice Akq12b0v0 kq12b0v0.length ckq12b0v0] 1 0) :: (some gkq12b1, .row 22 [.slice Akq12b1v0 kq12b1v0.length ckq12b1v0] 1 0) :: Lr)  p2 ) ?_
  rintro _ w3 ⟨S3, rfl, z3, p3⟩
  refine Goes.runs 1 [] [.code (sub [1, 1, 0, 1, 0, 1, 0, 1] B58), .inBlock 1] (by kernel_rfl) ?_
  by_cases h3 : y1 = true
  · rw [if_pos h3] at h
    rw [h3]
    refine Goes.runs 2 [] [.inRegion (opsOf (sub [1, 1, 0, 1, 0, 1, 0, 1, 0] B58)) [0, 1, 2, 3, 4], .inBlock 1] (by kernel_rfl) ?_
    refine Op_.ld1 22 (.tmp 7) 18 22 ⟨gkq7, 0, none⟩ (.slice (Gp Gkq7v0) kq7v0.length ckq7v0) (Goes.vs (by kernel_rfl)) (by kernel_rfl) (by kernel_rfl) ((p3.mem 2 rfl).cell 0 _ rfl) ?_
    refine Goes.runs 1 [(19, .int .u64 a0)] [.inRegion (opsOf (sub [1, 1, 0, 1, 0, 1, 0, 1, 0] B58)) [2, 3, 4], .inBlock 1] (by kernel_rfl) ?_
    have f5 : Els (kInt .u64) S3 w3 ([.int .u64 a0] : List Value) [a0] := (Els.cons (K := (kInt .u64)) (vs := [.int .u64 a0]) (x := a0) rfl Els.nil)
    refine Op_.made (.buildSlice 22 1 #[(0, (.tmp 19))]) 20 22 (fun b => .slice (Gp (some b)) 1 1) 35 ([.int .u64 a0] : List Value) p3 (Goes.vs (by kernel_rfl)) (by kernel_rfl) ?_
    intro b4 w4 z4 p4
    have p4 : Hp nz wz S3 w4 (((some b4), .row 35 ([.int .u64 a0] : List Value) (1 * (kInt .u64).size) 0) :: (some lk, .obj (lpst 58 (lfr 23 [(5, .pointer (some ⟨gkq5, 0, none⟩)), (7, .pointer (some ⟨gkq7, 0, none⟩)), (12, .func (.func 68) #[] #[.pointer (some ⟨gkq12b0, 0, none⟩), .pointer (some ⟨gkq12b1, 0, none⟩)])] jkk) #[13, 14] (rfAssign (sub [1, 1, 0, 1, 0] B58)) (rfBody (sub [1, 1, 0, 1, 0] B58)) rk .busy none)) :: (some gkq5, .row 72 [.func (.func 46) #[] #[]] 1 0) :: (some gkq7, .row 22 [.slice (Gp Gkq7v0) kq7v0.length ckq7v0] 1 0) :: (Gkq7v0, .row 35 cskq7v0 (ckq7v0 * (kInt .u64).size) 0) :: (some gkq12b0, .row 22 [.slice Akq12b0v0 kq12b0v0.length ckq12b0v0] 1 0) :: (some gkq12b1, .row 22 [.slice Akq12b1v0 kq12b1v0.length ckq12b1v0] 1 0) :: Lr) := p4
    obtain ⟨g10, h⟩ := guard_some h
    refine Op_.ap (K := (kInt .u64)) 22 (.tmp 18) (.tmp 20) 21 22 35 4 (.int .u64 0) 8 ckq7v0 kq7v0 [a0] (Gp (some b4)) 1 p4 rfl (((fkq7v0.ext z2).ext z3).ext z4) (Goes.vs (by kernel_rfl)) (by kernel_rfl) (by kernel_rfl) (by kernel_rfl) (by kernel_rfl) rfl (by decide) (f5.ext z4) (src_own p4 (q := 0) rfl) (by have := g10; omega) (by have := g10; omega) ?_
    intro w5 G11 c12 cs13 z5 p5 f14
    refine Op_.st 22 (.tmp 7) (.tmp 21) 0 3 gkq7 0 (.slice (Gp G11) (kq7v0 ++ [a0]).length c12) [.slice (Gp G11) (kq7v0 ++ [a0]).length c12] p5 rfl (Goes.ss (by kernel_rfl)) (by kernel_rfl) (by kernel_rfl) (by kernel_rfl) (by kernel_rfl) (Nat.zero_le _) (by simp only [List.length_cons, List.length_nil]; omega) (by simp [Value.oneCell']) ?_
    intro w6 z6 p6
    refine Goes.runs 2 [] [] (by kernel_rfl) ?_
    have p6 := (p6.front 0 _ rfl).drop
    have p6 := p6.front 5 _ rfl
    have p6 := p6.front 5 _ rfl
    have p6 := p6.front 4 _ rfl
    have p6 := p6.front 4 _ rfl
    have p6 := p6.front 4 _ rfl
    have p6 := p6.front 5 _ rfl
    obtain rfl := Option.some.inj h
    refine Goes.endR 1 p6 rfl ?_
    intro w7 z7 p7
    exact ⟨S3, G11, c12, cs13, Akq12b0v0, ckq12b0v0, Akq12b1v0, ckq12b1v0, rfl, (((((((Ext.refl S0 w0).trans z2).trans z3).trans z4).trans z5).trans z6).trans z7), p7, ((f14.ext z6).ext z7), ((((((fkq12b0v0.ext z2).ext z3).ext z4).ext z5).ext z6).ext z7), ((((((fkq12b1v0.ext z2).ext z3).ext z4).ext z5).ext z6).ext z7)⟩
  · rw [if_neg h3] at h
    have h3' : y1 = false := by simpa using h3
    rw [h3']
    refine Goes.runs 3 [] [] (by kernel_rfl) ?_
    have p3 := p3.front 5 _ rfl
    have p3 := p3.front 5 _ rfl
    have p3 := p3.front 4 _ rfl
    have p3 := p3.front 4 _ rfl
    have p3 := p3.front 4 _ rfl
    have p3 := p3.front 5 _ rfl
    obtain rfl := Option.some.inj h
    refine Goes.endR 1 p3 rfl ?_
    intro w8 z8 p8
    exact ⟨S3, Gkq7v0, ckq7v0, cskq7v0, Akq12b0v0, ckq12b0v0, Akq12b1v0, ckq12b1v0, rfl, ((((Ext.refl S0 w0).trans z2).trans z3).trans z8), p8, (((fkq7v0.ext z2).ext z3).ext z8), (((fkq12b0v0.ext z2).ext z3).ext z8), (((fkq12b1v0.ext z2).ext z3).ext z8)⟩

/-! tidepole/post.merge[uint64]$1 -/
def Post.post_merge_uint64_1 (nz : Nat) (wz : World) (S0 : Fz) (w0 : World) (Lr : List Ent) (lx0 : Nat) (rx0 : Nat) (jkx0 : Nat → Value) (gx0q5 : Nat) (gx0q7 : Nat) (gx0q12b0 : Nat) (gx0q12b1 : Nat) (r : (List Int) × (List Int) × (List Int)) (v : Value) (w' : World) : Prop :=
  ∃ (S' : Fz) (G1 : Option Nat) (c2 : Nat) (cs3 : List Value) (A4 : Option Addr) (c5 : Nat) (A6 : Option Addr) (c7 : Nat), v = .tuple #[] ∧ Ext S0 w0 S' w' ∧ Hp nz wz S' w' ((G1, .row 35 cs3 (c2 * (kInt .u64).size) 0) :: (some lx0, .obj (lpst 58 (lfr 23 [(5, .pointer (some ⟨gx0q5, 0, none⟩)), (7, .pointer (some ⟨gx0q7, 0, none⟩)), (12, .func (.func 68) #[] #[.pointer (some ⟨gx0q12b0, 0, none⟩), .pointer (some ⟨gx0q12b1, 0, none⟩)])] jkx0) #[13, 14] (rfAssign (sub [1, 1, 0, 1, 0] B58)) (rfBody (sub [1, 1, 0, 1, 0] B58)) rx0 .ready none)) :: (some gx0q5, .row 72 [.func (.func 46) #[] #[]] 1 0) :: (some gx0q7, .row 22 [.slice (Gp G1) r.1.length c2] 1 0) :: (some gx0q12b0, .row 22 [.slice A4 r.2.1.length c5] 1 0) :: (some gx0q12b1, .row 22 [.slice A6 r.2.2.length c7] 1 0) :: Lr) ∧ Els (kInt .u64) S' w' cs3 r.1 ∧ Rd (kInt .u64) S' w' A4 c5 r.2.1 ∧ Rd (kInt .u64) S' w' A6 c7 r.2.2

def L.post_merge_uint64_1_l0 (nz : Nat) (wz : World) (S0 : Fz) (w0 : World) (Lr : List Ent) (lx0 : Nat) (rx0 : Nat) (jkx0 : Nat → Value) (gx0q5 : Nat) (gx0q7 : Nat) (gx0q12b0 : Nat) (gx0q12b1 : Nat) : List Int × List Int × List Int → ((List Int) × (List Int) × (List Int)) → Prop := fun ⟨x1v0, x2v0, eE2v0⟩ r => ∀ S1 w1, Ext S0 w0 S1 w1 → ∀ (Ax1v0 : Option Addr) (cx1v0 : Nat) (Ax2v0 : Option Addr) (cx2v0 : Nat) (GeE2v0 : Option Nat) (ceE2v0 : Nat) (cseE2v0 : List Value) (_ : Hp nz wz S1 w1 ((some lx0, .obj (lpst 58 (lfr 23 [(5, .pointer (some ⟨gx0q5, 0, none⟩)), (7, .pointer (some ⟨gx0q7, 0, none⟩)), (12, .func (.func 68) #[] #[.pointer (some ⟨gx0q12b0, 0, none⟩), .pointer (some ⟨gx0q12b1, 0, none⟩)])] jkx0) #[13, 14] (rfAssign (sub [1, 1, 0, 1, 0] B58)) (rfBody (sub [1, 1, 0, 1, 0] B58)) rx0 .ready none)) :: (some gx0q12b0, .row 22 [.slice Ax1v0 x1v0.length cx1v0] 1 0) :: (some gx0q12b1, .row 22 [.slice Ax2v0 x2v0.length cx2v0] 1 0) :: (some gx0q5, .row 72 [.func (.func 46) #[] #[]] 1 0) :: (some gx0q7, .row 22 [.slice (Gp GeE2v0) eE2v0.length ceE2v0] 1 0) :: (GeE2v0, .row 35 cseE2v0 (ceE2v0 * (kInt .u64).size) 0) :: Lr)) (_ : Rd (kInt .u64) S1 w1 Ax1v0 cx1v0 x1v0) (_ : Rd (kInt .u64) S1 w1 Ax2v0 cx2v0 x2v0) (_ : Els (kInt .u64) S1 w1 cseE2v0 eE2v0) (junk : Nat → Value),
  Goes Try.prog (base 68) [.code (sub [0, 0] B68), .inLoop (sub [0, 0] B68), .inBlock 0] ⟨lfr 73 [(0, yieldV lx0), (1, .pointer (some ⟨gx0q12b0, 0, none⟩)), (2, .pointer (some ⟨gx0q12b1, 0, none⟩))] junk, []⟩ w1 (Done Try.prog 68 (Rets (Post.post_merge_uint64_1 nz wz S0 w0 Lr lx0 rx0 jkx0 gx0q5 gx0q7 gx0q12b0 gx0q12b1 r)))

def L.post_merge_uint64_1_l1 (nz : Nat) (wz : World) (S0 : Fz) (w0 : World) (Lr : List Ent) (lx0 : Nat) (rx0 : Nat) (jkx0 : Nat → Value) (gx0q5 : Nat) (gx0q7 : Nat) (gx0q12b0 : Nat) (gx0q12b1 : Nat) : List Int × List Int × Bool × List Int → ((List Int) × (List Int) × (List Int)) → Prop := fun ⟨x1v0, x2v0, x13, eE2v0⟩ r => ∀ S1 w1, Ext S0 w0 S1 w1 → ∀ (Ax1v0 : Option Addr) (cx1v0 : Nat) (Ax2v0 : Option Addr) (cx2v0 : Nat) (GeE2v0 : Option Nat) (ceE2v0 : Nat) (cseE2v0 : List Value) (_ : Hp nz wz S1 w1 ((some lx0, .obj (lpst 58 (lfr 23 [(5, .pointer (some ⟨gx0q5, 0, none⟩)), (7, .pointer (some ⟨gx0q7, 0, none⟩)), (12, .func (.func 68) #[] #[.pointer (some ⟨gx0q12b0, 0, none⟩), .pointer (some ⟨gx0q12b1, 0, none⟩)])] jkx0) #[13, 14] (rfAssign (sub [1, 1, 0, 1, 0] B58)) (rfBody (sub [1, 1, 0, 1, 0] B58)) rx0 .ready none)) :: (some gx0q12b0, .row 22 [.slice Ax1v0 x1v0.length cx1v0] 1 0) :: (some gx0q12b1, .row 22 [.slice Ax2v0 x2v0.length cx2v0] 1 0) :: (some gx0q5, .row 72 [.func (.func 46) #[] #[]] 1 0) :: (some gx0q7, .row 22 [.slice (Gp GeE2v0) eE2v0.length ceE2v0] 1 0) :: (GeE2v0, .row 35 cseE2v0 (ceE2v0 * (kInt .u64).size) 0) :: Lr)) (_ : Rd (kInt .u64) S1 w1 Ax1v0 cx1v0 x1v0) (_ : Rd (kInt .u64) S1 w1 Ax2v0 cx2v0 x2v0) (_ : Els (kInt .u64) S1 w1 cseE2v0 eE2v0) (junk : Nat → Value),
  Goes Try.prog (base 68) [.code (sub [0, 0, 0, 1] B68), .code (sub [0, 0, 1] B68), .inLoop (sub [0, 0] B68), .inBlock 0] ⟨lfr 73 [(0, yieldV lx0), (1, .pointer (some ⟨gx0q12b0, 0, none⟩)), (2, .pointer (some ⟨gx0q12b1, 0, none⟩)), (13, .bool x13)] junk, []⟩ w1 (Done Try.prog 68 (Rets (Post.post_merge_uint64_1 nz wz S0 w0 Lr lx0 rx0 jkx0 gx0q5 gx0q7 gx0q12b0 gx0q12b1 r)))

def L.post_merge_uint64_1_l2 (nz : Nat) (wz : World) (S0 : Fz) (w0 : World) (Lr : List Ent) (lx0 : Nat) (rx0 : Nat) (jkx0 : Nat → Value) (gx0q5 : Nat) (gx0q7 : Nat) (gx0q12b0 : Nat) (gx0q12b1 : Nat) : List Int × List Int × Int × Bool × List Int → ((List Int) × (List Int) × (List Int)) → Prop := fun ⟨x1v0, x2v0, x4, x30, eE2v0⟩ r => ∀ S1 w1, Ext S0 w0 S1 w1 → ∀ (Ax1v0 : Option Addr) (cx1v0 : Nat) (Ax2v0 : Option Addr) (cx2v0 : Nat) (GeE2v0 : Option Nat) (ceE2v0 : Nat) (cseE2v0 : List Value) (_ : Hp nz wz S1 w1 ((some lx0, .obj (lpst 58 (lfr 23 [(5, .pointer (some ⟨gx0q5, 0, none⟩)), (7, .pointer (some ⟨gx0q7, 0, none⟩)), (12, .func (.func 68) #[] #[.pointer (some ⟨gx0q12b0, 0, none⟩), .pointer (some ⟨gx0q12b1, 0, none⟩)])] jkx0) #[13, 14] (rfAssign (sub [1, 1, 0, 1, 0] B58)) (rfBody (sub [1, 1, 0, 1, 0] B58)) rx0 .ready none)) :: (some gx0q12b0, .row 22 [.slice Ax1v0 x1v0.length cx1v0] 1 0) :: (some gx0q12b1, .row 22 [.slice Ax2v0 x2v0.length cx2v0] 1 0) :: (some gx0q5, .row 72 [.func (.func 46) #[] #[]] 1 0) :: (some gx0q7, .row 22 [.slice (Gp GeE2v0) eE2v0.length ceE2v0] 1 0) :: (GeE2v0, .row 35 cseE2v0 (ceE2v0 * (kInt .u64).size) 0) :: Lr)) (_ : Rd (kInt .u64) S1 w1 Ax1v0 cx1v0 x1v0) (_ : Rd (kInt .u64) S1 w1 Ax2v0 cx2v0 x2v0) (_ : Els (kInt .u64) S1 w1 cseE2v0 eE2v0) (junk : Nat → Value),
  Goes Try.prog (base 68) [.code (sub [0, 0, 1, 0, 1, 0, 1] B68), .code (sub [0, 0, 1, 0, 1, 1] B68), .inBlock 1, .inLoop (sub [0, 0] B68), .inBlock 0] ⟨lfr 73 [(0, yieldV lx0), (1, .pointer (some ⟨gx0q12b0, 0, none⟩)), (2, .pointer (some ⟨gx0q12b1, 0, none⟩)), (4, .int .i64 x4), (30, .bool x30)] junk, []⟩ w1 (Done Try.prog 68 (Rets (Post.post_merge_uint64_1 nz wz S0 w0 Lr lx0 rx0 jkx0 gx0q5 gx0q7 gx0q12b0 gx0q12b1 r)))

def L.post_merge_uint64_1_l3 (nz : Nat) (wz : World) (S0 : Fz) (w0 : World) (Lr : List Ent) (lx0 : Nat) (rx0 : Nat) (jkx0 : Nat → Value) (gx0q5 : Nat) (gx0q7 : Nat) (gx0q12b0 : Nat) (gx0q12b1 : Nat) : List Int × List Int × Int × List Int → ((List Int) × (List Int) × (List Int)) → Prop := fun ⟨x1v0, x2v0, x4, eE2v0⟩ r => ∀ S1 w1, Ext S0 w0 S1 w1 → ∀ (Ax1v0 : Option Addr) (cx1v0 : Nat) (Ax2v0 : Option Addr) (cx2v0 : Nat) (GeE2v0 : Option Nat) (ceE2v0 : Nat) (cseE2v0 : List Value) (_ : Hp nz wz S1 w1 ((some lx0, .obj (lpst 58 (lfr 23 [(5, .pointer (some ⟨gx0q5, 0, none⟩)), (7, .pointer (some ⟨gx0q7, 0, none⟩)), (12, .func (.func 68) #[] #[.pointer (some ⟨gx0q12b0, 0, none⟩), .pointer (some ⟨gx0q12b1, 0, none⟩)])] jkx0) #[13, 14] (rfAssign (sub [1, 1, 0, 1, 0] B58)) (rfBody (sub [1, 1, 0, 1, 0] B58)) rx0 .ready none)) :: (some gx0q12b0, .row 22 [.slice Ax1v0 x1v0.length cx1v0] 1 0) :: (some gx0q12b1, .row 22 [.slice Ax2v0 x2v0.length cx2v0] 1 0) :: (some gx0q5, .row 72 [.func (.func 46) #[] #[]] 1 0) :: (some gx0q7, .row 22 [.slice (Gp GeE2v0) eE2v0.length ceE2v0] 1 0) :: (GeE2v0, .row 35 cseE2v0 (ceE2v0 * (kInt .u64).size) 0) :: Lr)) (_ : Rd (kInt .u64) S1 w1 Ax1v0 cx1v0 x1v0) (_ : Rd (kInt .u64) S1 w1 Ax2v0 cx2v0 x2v0) (_ : Els (kInt .u64) S1 w1 cseE2v0 eE2v0) (junk : Nat → Value),
  Goes Try.prog (base 68) [.code (sub [0, 0, 1, 0, 1, 1] B68), .inBlock 1, .inLoop (sub [0, 0] B68), .inBlock 0] ⟨lfr 73 [(0, yieldV lx0), (1, .pointer (some ⟨gx0q12b0, 0, none⟩)), (2, .pointer (some ⟨gx0q12b1, 0, none⟩)), (4, .int .i64 x4)] junk, []⟩ w1 (Done Try.prog 68 (Rets (Post.post_merge_uint64_1 nz wz S0 w0 Lr lx0 rx0 jkx0 gx0q5 gx0q7 gx0q12b0 gx0q12b1 r)))

def L.post_merge_uint64_1_l4 (nz : Nat) (wz : World) (S0 : Fz) (w0 : World) (Lr : List Ent) (lx0 : Nat) (rx0 : Nat) (jkx0 : Nat → Value) (gx0q5 : Nat) (gx0q7 : Nat) (gx0q12b0 : Nat) (gx0q12b1 : Nat) : List Int × List Int × Int × Bool × List Int → ((List Int) × (List Int) × (List Int)) → Prop := fun ⟨x1v0, x2v0, x4, x49, eE2v0⟩ r => ∀ S1 w1, Ext S0 w0 S1 w1 → ∀ (Ax1v0 : Option Addr) (cx1v0 : Nat) (Ax2v0 : Option Addr) (cx2v0 : Nat) (GeE2v0 : Option Nat) (ceE2v0 : Nat) (cseE2v0 : List Value) (_ : Hp nz wz S1 w1 ((some lx0, .obj (lpst 58 (lfr 23 [(5, .pointer (some ⟨gx0q5, 0, none⟩)), (7, .pointer (some ⟨gx0q7, 0, none⟩)), (12, .func (.func 68) #[] #[.pointer (some ⟨gx0q12b0, 0, none⟩), .pointer (some ⟨gx0q12b1, 0, none⟩)])] jkx0) #[13, 14] (rfAssign (sub [1, 1, 0, 1, 0] B58)) (rfBody (sub [1, 1, 0, 1, 0] B58)) rx0 .ready none)) :: (some gx0q12b0, .row 22 [.slice Ax1v0 x1v0.length cx1v0] 1 0) :: (some gx0q12b1, .row 22 [.slice Ax2v0 x2v0.length cx2v0] 1 0) :: (some gx0q5, .row 72 [.func (.func 46) #[] #[]] 1 0) :: (some gx0q7, .row 22 [.slice (Gp GeE2v0) eE2v0.length ceE2v0] 1 0) :: (GeE2v0, .row 35 cseE2v0 (ceE2v0 * (kInt .u64).size) 0) :: Lr)) (_ : Rd (kInt .u64) S1 w1 Ax1v0 cx1v0 x1v0) (_ : Rd (kInt .u64) S1 w1 Ax2v0 cx2v0 x2v0) (_ : Els (kInt .u64) S1 w1 cseE2v0 eE2v0) (junk : Nat → Value),
  Goes Try.prog (base 68) [.code (sub [0, 0, 1, 0, 1, 1, 0, 1] B68), .code (sub [0, 0, 1, 0, 1, 1, 1] B68), .inBlock 1, .inLoop (sub [0, 0] B68), .inBlock 0] ⟨lfr 73 [(0, yieldV lx0), (1, .pointer (some ⟨gx0q12b0, 0, none⟩)), (2, .pointer (some ⟨gx0q12b1, 0, none⟩)), (4, .int .i64 x4), (49, .bool x49)] junk, []⟩ w1 (Done Try.prog 68 (Rets (Post.post_merge_uint64_1 nz wz S0 w0 Lr lx0 rx0 jkx0 gx0q5 gx0q7 gx0q12b0 gx0q12b1 r)))

def L.post_merge_uint64_1_l5 (nz : Nat) (wz : World) (S0 : Fz) (w0 : World) (Lr : List Ent) (lx0 : Nat) (rx0 : Nat) (jkx0 : Nat → Value) (gx0q5 : Nat) (gx0q7 : Nat) (gx0q12b0 : Nat) (gx0q12b1 : Nat) : List Int × List Int × Int × List Int → ((List Int) × (List Int) × (List Int)) → Prop := fun ⟨x1v0, x2v0, x4, eE2v0⟩ r => ∀ S1 w1, Ext S0 w0 S1 w1 → ∀ (Ax1v0 : Option Addr) (cx1v0 : Nat) (Ax2v0 : Option Addr) (cx2v0 : Nat) (GeE2v0 : Option Nat) (ceE2v0 : Nat) (cseE2v0 : List Value) (_ : Hp nz wz S1 w1 ((some lx0, .obj (lpst 58 (lfr 23 [(5, .pointer (some ⟨gx0q5, 0, none⟩)), (7, .pointer (some ⟨gx0q7, 0, none⟩)), (12, .func (.func 68) #[] #[.pointer (some ⟨gx0q12b0, 0, none⟩), .pointer (some ⟨gx0q12b1, 0, none⟩)])] jkx0) #[13, 14] (rfAssign (sub [1, 1, 0, 1, 0] B58)) (rfBody (sub [1, 1, 0, 1, 0] B58)) rx0 .ready none)) :: (some gx0q12b0, .row 22 [.slice Ax1v0 x1v0.length cx1v0] 1 0) :: (some gx0q12b1, .row 22 [.slice Ax2v0 x2v0.length cx2v0] 1 0) :: (some gx0q5, .row 72 [.func (.func 46) #[] #[]] 1 0) :: (some gx0q7, .row 22 [.slice (Gp GeE2v0) eE2v0.length ceE2v0] 1 0) :: (GeE2v0, .row 35 cseE2v0 (ceE2v0 * (kInt .u64).size) 0) :: Lr)) (_ : Rd (kInt .u64) S1 w1 Ax1v0 cx1v0 x1v0) (_ : Rd (kInt .u64) S1 w1 Ax2v0 cx2v0 x2v0) (_ : Els (kInt .u64) S1 w1 cseE2v0 eE2v0) (junk : Nat → Value),
  Goes Try.prog (base 68) [.code (sub [0, 0, 1, 0, 1, 1, 1] B68), .inBlock 1, .inLoop (sub [0, 0] B68), .inBlock 0] ⟨lfr 73 [(0, yieldV lx0), (1, .pointer (some ⟨gx0q12b0, 0, none⟩)), (2, .pointer (some ⟨gx0q12b1, 0, none⟩)), (4, .int .i64 x4)] junk, []⟩ w1 (Done Try.prog 68 (Rets (Post.post_merge_uint64_1 nz wz S0 w0 Lr lx0 rx0 jkx0 gx0q5 gx0q7 gx0q12b0 gx0q12b1 r)))

def L.post_merge_uint64_1_l6 (nz : Nat) (wz : World) (S0 : Fz) (w0 : World) (Lr : List Ent) (lx0 : Nat) (rx0 : Nat) (jkx0 : Nat → Value) (gx0q5 : Nat) (gx0q7 : Nat) (gx0q12b0 : Nat) (gx0q12b1 : Nat) : List Int × List Int × Int × Int × List Int → ((List Int) × (List Int) × (List Int)) → Prop := fun ⟨x1v0, x2v0, x4, x5, eE2v0⟩ r => ∀ S1 w1, Ext S0 w0 S1 w1 → ∀ (Ax1v0 : Option Addr) (cx1v0 : Nat) (Ax2v0 : Option Addr) (cx2v0 : Nat) (GeE2v0 : Option Nat) (ceE2v0 : Nat) (cseE2v0 : List Value) (_ : Hp nz wz S1 w1 ((some lx0, .obj (lpst 58 (lfr 23 [(5, .pointer (some ⟨gx0q5, 0, none⟩)), (7, .pointer (some ⟨gx0q7, 0, none⟩)), (12, .func (.func 68) #[] #[.pointer (some ⟨gx0q12b0, 0, none⟩), .pointer (some ⟨gx0q12b1, 0, none⟩)])] jkx0) #[13, 14] (rfAssign (sub [1, 1, 0, 1, 0] B58)) (rfBody (sub [1, 1, 0, 1, 0] B58)) rx0 .ready none)) :: (some gx0q12b0, .row 22 [.slice Ax1v0 x1v0.length cx1v0] 1 0) :: (some gx0q12b1, .row 22 [.slice Ax2v0 x2v0.length cx2v0] 1 0) :: (some gx0q5, .row 72 [.func (.func 46) #[] #[]] 1 0) :: (some gx0q7, .row 22 [.slice (Gp GeE2v0) eE2v0.length ceE2v0] 1 0) :: (GeE2v0, .row 35 cseE2v0 (ceE2v0 * (kInt .u64).size) 0) :: Lr)) (_ : Rd (kInt .u64) S1 w1 Ax1v0 cx1v0 x1v0) (_ : Rd (kInt .u64) S1 w1 Ax2v0 cx2v0 x2v0) (_ : Els (kInt .u64) S1 w1 cseE2v0 eE2v0) (junk : Nat → Value),
  Goes Try.prog (base 68) [.code (sub [0, 0, 1, 0, 1, 1, 1, 1, 1] B68), .inBlock 1, .inLoop (sub [0, 0] B68), .inBlock 0] ⟨lfr 73 [(0, yieldV lx0), (1, .pointer (some ⟨gx0q12b0, 0, none⟩)), (2, .pointer (some ⟨gx0q12b1, 0, none⟩)), (4, .int .i64 x4), (5, .int .u64 x5)] junk, []⟩ w1 (Done Try.prog 68 (Rets (Post.post_merge_uint64_1 nz wz S0 w0 Lr lx0 rx0 jkx0 gx0q5 gx0q7 gx0q12b0 gx0q12b1 r)))

def L.post_merge_uint64_1_l7 (nz : Nat) (wz : World) (S0 : Fz) (w0 : World) (Lr : List Ent) (lx0 : Nat) (rx0 : Nat) (jkx0 : Nat → Value) (gx0q5 : Nat) (gx0q7 : Nat) (gx0q12b0 : Nat) (gx0q12b1 : Nat) : List Int × List Int × Int × Int × List Int → ((List Int) × (List Int) × (List Int)) → Prop := fun ⟨x1v0, x2v0, x4, x5, eE2v0⟩ r => ∀ S1 w1, Ext S0 w0 S1 w1 → ∀ (Ax1v0 : Option Addr) (cx1v0 : Nat) (Ax2v0 : Option Addr) (cx2v0 : Nat) (GeE2v0 : Option Nat) (ceE2v0 : Nat) (cseE2v0 : List Value) (_ : Hp nz wz S1 w1 ((some lx0, .obj (lpst 58 (lfr 23 [(5, .pointer (some ⟨gx0q5, 0, none⟩)), (7, .pointer (some ⟨gx0q7, 0, none⟩)), (12, .func (.func 68) #[] #[.pointer (some ⟨gx0q12b0, 0, none⟩), .pointer (some ⟨gx0q12b1, 0, none⟩)])] jkx0) #[13, 14] (rfAssign (sub [1, 1, 0, 1, 0] B58)) (rfBody (sub [1, 1, 0, 1, 0] B58)) rx0 .ready none)) :: (some gx0q12b0, .row 22 [.slice Ax1v0 x1v0.length cx1v0] 1 0) :: (some gx0q12b1, .row 22 [.slice Ax2v0 x2v0.length cx2v0] 1 0) :: (some gx0q5, .row 72 [.func (.func 46) #[] #[]] 1 0) :: (some gx0q7, .row 22 [.slice (Gp GeE2v0) eE2v0.length ceE2v0] 1 0) :: (GeE2v0, .row 35 cseE2v0 (ceE2v0 * (kInt .u64).size) 0) :: Lr)) (_ : Rd (kInt .u64) S1 w1 Ax1v0 cx1v0 x1v0) (_ : Rd (kInt .u64) S1 w1 Ax2v0 cx2v0 x2v0) (_ : Els (kInt .u64) S1 w1 cseE2v0 eE2v0) (junk : Nat → Value),
  Goes Try.prog (base 68) [.code (sub [0, 0, 1, 0, 1, 1, 1, 1, 1, 1] B68), .inBlock 1, .inLoop (sub [0, 0] B68), .inBlock 0] ⟨lfr 73 [(0, yieldV lx0), (1, .pointer (some ⟨gx0q12b0, 0, none⟩)), (2, .pointer (some ⟨gx0q12b1, 0, none⟩)), (4, .int .i64 x4), (5, .int .u64 x5)] junk, []⟩ w1 (Done Try.prog 68 (Rets (Post.post_merge_uint64_1 nz wz S0 w0 Lr lx0 rx0 jkx0 gx0q5 gx0q7 gx0q12b0 gx0q12b1 r)))

theorem W.post_merge_uint64_1_l0_all (nz : Nat) (wz : World) (S0 : Fz) (w0 : World) (Lr : List Ent) (lx0 : Nat) (rx0 : Nat) (jkx0 : Nat → Value) (gx0q5 : Nat) (gx0q7 : Nat) (gx0q12b0 : Nat) (gx0q12b1 : Nat) : (∀ a r, M.post_merge_uint64_1_l0 a = some r → L.post_merge_uint64_1_l0 nz wz S0 w0 Lr lx0 rx0 jkx0 gx0q5 gx0q7 gx0q12b0 gx0q12b1 a r) ∧ (∀ a r, M.post_merge_uint64_1_l1 a = some r → L.post_merge_uint64_1_l1 nz wz S0 w0 Lr lx0 rx0 jkx0 gx0q5 gx0q7 gx0q12b0 gx0q12b1 a r) ∧ (∀ a r, M.post_merge_uint64_1_l2 a = some r → L.post_merge_uint64_1_l2 nz wz S0 w0 Lr lx0 rx0 jkx0 gx0q5 gx0q7 gx0q12b0 gx0q12b1 a r) ∧ (∀ a r, M.post_merge_uint64_1_l3 a = some r → L.post_merge_uint64_1_l3 nz wz S0 w0 Lr lx0 rx0 jkx0 gx0q5 gx0q7 gx0q12b0 gx0q12b1 a r) ∧ (∀ a r, M.post_merge_uint64_1_l4 a = some r → L.post_merge_uint64_1_l4 nz wz S0 w0 Lr lx0 rx0 jkx0 gx0q5 gx0q7 gx0q12b0 gx0q12b1 a r) ∧ (∀ a r, M.post_merge_uint64_1_l5 a = some r → L.post_merge_uint64_1_l5 nz wz S0 w0 Lr lx0 rx0 jkx0 gx0q5 gx0q7 gx0q12b0 gx0q12b1 a r) ∧ (∀ a r, M.post_merge_uint64_1_l6 a = some r → L.post_merge_uint64_1_l6 nz wz S0 w0 Lr lx0 rx0 jkx0 gx0q5 gx0q7 gx0q12b0 gx0q12b1 a r) ∧ (∀ a r, M.post_merge_uint64_1_l7 a = some r → L.post_merge_uint64_1_l7 nz wz S0 w0 Lr lx0 rx0 jkx0 gx0q5 gx0q7 gx0q12b0 gx0q12b1 a r) := by
  refine M.post_merge_uint64_1_l0.mutual_partial_correctness (L.post_merge_uint64_1_l0 nz wz S0 w0 Lr lx0 rx0 jkx0 gx0q5 gx0q7 gx0q12b0 gx0q12b1) (L.post_merge_uint64_1_l1 nz wz S0 w0 Lr lx0 rx0 jkx0 gx0q5 gx0q7 gx0q12b0 gx0q12b1) (L.post_merge_uint64_1_l2 nz wz S0 w0 Lr lx0 rx0 jkx0 gx0q5 gx0q7 gx0q12b0 gx0q12b1) (L.post_merge_uint64_1_l3 nz wz S0 w0 Lr lx0 rx0 jkx0 gx0q5 gx0q7 gx0q12b0 gx0q12b1) (L.post_merge_uint64_1_l4 nz wz S0 w0 Lr lx0 rx0 jkx0 gx0q5 gx0q7 gx0q12b0 gx0q12b1) (L.post_merge_uint64_1_l5 nz wz S0 w0 Lr lx0 rx0 jkx0 gx0q5 gx0q7 gx0q12b0 gx0q12b1) (L.post_merge_uint64_1_l6 nz wz S0 w0 Lr lx0 rx0 jkx0 gx0q5 gx0q7 gx0q12b0 gx0q12b1) (L.post_merge_uint64_1_l7 nz wz S0 w0 Lr lx0 rx0 jkx0 gx0q5 gx0q7 gx0q12b0 gx0q12b1) ?_ ?_ ?_ ?_ ?_ ?_ ?_ ?_
  · intro rec_post_merge_uint64_1_l1 ih_post_merge_uint64_1_l1 ⟨x1v0, x2v0, eE2v0⟩ r h S1 w1 hx Ax1v0 cx1v0 Ax2v0 cx2v0 GeE2v0 ceE2v0 cseE2v0 p1 fx1v0 fx2v0 feE2v0 junk
    dsimp only at h
    refine Goes.runs 3 [] [.inRegion (opsOf (sub [0, 0, 0, 0] B68)) [0, 1, 2, 3, 4, 5, 6, 7], .code (sub [0, 0, 0, 1] B68), .code (sub [0, 0, 1] B68), .inLoop (sub [0, 0] B68), .inBlock 0] (by kernel_rfl) ?_
    refine Op_.ld1 22 (.tmp 1) 6 22 ⟨gx0q12b0, 0, none⟩ (.slice Ax1v0 x1v0.length cx1v0) (Goes.vs (by kernel_rfl)) (by kernel_rfl) (by kernel_rfl) ((p1.mem 1 rfl).cell 0 _ rfl) ?_
    refine Goes.runs 3 [(7, .int .i64 (x1v0.length : Int)), (8, .bool (decide ((x1v0.length : Int) > 0))), (9, .bool (decide ((x1v0.length : Int) > 0)))] [.inRegion (opsOf (sub [0, 0, 0, 0] B68)) [4, 5, 6, 7], .code (sub [0, 0, 0, 1] B68), .code (sub [0, 0, 1] B68), .inLoop (sub [0, 0] B68), .inBlock 0] (by kernel_rfl) ?_
    by_cases h1 : (x1v0.length : Int) > 0
    · rw [if_pos h1] at h
      rw [decide_eq_true h1]
      refine Goes.runs 5 [(10, undef), (11, undef), (12, undef), (13, .bool true)] [.code (sub [0, 0, 0, 1] B68), .code (sub [0, 0, 1] B68), .inLoop (sub [0, 0] B68), .inBlock 0] (by kernel_rfl) ?_
      exact Goes.jump 73 [(0, yieldV lx0), (1, .pointer (some ⟨gx0q12b0, 0, none⟩)), (2, .pointer (some ⟨gx0q12b1, 0, none⟩)), (13, .bool true)] (by kernel_rfl) (ih_post_merge_uint64_1_l1 _ _ h _ _ hx Ax1v0 cx1v0 Ax2v0 cx2v0 GeE2v0 ceE2v0 cseE2v0 p1 fx1v0 fx2v0 feE2v0)
    · rw [if_neg h1] at h
      rw [decide_eq_false h1]
      refine Op_.ld1 22 (.tmp 2) 10 22 ⟨gx0q12b1, 0, none⟩ (.slice Ax2v0 x2v0.length cx2v0) (Goes.vs (by kernel_rfl)) (by kernel_rfl) (by kernel_rfl) ((p1.mem 2 rfl).cell 0 _ rfl) ?_
      refine Goes.runs 4 [(11, .int .i64 (x2v0.length : Int)), (12, .bool (decide ((x2v0.length : Int) > 0))), (13, .bool (decide ((x2v0.length : Int) > 0)))] [.code (sub [0, 0, 0, 1] B68), .code (sub [0, 0, 1] B68), .inLoop (sub [0, 0] B68), .inBlock 0] (by kernel_rfl) ?_
      exact Goes.jump 73 [(0, yieldV lx0), (1, .pointer (some ⟨gx0q12b0, 0, none⟩)), (2, .pointer (some ⟨gx0q12b1, 0, none⟩)), (13, .bool (decide ((x2v0.length : Int) > 0)))] (by kernel_rfl) (ih_post_merge_uint64_1_l1 _ _ h _ _ hx Ax1v0 cx1v0 Ax2v0 cx2v0 GeE2v0 ceE2v0 cseE2v0 p1 fx1v0 fx2v0 feE2v0)
  · intro rec_post_merge_uint64_1_l2 ih_post_merge_uint64_1_l2 ⟨x1v0, x2v0, x13, eE2v0⟩ r h S1 w1 hx Ax1v0 cx1v0 Ax2v0 cx2v0 GeE2v0 ceE2v0 cseE2v0 p1 fx1v0 fx2v0 feE2v0 junk
    dsimp only at h
    by_cases h2 : x13 = true
    · rw [if_pos h2] at h
      rw [h2]
      refine Goes.runs 9 [(4, .int .i64 0)] [.code (sub [0, 0, 1, 0, 1, 0, 0] B68), .code (sub [0, 0, 1, 0, 1, 0, 1] B68), .code (sub [0, 0, 1, 0, 1, 1] B68), .inBlock 1, .inLoop (sub [0, 0] B68), .inBlock 0] (by kernel_rfl) ?_
      have z2 : Ext S1 w1 S1 (w1).drew := Ext.draw
      have p2 := p1.draw
      refine Goes.drawn (s := []) (F := Fc S1 (w1).drew [(⟨gx0q12b1, 0, none⟩, .slice Ax2v0 x2v0.length cx2v0), (⟨gx0q12b0, 0, none⟩, .slice Ax1v0 x1v0.length cx1v0)]) 2 17 (by kernel_rfl) (by kernel_rfl) (by kernel_rfl) (by kernel_rfl) ?_
      generalize (w1).drew = w2 at z2 p2 ⊢
      refine AnyG.ld1 (i := 0) 22 (.tmp 2) 14 22 ⟨gx0q12b1, 0, none⟩ (.slice Ax2v0 x2v0.length cx2v0) (by kernel_rfl) (by kernel_rfl) (Fc.here ⟨((p2.mem 2 rfl).cell 0 _ rfl), ((p2.mem 1 rfl).cell 0 _ rfl), trivial⟩) (by kernel_rfl) (by kernel_rfl) (fun _ h => h.2.at_ 0 rfl) ?_
      refine AnyG.pure (i := 1) (.call { callee := .builtin .len, args := #[(.tmp 14)], argTypes := #[22] }) 15 3 (.int .i64 (x2v0.length : Int)) (by kernel_rfl) (by kernel_rfl) (by kernel_rfl) (Fc.here ⟨((p2.mem 2 rfl).cell 0 _ rfl), ((p2.mem 1 rfl).cell 0 _ rfl), trivial⟩) ?_
      refine AnyG.pure (i := 2) (.binOp .eql 3 (.tmp 15) (.const (.int .i64 0)) 3) 16 4 (.bool (decide ((x2v0.length : Int) = 0))) (by kernel_rfl) (by kernel_rfl) (by kernel_rfl) (Fc.here ⟨((p2.mem 2 rfl).cell 0 _ rfl), ((p2.mem 1 rfl).cell 0 _ rfl), trivial⟩) ?_
      refine AnyG.pure (i := 3) (.move (.tmp 16)) 17 4 (.bool (decide ((x2v0.length : Int) = 0))) (by kernel_rfl) (by kernel_rfl) (by kernel_rfl) (Fc.here ⟨((p2.mem 2 rfl).cell 0 _ rfl), ((p2.mem 1 rfl).cell 0 _ rfl), trivial⟩) ?_
      by_cases h3 : (x2v0.length : Int) = 0
      · rw [if_pos h3] at h
        rw [decide_eq_true h3]
        refine AnyG.skip1 (i := 4) 18 (by kernel_rfl) (by kernel_rfl) (Fc.here ⟨((p2.mem 2 rfl).cell 0 _ rfl), ((p2.mem 1 rfl).cell 0 _ rfl), trivial⟩) ?_
        refine AnyG.skip1 (i := 5) 19 (by kernel_rfl) (by kernel_rfl) (Fc.here ⟨((p2.mem 2 rfl).cell 0 _ rfl), ((p2.mem 1 rfl).cell 0 _ rfl), trivial⟩) ?_
        refine AnyG.skip1 (i := 6) 20 (by kernel_rfl) (by kernel_rfl) (Fc.here ⟨((p2.mem 2 rfl).cell 0 _ rfl), ((p2.mem 1 rfl).cell 0 _ rfl), trivial⟩) ?_
        refine AnyG.skip1 (i := 7) 21 (by kernel_rfl) (by kernel_rfl) (Fc.here ⟨((p2.mem 2 rfl).cell 0 _ rfl), ((p2.mem 1 rfl).cell 0 _ rfl), trivial⟩) ?_
        refine AnyG.skip1 (i := 8) 22 (by kernel_rfl) (by kernel_rfl) (Fc.here ⟨((p2.mem 2 rfl).cell 0 _ rfl), ((p2.mem 1 rfl).cell 0 _ rfl), trivial⟩) ?_
        refine AnyG.skip1 (i := 9) 23 (by kernel_rfl) (by kernel_rfl) (Fc.here ⟨((p2.mem 2 rfl).cell 0 _ rfl), ((p2.mem 1 rfl).cell 0 _ rfl), trivial⟩) ?_
        refine AnyG.skip1 (i := 10) 24 (by kernel_rfl) (by kernel_rfl) (Fc.here ⟨((p2.mem 2 rfl).cell 0 _ rfl), ((p2.mem 1 rfl).cell 0 _ rfl), trivial⟩) ?_
        refine AnyG.skip1 (i := 11) 25 (by kernel_rfl) (by kernel_rfl) (Fc.here ⟨((p2.mem 2 rfl).cell 0 _ rfl), ((p2.mem 1 rfl).cell 0 _ rfl), trivial⟩) ?_
        refine AnyG.skip1 (i := 12) 26 (by kernel_rfl) (by kernel_rfl) (Fc.here ⟨((p2.mem 2 rfl).cell 0 _ rfl), ((p2.mem 1 rfl).cell 0 _ rfl), trivial⟩) ?_
        refine AnyG.skip1 (i := 13) 27 (by kernel_rfl) (by kernel_rfl) (Fc.here ⟨((p2.mem 2 rfl).cell 0 _ rfl), ((p2.mem 1 rfl).cell 0 _ rfl), trivial⟩) ?_
        refine AnyG.skip1 (i := 14) 28 (by kernel_rfl) (by kernel_rfl) (Fc.here ⟨((p2.mem 2 rfl).cell 0 _ rfl), ((p2.mem 1 rfl).cell 0 _ rfl), trivial⟩) ?_
        refine AnyG.skip1 (i := 15) 29 (by kernel_rfl) (by kernel_rfl) (Fc.here ⟨((p2.mem 2 rfl).cell 0 _ rfl), ((p2.mem 1 rfl).cell 0 _ rfl), trivial⟩) ?_
        refine AnyG.pure (i := 16) (.pick (.tmp 17) (.const (.bool true)) (.tmp 29)) 30 4 (.bool true) (by kernel_rfl) (by kernel_rfl) (by kernel_rfl) (Fc.here ⟨((p2.mem 2 rfl).cell 0 _ rfl), ((p2.mem 1 rfl).cell 0 _ rfl), trivial⟩) ?_
        refine AnyG.done (by kernel_rfl) ?_ _
        exact Goes.jump 73 [(0, yieldV lx0), (1, .pointer (some ⟨gx0q12b0, 0, none⟩)), (2, .pointer (some ⟨gx0q12b1, 0, none⟩)), (4, .int .i64 0), (30, .bool true)] (by kernel_rfl) (ih_post_merge_uint64_1_l2 _ _ h _ _ (hx.trans z2) Ax1v0 cx1v0 Ax2v0 cx2v0 GeE2v0 ceE2v0 cseE2v0 p2 (fx1v0.ext z2) (fx2v0.ext z2) (feE2v0.ext z2))
      · rw [if_neg h3] at h
        rw [decide_eq_false h3]
        refine AnyG.ld1 (i := 4) 22 (.tmp 1) 18 22 ⟨gx0q12b0, 0, none⟩ (.slice Ax1v0 x1v0.length cx1v0) (by kernel_rfl) (by kernel_rfl) (Fc.here ⟨((p2.mem 2 rfl).cell 0 _ rfl), ((p2.mem 1 rfl).cell 0 _ rfl), trivial⟩) (by kernel_rfl) (by kernel_rfl) (fun _ h => h.2.at_ 1 rfl) ?_
        refine AnyG.pure (i := 5) (.call { callee := .builtin .len, args := #[(.tmp 18)], argTypes := #[22] }) 19 3 (.int .i64 (x1v0.length : Int)) (by kernel_rfl) (by kernel_rfl) (by kernel_rfl) (Fc.here ⟨((p2.mem 2 rfl).cell 0 _ rfl), ((p2.mem 1 rfl).cell 0 _ rfl), trivial⟩) ?_
        refine AnyG.pure (i := 6) (.binOp .gtr 3 (.tmp 19) (.const (.int .i64 0)) 3) 20 4 (.bool (decide ((x1v0.length : Int) > 0))) (by kernel_rfl) (by kernel_rfl) (by kernel_rfl) (Fc.here ⟨((p2.mem 2 rfl).cell 0 _ rfl), ((p2.mem 1 rfl).cell 0 _ rfl), trivial⟩) ?_
        refine AnyG.pure (i := 7) (.move (.tmp 20)) 21 4 (.bool (decide ((x1v0.length : Int) > 0))) (by kernel_rfl) (by kernel_rfl) (by kernel_rfl) (Fc.here ⟨((p2.mem 2 rfl).cell 0 _ rfl), ((p2.mem 1 rfl).cell 0 _ rfl), trivial⟩) ?_
        by_cases h4 : (x1v0.length : Int) > 0
        · rw [if_pos h4] at h
          rw [decide_eq_true h4]
          refine AnyG.ld1 (i := 8) 22 (.tmp 1) 22 22 ⟨gx0q12b0, 0, none⟩ (.slice Ax1v0 x1v0.length cx1v0) (by kernel_rfl) (by kernel_rfl) (Fc.here ⟨((p2.mem 2 rfl).cell 0 _ rfl), ((p2.mem 1 rfl).cell 0 _ rfl), trivial⟩) (by kernel_rfl) (by kernel_rfl) (fun _ h => h.2.at_ 1 rfl) ?_
          obtain ⟨g5, h⟩ := guard_some h
          refine AnyG.ixR (i := 9) 22 (.tmp 22) (.const (.int .i64 0)) 23 0 35 .i64 0 (fx1v0.ext z2) (by kernel_rfl) (by kernel_rfl) (Fc.here ⟨((p2.mem 2 rfl).cell 0 _ rfl), ((p2.mem 1 rfl).cell 0 _ rfl), trivial⟩) (by kernel_rfl) (by kernel_rfl) (by kernel_rfl) (by kernel_rfl) (by decide) g5 ?_
          rintro a6 _ f7 rfl
          refine AnyG.ld1 (i := 10) 35 (.tmp 23) 24 35 a6 (.int .u64 (gi x1v0 0)) (by kernel_rfl) (by kernel_rfl) (Fc.here ⟨((p2.mem 2 rfl).cell 0 _ rfl), ((p2.mem 1 rfl).cell 0 _ rfl), trivial⟩) (by kernel_rfl) (by kernel_rfl) (fun _ h => f7.fc h 0 _ rfl) ?_
          refine AnyG.ld1 (i := 11) 22 (.tmp 2) 25 22 ⟨gx0q12b1, 0, none⟩ (.slice Ax2v0 x2v0.length cx2v0) (by kernel_rfl) (by kernel_rfl) (Fc.here ⟨((p2.mem 2 rfl).cell 0 _ rfl), ((p2.mem 1 rfl).cell 0 _ rfl), trivial⟩) (by kernel_rfl) (by kernel_rfl) (fun _ h => h.2.at_ 0 rfl) ?_
          obtain ⟨g8, h⟩ := guard_some h
          refine AnyG.ixR (i := 12) 22 (.tmp 25) (.const (.int .i64 0)) 26 0 35 .i64 0 (fx2v0.ext z2) (by kernel_rfl) (by kernel_rfl) (Fc.here ⟨((p2.mem 2 rfl).cell 0 _ rfl), ((p2.mem 1 rfl).cell 0 _ rfl), trivial⟩) (by kernel_rfl) (by kernel_rfl) (by kernel_rfl) (by kernel_rfl) (by decide) g8 ?_
          rintro a9 _ f10 rfl
          refine AnyG.ld1 (i := 13) 35 (.tmp 26) 27 35 a9 (.int .u64 (gi x2v0 0)) (by kernel_rfl) (by kernel_rfl) (Fc.here ⟨((p2.mem 2 rfl).cell 0 _ rfl), ((p2.mem 1 rfl).cell 0 _ rfl), trivial⟩) (by kernel_rfl) (by kernel_rfl) (fun _ h => f10.fc h 0 _ rfl) ?_
          refine AnyG.pure (i := 14) (.binOp .leq 35 (.tmp 24) (.tmp 27) 35) 28 4 (.bool (decide (gi x1v0 0 ≤ gi x2v0 0))) (by kernel_rfl) (by kernel_rfl) (by kernel_rfl) (Fc.here ⟨((p2.mem 2 rfl).cell 0 _ rfl), ((p2.mem 1 rfl).cell 0 _ rfl), trivial⟩) ?_
          refine AnyG.pure (i := 15) (.pick (.tmp 21) (.tmp 28) (.const (.bool false))) 29 4 (.bool (decide (gi x1v0 0 ≤ gi x2v0 0))) (by kernel_rfl) (by kernel_rfl) (by kernel_rfl) (Fc.here ⟨((p2.mem 2 rfl).cell 0 _ rfl), ((p2.mem 1 rfl).cell 0 _ rfl), trivial⟩) ?_
          refine AnyG.pure (i := 16) (.pick (.tmp 17) (.const (.bool true)) (.tmp 29)) 30 4 (.bool (decide (gi x1v0 0 ≤ gi x2v0 0))) (by kernel_rfl) (by kernel_rfl) (by kernel_rfl) (Fc.here ⟨((p2.mem 2 rfl).cell 0 _ rfl), ((p2.mem 1 rfl).cell 0 _ rfl), trivial⟩) ?_
          refine AnyG.done (by kernel_rfl) ?_ _
          exact Goes.jump 73 [(0, yieldV lx0), (1, .pointer (some ⟨gx0q12b0, 0, none⟩)), (2, .pointer (some ⟨gx0q12b1, 0, none⟩)), (4, .int .i64 0), (30, .bool (decide (gi x1v0 0 ≤ gi x2v0 0)))] (by kernel_rfl) (ih_post_merge_uint64_1_l2 _ _ h _ _ (hx.trans z2) Ax1v0 cx1v0 Ax2v0 cx2v0 GeE2v0 ceE2v0 cseE2v0 p2 (fx1v0.ext z2) (fx2v0.ext z2) (feE2v0.ext z2))
        · rw [if_neg h4] at h
          rw [decide_eq_false h4]
          refine AnyG.skip1 (i := 8) 22 (by kernel_rfl) (by kernel_rfl) (Fc.here ⟨((p2.mem 2 rfl).cell 0 _ rfl), ((p2.mem 1 rfl).cell 0 _ rfl), trivial⟩) ?_
          refine AnyG.skip1 (i := 9) 23 (by kernel_rfl) (by kernel_rfl) (Fc.here ⟨((p2.mem 2 rfl).cell 0 _ rfl), ((p2.mem 1 rfl).cell 0 _ rfl), trivial⟩) ?_
          refine AnyG.skip1 (i := 10) 24 (by kernel_rfl) (by kernel_rfl) (Fc.here ⟨((p2.mem 2 rfl).cell 0 _ rfl), ((p2.mem 1 rfl).cell 0 _ rfl), trivial⟩) ?_
          refine AnyG.skip1 (i := 11) 25 (by kernel_rfl) (by kernel_rfl) (Fc.here ⟨((p2.mem 2 rfl).cell 0 _ rfl), ((p2.mem 1 rfl).cell 0 _ rfl), trivial⟩) ?_
          refine AnyG.skip1 (i := 12) 26 (by kernel_rfl) (by kernel_rfl) (Fc.here ⟨((p2.mem 2 rfl).cell 0 _ rfl), ((p2.mem 1 rfl).cell 0 _ rfl), trivial⟩) ?_
          refine AnyG.skip1 (i := 13) 27 (by kernel_rfl) (by kernel_rfl) (Fc.here ⟨((p2.mem 2 rfl).cell 0 _ rfl), ((p2.mem 1 rfl).cell 0 _ rfl), trivial⟩) ?_
          refine AnyG.skip1 (i := 14) 28 (by kernel_rfl) (by kernel_rfl) (Fc.here ⟨((p2.mem 2 rfl).cell 0 _ rfl), ((p2.mem 1 rfl).cell 0 _ rfl), trivial⟩) ?_
          refine AnyG.pure (i := 15) (.pick (.tmp 21) (.tmp 28) (.const (.bool false))) 29 4 (.bool false) (by kernel_rfl) (by kernel_rfl) (by kernel_rfl) (Fc.here ⟨((p2.mem 2 rfl).cell 0 _ rfl), ((p2.mem 1 rfl).cell 0 _ rfl), trivial⟩) ?_
          refine AnyG.pure (i := 16) (.pick (.tmp 17) (.const (.bool true)) (.tmp 29)) 30 4 (.bool false) (by kernel_rfl) (by kernel_rfl) (by kernel_rfl) (Fc.here ⟨((p2.mem 2 rfl).cell 0 _ rfl), ((p2.mem 1 rfl).cell 0 _ rfl), trivial⟩) ?_
          refine AnyG.done (by kernel_rfl) ?_ _
          exact Goes.jump 73 [(0, yieldV lx0), (1, .pointer (some ⟨gx0q12b0, 0, none⟩)), (2, .pointer (some ⟨gx0q12b1, 0, none⟩)), (4, .int .i64 0), (30, .bool false)] (by kernel_rfl) (ih_post_merge_uint64_1_l2 _ _ h _ _ (hx.trans z2) Ax1v0 cx1v0 Ax2v0 cx2v0 GeE2v0 ceE2v0 cseE2v0 p2 (fx1v0.ext z2) (fx2v0.ext z2) (feE2v0.ext z2))
    · rw [if_neg h2] at h
      have h2' : x13 = false := by simpa using h2
      rw [h2']
      refine Goes.runs 2 [] [] (by kernel_rfl) ?_
      have p1 := p1.front 2 _ rfl
      have p1 := p1.front 2 _ rfl
      have p1 := p1.front 4 _ rfl
      have p1 := p1.front 4 _ rfl
      have p1 := p1.front 4 _ rfl
      have p1 := p1.front 5 _ rfl
      obtain rfl := Option.some.inj h
      exact Goes.end_ (fn := Try.f68) (by kernel_rfl) (v := .tuple #[]) (by kernel_rfl) ⟨S1, GeE2v0, ceE2v0, cseE2v0, Ax1v0, cx1v0, Ax2v0, cx2v0, rfl, hx, p1, feE2v0, fx1v0, fx2v0⟩
  · intro rec_post_merge_uint64_1_l3 ih_post_merge_uint64_1_l3 ⟨x1v0, x2v0, x4, x30, eE2v0⟩ r h S1 w1 hx Ax1v0 cx1v0 Ax2v0 cx2v0 GeE2v0 ceE2v0 cseE2v0 p1 fx1v0 fx2v0 feE2v0 junk
    dsimp only at h
    by_cases h11 : x30 = true
    · rw [if_pos h11] at h
      rw [h11]
      refine Goes.runs 6 [(31, .int .i64 x4), (32, .int .i64 (ior .i64 x4 1)), (4, .int .i64 (ior .i64 x4 1))] [.code (sub [0, 0, 1, 0, 1, 1] B68), .inBlock 1, .inLoop (sub [0, 0] B68), .inBlock 0] (by kernel_rfl) ?_
      exact Goes.jump 73 [(0, yieldV lx0), (1, .pointer (some ⟨gx0q12b0, 0, none⟩)), (2, .pointer (some ⟨gx0q12b1, 0, none⟩)), (4, .int .i64 (ior .i64 x4 1))] (by kernel_rfl) (ih_post_merge_uint64_1_l3 _ _ h _ _ hx Ax1v0 cx1v0 Ax2v0 cx2v0 GeE2v0 ceE2v0 cseE2v0 p1 fx1v0 fx2v0 feE2v0)
    · rw [if_neg h11] at h
      have h11' : x30 = false := by simpa using h11
      rw [h11']
      refine Goes.runs 2 [] [.code (sub [0, 0, 1, 0, 1, 1] B68), .inBlock 1, .inLoop (sub [0, 0] B68), .inBlock 0] (by kernel_rfl) ?_
      exact Goes.jump 73 [(0, yieldV lx0), (1, .pointer (some ⟨gx0q12b0, 0, none⟩)), (2, .pointer (some ⟨gx0q12b1, 0, none⟩)), (4, .int .i64 x4)] (by kernel_rfl) (ih_post_merge_uint64_1_l3 _ _ h _ _ hx Ax1v0 cx1v0 Ax2v0 cx2v0 GeE2v0 ceE2v0 cseE2v0 p1 fx1v0 fx2v0 feE2v0)
  · intro rec_post_merge_uint64_1_l4 ih_post_merge_uint64_1_l4 ⟨x1v0, x2v0, x4, eE2v0⟩ r h S1 w1 hx Ax1v0 cx1v0 Ax2v0 cx2v0 GeE2v0 ceE2v0 cseE2v0 p1 fx1v0 fx2v0 feE2v0 junk
    dsimp only at h
    refine Goes.runs 2 [] [.code (sub [0, 0, 1, 0, 1, 1, 0, 0] B68), .code (sub [0, 0, 1, 0, 1, 1, 0, 1] B68), .code (sub [0, 0, 1, 0, 1, 1, 1] B68), .inBlock 1, .inLoop (sub [0, 0] B68), .inBlock 0] (by kernel_rfl) ?_
    have z3 : Ext S1 w1 S1 (w1).drew := Ext.draw
    have p3 := p1.draw
    refine Goes.drawn (s := []) (F := Fc S1 (w1).drew [(⟨gx0q12b0, 0, none⟩, .slice Ax1v0 x1v0.length cx1v0), (⟨gx0q12b1, 0, none⟩, .slice Ax2v0 x2v0.length cx2v0)]) 4 17 (by kernel_rfl) (by kernel_rfl) (by kernel_rfl) (by kernel_rfl) ?_
    generalize (w1).drew = w3 at z3 p3 ⊢
    refine AnyG.ld1 (i := 0) 22 (.tmp 1) 33 22 ⟨gx0q12b0, 0, none⟩ (.slice Ax1v0 x1v0.length cx1v0) (by kernel_rfl) (by kernel_rfl) (Fc.here ⟨((p3.mem 1 rfl).cell 0 _ rfl), ((p3.mem 2 rfl).cell 0 _ rfl), trivial⟩) (by kernel_rfl) (by kernel_rfl) (fun _ h => h.2.at_ 0 rfl) ?_
    refine AnyG.pure (i := 1) (.call { callee := .builtin .len, args := #[(.tmp 33)], argTypes := #[22] }) 34 3 (.int .i64 (x1v0.length : Int)) (by kernel_rfl) (by kernel_rfl) (by kernel_rfl) (Fc.here ⟨((p3.mem 1 rfl).cell 0 _ rfl), ((p3.mem 2 rfl).cell 0 _ rfl), trivial⟩) ?_
    refine AnyG.pure (i := 2) (.binOp .eql 3 (.tmp 34) (.const (.int .i64 0)) 3) 35 4 (.bool (decide ((x1v0.length : Int) = 0))) (by kernel_rfl) (by kernel_rfl) (by kernel_rfl) (Fc.here ⟨((p3.mem 1 rfl).cell 0 _ rfl), ((p3.mem 2 rfl).cell 0 _ rfl), trivial⟩) ?_
    refine AnyG.pure (i := 3) (.move (.tmp 35)) 36 4 (.bool (decide ((x1v0.length : Int) = 0))) (by kernel_rfl) (by kernel_rfl) (by kernel_rfl) (Fc.here ⟨((p3.mem 1 rfl).cell 0 _ rfl), ((p3.mem 2 rfl).cell 0 _ rfl), trivial⟩) ?_
    by_cases h12 : (x1v0.length : Int) = 0
    · rw [if_pos h12] at h
      rw [decide_eq_true h12]
      refine AnyG.skip1 (i := 4) 37 (by kernel_rfl) (by kernel_rfl) (Fc.here ⟨((p3.mem 1 rfl).cell 0 _ rfl), ((p3.mem 2 rfl).cell 0 _ rfl), trivial⟩) ?_
      refine AnyG.skip1 (i := 5) 38 (by kernel_rfl) (by kernel_rfl) (Fc.here ⟨((p3.mem 1 rfl).cell 0 _ rfl), ((p3.mem 2 rfl).cell 0 _ rfl), trivial⟩) ?_
      refine AnyG.skip1 (i := 6) 39 (by kernel_rfl) (by kernel_rfl) (Fc.here ⟨((p3.mem 1 rfl).cell 0 _ rfl), ((p3.mem 2 rfl).cell 0 _ rfl), trivial⟩) ?_
      refine AnyG.skip1 (i := 7) 40 (by kernel_rfl) (by kernel_rfl) (Fc.here ⟨((p3.mem 1 rfl).cell 0 _ rfl), ((p3.mem 2 rfl).cell 0 _ rfl), trivial⟩) ?_
      refine AnyG.skip1 (i := 8) 41 (by kernel_rfl) (by kernel_rfl) (Fc.here ⟨((p3.mem 1 rfl).cell 0 _ rfl), ((p3.mem 2 rfl).cell 0 _ rfl), trivial⟩) ?_
      refine AnyG.skip1 (i := 9) 42 (by kernel_rfl) (by kernel_rfl) (Fc.here ⟨((p3.mem 1 rfl).cell 0 _ rfl), ((p3.mem 2 rfl).cell 0 _ rfl), trivial⟩) ?_
      refine AnyG.skip1 (i := 10) 43 (by kernel_rfl) (by kernel_rfl) (Fc.here ⟨((p3.mem 1 rfl).cell 0 _ rfl), ((p3.mem 2 rfl).cell 0 _ rfl), trivial⟩) ?_
      refine AnyG.skip1 (i := 11) 44 (by kernel_rfl) (by kernel_rfl) (Fc.here ⟨((p3.mem 1 rfl).cell 0 _ rfl), ((p3.mem 2 rfl).cell 0 _ rfl), trivial⟩) ?_
      refine AnyG.skip1 (i := 12) 45 (by kernel_rfl) (by kernel_rfl) (Fc.here ⟨((p3.mem 1 rfl).cell 0 _ rfl), ((p3.mem 2 rfl).cell 0 _ rfl), trivial⟩) ?_
      refine AnyG.skip1 (i := 13) 46 (by kernel_rfl) (by kernel_rfl) (Fc.here ⟨((p3.mem 1 rfl).cell 0 _ rfl), ((p3.mem 2 rfl).cell 0 _ rfl), trivial⟩) ?_
      refine AnyG.skip1 (i := 14) 47 (by kernel_rfl) (by kernel_rfl) (Fc.here ⟨((p3.mem 1 rfl).cell 0 _ rfl), ((p3.mem 2 rfl).cell 0 _ rfl), trivial⟩) ?_
      refine AnyG.skip1 (i := 15) 48 (by kernel_rfl) (by kernel_rfl) (Fc.here ⟨((p3.mem 1 rfl).cell 0 _ rfl), ((p3.mem 2 rfl).cell 0 _ rfl), trivial⟩) ?_
      refine AnyG.pure (i := 16) (.pick (.tmp 36) (.const (.bool true)) (.tmp 48)) 49 4 (.bool true) (by kernel_rfl) (by kernel_rfl) (by kernel_rfl) (Fc.here ⟨((p3.mem 1 rfl).cell 0 _ rfl), ((p3.mem 2 rfl).cell 0 _ rfl), trivial⟩) ?_
      refine AnyG.done (by kernel_rfl) ?_ _
      exact Goes.jump 73 [(0, yieldV lx0), (1, .pointer (some ⟨gx0q12b0, 0, none⟩)), (2, .pointer (some ⟨gx0q12b1, 0, none⟩)), (4, .int .i64 x4), (49, .bool true)] (by kernel_rfl) (ih_post_merge_uint64_1_l4 _ _ h _ _ (hx.trans z3) Ax1v0 cx1v0 Ax2v0 cx2v0 GeE2v0 ceE2v0 cseE2v0 p3 (fx1v0.ext z3) (fx2v0.ext z3) (feE2v0.ext z3))
    · rw [if_neg h12] at h
      rw [decide_eq_false h12]
      refine AnyG.ld1 (i := 4) 22 (.tmp 2) 37 22 ⟨gx0q12b1, 0, none⟩ (.slice Ax2v0 x2v0.length cx2v0) (by kernel_rfl) (by kernel_rfl) (Fc.here ⟨((p3.mem 1 rfl).cell 0 _ rfl), ((p3.mem 2 rfl).cell 0 _ rfl), trivial⟩) (by kernel_rfl) (by kernel_rfl) (fun _ h => h.2.at_ 1 rfl) ?_
      refine AnyG.pure (i := 5) (.call { callee := .builtin .len, args := #[(.tmp 37)], argTypes := #[22] }) 38 3 (.int .i64 (x2v0.length : Int)) (by kernel_rfl) (by kernel_rfl) (by kernel_rfl) (Fc.here ⟨((p3.mem 1 rfl).cell 0 _ rfl), ((p3.mem 2 rfl).cell 0 _ rfl), trivial⟩) ?_
      refine AnyG.pure (i := 6) (.binOp .gtr 3 (.tmp 38) (.const (.int .i64 0)) 3) 39 4 (.bool (decide ((x2v0.length : Int) > 0))) (by kernel_rfl) (by kernel_rfl) (by kernel_rfl) (Fc.here ⟨((p3.mem 1 rfl).cell 0 _ rfl), ((p3.mem 2 rfl).cell 0 _ rfl), trivial⟩) ?_
      refine AnyG.pure (i := 7) (.move (.tmp 39)) 40 4 (.bool (decide ((x2v0.length : Int) > 0))) (by kernel_rfl) (by kernel_rfl) (by kernel_rfl) (Fc.here ⟨((p3.mem 1 rfl).cell 0 _ rfl), ((p3.mem 2 rfl).cell 0 _ rfl), trivial⟩) ?_
      by_cases h13 : (x2v0.length : Int) > 0
      · rw [if_pos h13] at h
        rw [decide_eq_true h13]
        refine AnyG.ld1 (i := 8) 22 (.tmp 2) 41 22 ⟨gx0q12b1, 0, none⟩ (.slice Ax2v0 x2v0.length cx2v0) (by kernel_rfl) (by kernel_rfl) (Fc.here ⟨((p3.mem 1 rfl).cell 0 _ rfl), ((p3.mem 2 rfl).cell 0 _ rfl), trivial⟩) (by kernel_rfl) (by kernel_rfl) (fun _ h => h.2.at_ 1 rfl) ?_
        obtain ⟨g14, h⟩ := guard_some h
        refine AnyG.ixR (i := 9) 22 (.tmp 41) (.const (.int .i64 0)) 42 0 35 .i64 0 (fx2v0.ext z3) (by kernel_rfl) (by kernel_rfl) (Fc.here ⟨((p3.mem 1 rfl).cell 0 _ rfl), ((p3.mem 2 rfl).cell 0 _ rfl), trivial⟩) (by kernel_rfl) (by kernel_rfl) (by kernel_rfl) (by kernel_rfl) (by decide) g14 ?_
        rintro a15 _ f16 rfl
        refine AnyG.ld1 (i := 10) 35 (.tmp 42) 43 35 a15 (.int .u64 (gi x2v0 0)) (by kernel_rfl) (by kernel_rfl) (Fc.here ⟨((p3.mem 1 rfl).cell 0 _ rfl), ((p3.mem 2 rfl).cell 0 _ rfl), trivial⟩) (by kernel_rfl) (by kernel_rfl) (fun _ h => f16.fc h 0 _ rfl) ?_
        refine AnyG.ld1 (i := 11) 22 (.tmp 1) 44 22 ⟨gx0q12b0, 0, none⟩ (.slice Ax1v0 x1v0.length cx1v0) (by kernel_rfl) (by kernel_rfl) (Fc.here ⟨((p3.mem 1 rfl).cell 0 _ rfl), ((p3.mem 2 rfl).cell 0 _ rfl), trivial⟩) (by kernel_rfl) (by kernel_rfl) (fun _ h => h.2.at_ 0 rfl) ?_
        obtain ⟨g17, h⟩ := guard_some h
        refine AnyG.ixR (i := 12) 22 (.tmp 44) (.const (.int .i64 0)) 45 0 35 .i64 0 (fx1v0.ext z3) (by kernel_rfl) (by kernel_rfl) (Fc.here ⟨((p3.mem 1 rfl).cell 0 _ rfl), ((p3.mem 2 rfl).cell 0 _ rfl), trivial⟩) (by kernel_rfl) (by kernel_rfl) (by kernel_rfl) (by kernel_rfl) (by decide) g17 ?_
        rintro a18 _ f19 rfl
        refine AnyG.ld1 (i := 13) 35 (.tmp 45) 46 35 a18 (.int .u64 (gi x1v0 0)) (by kernel_rfl) (by kernel_rfl) (Fc.here ⟨((p3.mem 1 rfl).cell 0 _ rfl), ((p3.mem 2 rfl).cell 0 _ rfl), trivial⟩) (by kernel_rfl) (by kernel_rfl) (fun _ h => f19.fc h 0 _ rfl) ?_
        refine AnyG.pure (i := 14) (.binOp .leq 35 (.tmp 43) (.tmp 46) 35) 47 4 (.bool (decide (gi x2v0 0 ≤ gi x1v0 0))) (by kernel_rfl) (by kernel_rfl) (by kernel_rfl) (Fc.here ⟨((p3.mem 1 rfl).cell 0 _ rfl), ((p3.mem 2 rfl).cell 0 _ rfl), trivial⟩) ?_
        refine AnyG.pure (i := 15) (.pick (.tmp 40) (.tmp 47) (.const (.bool false))) 48 4 (.bool (decide (gi x2v0 0 ≤ gi x1v0 0))) (by kernel_rfl) (by kernel_rfl) (by kernel_rfl) (Fc.here ⟨((p3.mem 1 rfl).cell 0 _ rfl), ((p3.mem 2 rfl).cell 0 _ rfl), trivial⟩) ?_
        refine AnyG.pure (i := 16) (.pick (.tmp 36) (.const (.bool true)) (.tmp 48)) 49 4 (.bool (decide (gi x2v0 0 ≤ gi x1v0 0))) (by kernel_rfl) (by kernel_rfl) (by kernel_rfl) (Fc.here ⟨((p3.mem 1 rfl).cell 0 _ rfl), ((p3.mem 2 rfl).cell 0 _ rfl), trivial⟩) ?_
        refine AnyG.done (by kernel_rfl) ?_ _
        exact Goes.jump 73 [(0, yieldV lx0), (1, .pointer (some ⟨gx0q12b0, 0, none⟩)), (2, .pointer (some ⟨gx0q12b1, 0, none⟩)), (4, .int .i64 x4), (49, .bool (decide (gi x2v0 0 ≤ gi x1v0 0)))] (by kernel_rfl) (ih_post_merge_uint64_1_l4 _ _ h _ _ (hx.trans z3) Ax1v0 cx1v0 Ax2v0 cx2v0 GeE2v0 ceE2v0 cseE2v0 p3 (fx1v0.ext z3) (fx2v0.ext z3) (feE2v0.ext z3))
      · rw [if_neg h13] at h
        rw [decide_eq_false h13]
        refine AnyG.skip1 (i := 8) 41 (by kernel_rfl) (by kernel_rfl) (Fc.here ⟨((p3.mem 1 rfl).cell 0 _ rfl), ((p3.mem 2 rfl).cell 0 _ rfl), trivial⟩) ?_
        refine AnyG.skip1 (i := 9) 42 (by kernel_rfl) (by kernel_rfl) (Fc.here ⟨((p3.mem 1 rfl).cell 0 _ rfl), ((p3.mem 2 rfl).cell 0 _ rfl), trivial⟩) ?_
        refine AnyG.skip1 (i := 10) 43 (by kernel_rfl) (by kernel_rfl) (Fc.here ⟨((p3.mem 1 rfl).cell 0 _ rfl), ((p3.mem 2 rfl).cell 0 _ rfl), trivial⟩) ?_
        refine AnyG.skip1 (i := 11) 44 (by kernel_rfl) (by kernel_rfl) (Fc.here ⟨((p3.mem 1 rfl).cell 0 _ rfl), ((p3.mem 2 rfl).cell 0 _ rfl), trivial⟩) ?_
        refine AnyG.skip1 (i := 12) 45 (by kernel_rfl) (by kernel_rfl) (Fc.here ⟨((p3.mem 1 rfl).cell 0 _ rfl), ((p3.mem 2 rfl).cell 0 _ rfl), trivial⟩) ?_
        refine AnyG.skip1 (i := 13) 46 (by kernel_rfl) (by kernel_rfl) (Fc.here ⟨((p3.mem 1 rfl).cell 0 _ rfl), ((p3.mem 2 rfl).cell 0 _ rfl), trivial⟩) ?_
        refine AnyG.skip1 (i := 14) 47 (by kernel_rfl) (by kernel_rfl) (Fc.here ⟨((p3.mem 1 rfl).cell 0 _ rfl), ((p3.mem 2 rfl).cell 0 _ rfl), trivial⟩) ?_
        refine AnyG.pure (i := 15) (.pick (.tmp 40) (.tmp 47) (.const (.bool false))) 48 4 (.bool false) (by kernel_rfl) (by kernel_rfl) (by kernel_rfl) (Fc.here ⟨((p3.mem 1 rfl).cell 0 _ rfl), ((p3.mem 2 rfl).cell 0 _ rfl), trivial⟩) ?_
        refine AnyG.pure (i := 16) (.pick (.tmp 36) (.const (.bool true)) (.tmp 48)) 49 4 (.bool false) (by kernel_rfl) (by kernel_rfl) (by kernel_rfl) (Fc.here ⟨((p3.mem 1 rfl).cell 0 _ rfl), ((p3.mem 2 rfl).cell 0 _ rfl), trivial⟩) ?_
        refine AnyG.done (by kernel_rfl) ?_ _
        exact Goes.jump 73 [(0, yieldV lx0), (1, .pointer (some ⟨gx0q12b0, 0, none⟩)), (2, .pointer (some ⟨gx0q12b1, 0, none⟩)), (4, .int .i64 x4), (49, .bool false)] (by kernel_rfl) (ih_post_merge_uint64_1_l4 _ _ h _ _ (hx.trans z3) Ax1v0 cx1v0 Ax2v0 cx2v0 GeE2v0 ceE2v0 cseE2v0 p3 (fx1v0.ext z3) (fx2v0.ext z3) (feE2v0.ext z3))
  · intro rec_post_merge_uint64_1_l5 ih_post_merge_uint64_1_l5 ⟨x1v0, x2v0, x4, x49, eE2v0⟩ r h S1 w1 hx Ax1v0 cx1v0 Ax2v0 cx2v0 GeE2v0 ceE2v0 cseE2v0 p1 fx1v0 fx2v0 feE2v0 junk
    dsimp only at h
    by_cases h20 : x49 = true
    · rw [if_pos h20] at h
      rw [h20]
      refine Goes.runs 6 [(50, .int .i64 x4), (51, .int .i64 (ior .i64 x4 2)), (4, .int .i64 (ior .i64 x4 2))] [.code (sub [0, 0, 1, 0, 1, 1, 1] B68), .inBlock 1, .inLoop (sub [0, 0] B68), .inBlock 0] (by kernel_rfl) ?_
      exact Goes.jump 73 [(0, yieldV lx0), (1, .pointer (some ⟨gx0q12b0, 0, none⟩)), (2, .pointer (some ⟨gx0q12b1, 0, none⟩)), (4, .int .i64 (ior .i64 x4 2))] (by kernel_rfl) (ih_post_merge_uint64_1_l5 _ _ h _ _ hx Ax1v0 cx1v0 Ax2v0 cx2v0 GeE2v0 ceE2v0 cseE2v0 p1 fx1v0 fx2v0 feE2v0)
    · rw [if_neg h20] at h
      have h20' : x49 = false := by simpa using h20
      rw [h20']
      refine Goes.runs 2 [] [.code (sub [0, 0, 1, 0, 1, 1, 1] B68), .inBlock 1, .inLoop (sub [0, 0] B68), .inBlock 0] (by kernel_rfl) ?_
      exact Goes.jump 73 [(0, yieldV lx0), (1, .pointer (some ⟨gx0q12b0, 0, none⟩)), (2, .pointer (some ⟨gx0q12b1, 0, none⟩)), (4, .int .i64 x4)] (by kernel_rfl) (ih_post_merge_uint64_1_l5 _ _ h _ _ hx Ax1v0 cx1v0 Ax2v0 cx2v0 GeE2v0 ceE2v0 cseE2v0 p1 fx1v0 fx2v0 feE2v0)
  · intro rec_post_merge_uint64_1_l6 ih_post_merge_uint64_1_l6 ⟨x1v0, x2v0, x4, eE2v0⟩ r h S1 w1 hx Ax1v0 cx1v0 Ax2v0 cx2v0 GeE2v0 ceE2v0 cseE2v0 p1 fx1v0 fx2v0 feE2v0 junk
    dsimp only at h
    refine Goes.runs 11 [(5, .int .u64 0), (52, .int .i64 x4), (53, .int .i64 (iand .i64 x4 2)), (54, .bool (!(decide (iand .i64 x4 2 = 0))))] [.code (sub [0, 0, 1, 0, 1, 1, 1, 1, 0, 1] B68), .code (sub [0, 0, 1, 0, 1, 1, 1, 1, 1] B68), .inBlock 1, .inLoop (sub [0, 0] B68), .inBlock 0] (by kernel_rfl) ?_
    by_cases h21 : iand .i64 x4 2 = 0
    · rw [if_pos h21] at h
      rw [decide_eq_true h21]
      refine Goes.runs 2 [] [.code (sub [0, 0, 1, 0, 1, 1, 1, 1, 1] B68), .inBlock 1, .inLoop (sub [0, 0] B68), .inBlock 0] (by kernel_rfl) ?_
      exact Goes.jump 73 [(0, yieldV lx0), (1, .pointer (some ⟨gx0q12b0, 0, none⟩)), (2, .pointer (some ⟨gx0q12b1, 0, none⟩)), (4, .int .i64 x4), (5, .int .u64 0)] (by kernel_rfl) (ih_post_merge_uint64_1_l6 _ _ h _ _ hx Ax1v0 cx1v0 Ax2v0 cx2v0 GeE2v0 ceE2v0 cseE2v0 p1 fx1v0 fx2v0 feE2v0)
    · rw [if_neg h21] at h
      rw [decide_eq_false h21]
      refine Goes.runs 1 [] [.code (sub [0, 0, 1, 0, 1, 1, 1, 1, 0, 1, 0] B68), .code (sub [0, 0, 1, 0, 1, 1, 1, 1, 1] B68), .inBlock 1, .inLoop (sub [0, 0] B68), .inBlock 0] (by kernel_rfl) ?_
      have z4 : Ext S1 w1 S1 (w1).drew := Ext.draw
      have p4 := p1.draw
      refine Goes.drawn (s := [6]) (F := Fc S1 (w1).drew [(⟨gx0q12b1, 0, none⟩, .slice Ax2v0 x2v0.length cx2v0)]) 8 7 (by kernel_rfl) (by kernel_rfl) (by kernel_rfl) (by kernel_rfl) ?_
      generalize (w1).drew = w4 at z4 p4 ⊢
      refine AnyG.ld1 (i := 0) 22 (.tmp 2) 55 22 ⟨gx0q12b1, 0, none⟩ (.slice Ax2v0 x2v0.length cx2v0) (by kernel_rfl) (by kernel_rfl) (Fc.here ⟨((p4.mem 2 rfl).cell 0 _ rfl), trivial⟩) (by kernel_rfl) (by kernel_rfl) (fun _ h => h.2.at_ 0 rfl) ?_
      obtain ⟨g22, h⟩ := guard_some h
      refine AnyG.ixR (i := 1) 22 (.tmp 55) (.const (.int .i64 0)) 56 0 35 .i64 0 (fx2v0.ext z4) (by kernel_rfl) (by kernel_rfl) (Fc.here ⟨((p4.mem 2 rfl).cell 0 _ rfl), trivial⟩) (by kernel_rfl) (by kernel_rfl) (by kernel_rfl) (by kernel_rfl) (by decide) g22 ?_
      rintro a23 _ f24 rfl
      refine AnyG.ld1 (i := 2) 35 (.tmp 56) 57 35 a23 (.int .u64 (gi x2v0 0)) (by kernel_rfl) (by kernel_rfl) (Fc.here ⟨((p4.mem 2 rfl).cell 0 _ rfl), trivial⟩) (by kernel_rfl) (by kernel_rfl) (fun _ h => f24.fc h 0 _ rfl) ?_
      refine AnyG.ld1 (i := 3) 22 (.tmp 2) 58 22 ⟨gx0q12b1, 0, none⟩ (.slice Ax2v0 x2v0.length cx2v0) (by kernel_rfl) (by kernel_rfl) (Fc.here ⟨((p4.mem 2 rfl).cell 0 _ rfl), trivial⟩) (by kernel_rfl) (by kernel_rfl) (fun _ h => h.2.at_ 0 rfl) ?_
      obtain ⟨g25, h⟩ := guard_some h
      refine AnyG.slR (i := 4) 22 (.tmp 58) (some (.const (.int .i64 1))) none 59 22 35 1 (x2v0.length : Int) (fx2v0.ext z4) (by kernel_rfl) (by kernel_rfl) (Fc.here ⟨((p4.mem 2 rfl).cell 0 _ rfl), trivial⟩) (by kernel_rfl) (by kernel_rfl) (by kernel_rfl) (Bnd.at_ .i64 (by kernel_rfl)) Bnd.no (by decide) g25 (Int.le_refl _) ?_
      intro A26 c27 f28
      refine AnyG.pure (i := 5) (.assign (.tmp 57)) 5 35 (.int .u64 (gi x2v0 0)) (by kernel_rfl) (by kernel_rfl) (by kernel_rfl) (Fc.here ⟨((p4.mem 2 rfl).cell 0 _ rfl), trivial⟩) ?_
      refine Op_.st 22 (.tmp 2) (.tmp 59) 0 2 gx0q12b1 0 (.slice A26 (sl x2v0 1 (x2v0.length : Int)).length c27) [.slice A26 (sl x2v0 1 (x2v0.length : Int)).length c27] p4 rfl (AnyG.ss (i := 6) (by kernel_rfl) (by kernel_rfl)) (by kernel_rfl) (by kernel_rfl) (by kernel_rfl) (by kernel_rfl) (Nat.zero_le _) (by simp only [List.length_cons, List.length_nil]; omega) (by simp [Value.oneCell']) ?_
      intro w5 z5 p5
      refine AnyG.last (by decide) ?_
      refine AnyG.done (by kernel_rfl) ?_ _
      exact Goes.jump 73 [(0, yieldV lx0), (1, .pointer (some ⟨gx0q12b0, 0, none⟩)), (2, .pointer (some ⟨gx0q12b1, 0, none⟩)), (4, .int .i64 x4), (5, .int .u64 (gi x2v0 0))] (by kernel_rfl) (ih_post_merge_uint64_1_l6 _ _ h _ _ ((hx.trans z4).trans z5) Ax1v0 cx1v0 A26 c27 GeE2v0 ceE2v0 cseE2v0 p5 ((fx1v0.ext z4).ext z5) (f28.ext z5) ((feE2v0.ext z4).ext z5))
  · intro rec_post_merge_uint64_1_l7 ih_post_merge_uint64_1_l7 ⟨x1v0, x2v0, x4, x5, eE2v0⟩ r h S1 w1 hx Ax1v0 cx1v0 Ax2v0 cx2v0 GeE2v0 ceE2v0 cseE2v0 p1 fx1v0 fx2v0 feE2v0 junk
    dsimp only at h
    refine Goes.runs 7 [(60, .int .i64 x4), (61, .int .i64 (iand .i64 x4 1)), (62, .bool (!(decide (iand .i64 x4 1 = 0))))] [.code (sub [0, 0, 1, 0, 1, 1, 1, 1, 1, 0, 1] B68), .code (sub [0, 0, 1, 0, 1, 1, 1, 1, 1, 1] B68), .inBlock 1, .inLoop (sub [0, 0] B68), .inBlock 0] (by kernel_rfl) ?_
    by_cases h29 : iand .i64 x4 1 = 0
    · rw [if_pos h29] at h
      rw [decide_eq_true h29]
      refine Goes.runs 2 [] [.code (sub [0, 0, 1, 0, 1, 1, 1, 1, 1, 1] B68), .inBlock 1, .inLoop (sub [0, 0] B68), .inBlock 0] (by kernel_rfl) ?_
      exact Goes.jump 73 [(0, yieldV lx0), (1, .pointer (some ⟨gx0q12b0, 0, none⟩)), (2, .pointer (some ⟨gx0q12b1, 0, none⟩)), (4, .int .i64 x4), (5, .int .u64 x5)] (by kernel_rfl) (ih_post_merge_uint64_1_l7 _ _ h _ _ hx Ax1v0 cx1v0 Ax2v0 cx2v0 GeE2v0 ceE2v0 cseE2v0 p1 fx1v0 fx2v0 feE2v0)
    · rw [if_neg h29] at h
      rw [decide_eq_false h29]
      refine Goes.runs 1 [] [.code (sub [0, 0, 1, 0, 1, 1, 1, 1, 1, 0, 1, 0] B68), .code (sub [0, 0, 1, 0, 1, 1, 1, 1, 1, 1] B68), .inBlock 1, .inLoop (sub [0, 0] B68), .inBlock 0] (by kernel_rfl) ?_
      have z6 : Ext S1 w1 S1 (w1).drew := Ext.draw
      have p6 := p1.draw
      refine Goes.drawn (s := [6]) (F := Fc S1 (w1).drew [(⟨gx0q12b0, 0, none⟩, .slice Ax1v0 x1v0.length cx1v0)]) 10 7 (by kernel_rfl) (by kernel_rfl) (by kernel_rfl) (by kernel_rfl) ?_
      generalize (w1).drew = w6 at z6 p6 ⊢
      refine AnyG.ld1 (i := 0) 22 (.tmp 1) 63 22 ⟨gx0q12b0, 0, none⟩ (.slice Ax1v0 x1v0.length cx1v0) (by kernel_rfl) (by kernel_rfl) (Fc.here ⟨((p6.mem 1 rfl).cell 0 _ rfl), trivial⟩) (by kernel_rfl) (by kernel_rfl) (fun _ h => h.2.at_ 0 rfl) ?_
      obtain ⟨g30, h⟩ := guard_some h
      refine AnyG.ixR (i := 1) 22 (.tmp 63) (.const (.int .i64 0)) 64 0 35 .i64 0 (fx1v0.ext z6) (by kernel_rfl) (by kernel_rfl) (Fc.here ⟨((p6.mem 1 rfl).cell 0 _ rfl), trivial⟩) (by kernel_rfl) (by kernel_rfl) (by kernel_rfl) (by kernel_rfl) (by decide) g30 ?_
      rintro a31 _ f32 rfl
      refine AnyG.ld1 (i := 2) 35 (.tmp 64) 65 35 a31 (.int .u64 (gi x1v0 0)) (by kernel_rfl) (by kernel_rfl) (Fc.here ⟨((p6.mem 1 rfl).cell 0 _ rfl), trivial⟩) (by kernel_rfl) (by kernel_rfl) (fun _ h => f32.fc h 0 _ rfl) ?_
      refine AnyG.ld1 (i := 3) 22 (.tmp 1) 66 22 ⟨gx0q12b0, 0, none⟩ (.slice Ax1v0 x1v0.length cx1v0) (by kernel_rfl) (by kernel_rfl) (Fc.here ⟨((p6.mem 1 rfl).cell 0 _ rfl), trivial⟩) (by kernel_rfl) (by kernel_rfl) (fun _ h => h.2.at_ 0 rfl) ?_
      obtain ⟨g33, h⟩ := guard_some h
      refine AnyG.slR (i := 4) 22 (.tmp 66) (some (.const (.int .i64 1))) none 67 22 35 1 (x1v0.length : Int) (fx1v0.ext z6) (by kernel_rfl) (by kernel_rfl) (Fc.here ⟨((p6.mem 1 rfl).cell 0 _ rfl), trivial⟩) (by kernel_rfl) (by kernel_rfl) (by kernel_rfl) (Bnd.at_ .i64 (by kernel_rfl)) Bnd.no (by decide) g33 (Int.le_refl _) ?_
      intro A34 c35 f36
      refine AnyG.pure (i := 5) (.assign (.tmp 65)) 5 35 (.int .u64 (gi x1v0 0)) (by kernel_rfl) (by kernel_rfl) (by kernel_rfl) (Fc.here ⟨((p6.mem 1 rfl).cell 0 _ rfl), trivial⟩) ?_
      refine Op_.st 22 (.tmp 1) (.tmp 67) 0 1 gx0q12b0 0 (.slice A34 (sl x1v0 1 (x1v0.length : Int)).length c35) [.slice A34 (sl x1v0 1 (x1v0.length : Int)).length c35] p6 rfl (AnyG.ss (i := 6) (by kernel_rfl) (by kernel_rfl)) (by kernel_rfl) (by kernel_rfl) (by kernel_rfl) (by kernel_rfl) (Nat.zero_le _) (by simp only [List.length_cons, List.length_nil]; omega) (by simp [Value.oneCell']) ?_
      intro w7 z7 p7
      refine AnyG.last (by decide) ?_
      refine AnyG.done (by kernel_rfl) ?_ _
      exact Goes.jump 73 [(0, yieldV lx0), (1, .pointer (some ⟨gx0q12b0, 0, none⟩)), (2, .pointer (some ⟨gx0q12b1, 0, none⟩)), (4, .int .i64 x4), (5, .int .u64 (gi x1v0 0))] (by kernel_rfl) (ih_post_merge_uint64_1_l7 _ _ h _ _ ((hx.trans z6).trans z7) A34 c35 Ax2v0 cx2v0 GeE2v0 ceE2v0 cseE2v0 p7 (f36.ext z7) ((fx2v0.ext z6).ext z7) ((feE2v0.ext z6).ext z7))
  · intro rec_post_merge_uint64_1_l0 ih_post_merge_uint64_1_l0 ⟨x1v0, x2v0, x4, x5, eE2v0⟩ r h S1 w1 hx Ax1v0 cx1v0 Ax2v0 cx2v0 GeE2v0 ceE2v0 cseE2v0 p1 fx1v0 fx2v0 feE2v0 junk
    dsimp only at h
    refine Goes.runs 5 [(68, yieldV lx0), (69, .int .u64 x5), (70, .int .i64 x4)] [.inRegion (opsOf (sub [0, 0, 1, 0, 1, 1, 1, 1, 1, 1, 0] B68)) [3, 4], .code (sub [0, 0, 1, 0, 1, 1, 1, 1, 1, 1, 1] B68), .inBlock 1, .inLoop (sub [0, 0] B68), .inBlock 0] (by kernel_rfl) ?_
    have p1 := p1.front 2 _ rfl
    have p1 := p1.front 2 _ rfl
    have p1 := p1.front 5 _ rfl
    have p1 := p1.front 5 _ rfl
    have p1 := p1.front 5 _ rfl
    have p1 := p1.front 5 _ rfl
    obtain ⟨y37, e38, h⟩ := bind_some h
    try dsimp only at h
    refine Goes.yieldAt (.call { callee := .value (.tmp 68), args := #[(.tmp 69), (.tmp 70)], argTypes := #[35, 3] }) 71 4 0 lx0 #[.int .u64 x5, .int .i64 x4] p1 rfl (by kernel_rfl) rfl (fun _ => by kernel_rfl) rfl (W.post_those_uint64__r eE2v0 x1v0 x2v0 x5 x4 y37 e38 nz wz S1 w1 (Lr) lx0 rx0 jkx0 gx0q5 gx0q7 GeE2v0 ceE2v0 cseE2v0 gx0q12b0 Ax1v0 cx1v0 gx0q12b1 Ax2v0 cx2v0 p1 feE2v0 fx1v0 fx2v0) ?_
    rintro _ w8 ⟨S8, G39, c40, cs41, A45, c46, A48, c49, rfl, z8, p8, f43, f47, f50⟩
    refine Goes.runs 6 [(72, .bool (!true))] [.code (sub [0, 0] B68), .inLoop (sub [0, 0] B68), .inBlock 0] (by kernel_rfl) ?_
    have p8 := p8.front 0 _ rfl
    have p8 := p8.front 3 _ rfl
    have p8 := p8.front 3 _ rfl
    have p8 := p8.front 5 _ rfl
    have p8 := p8.front 5 _ rfl
    have p8 := p8.front 5 _ rfl
    exact Goes.jump 73 [(0, yieldV lx0), (1, .pointer (some ⟨gx0q12b0, 0, none⟩)), (2, .pointer (some ⟨gx0q12b1, 0, none⟩))] (by kernel_rfl) (ih_post_merge_uint64_1_l0 _ _ h _ _ (hx.trans z8) A45 c46 A48 c49 G39 c40 cs41 p8 f47 f50 f43)

theorem W.post_merge_uint64_1_l0 (nz : Nat) (wz : World) (S0 : Fz) (w0 : World) (Lr : List Ent) (lx0 : Nat) (rx0 : Nat) (jkx0 : Nat → Value) (gx0q5 : Nat) (gx0q7 : Nat) (gx0q12b0 : Nat) (gx0q12b1 : Nat) : ∀ a r, M.post_merge_uint64_1_l0 a = some r → L.post_merge_uint64_1_l0 nz wz S0 w0 Lr lx0 rx0 jkx0 gx0q5 gx0q7 gx0q12b0 gx0q12b1 a r := (W.post_merge_uint64_1_l0_all nz wz S0 w0 Lr lx0 rx0 jkx0 gx0q5 gx0q7 gx0q12b0 gx0q12b1).1

theorem W.post_merge_uint64_1_l1 (nz : Nat) (wz : World) (S0 : Fz) (w0 : World) (Lr : List Ent) (lx0 : Nat) (rx0 : Nat) (jkx0 : Nat → Value) (gx0q5 : Nat) (gx0q7 : Nat) (gx0q12b0 : Nat) (gx0q12b1 : Nat) : ∀ a r, M.post_merge_uint64_1_l1 a = some r → L.post_merge_uint64_1_l1 nz wz S0 w0 Lr lx0 rx0 jkx0 gx0q5 gx0q7 gx0q12b0 gx0q12b1 a r := (W.post_merge_uint64_1_l0_all nz wz S0 w0 Lr lx0 rx0 jkx0 gx0q5 gx0q7 gx0q12b0 gx0q12b1).2.1

theorem W.post_merge_uint64_1_l2 (nz : Nat) (wz : World) (S0 : Fz) (w0 : World) (Lr : List Ent) (lx0 : Nat) (rx0 : Nat) (jkx0 : Nat → Value) (gx0q5 : Nat) (gx0q7 : Nat) (gx0q12b0 : Nat) (gx0q12b1 : Nat) : ∀ a r, M.post_merge_uint64_1_l2 a = some r → L.post_merge_uint64_1_l2 nz wz S0 w0 Lr lx0 rx0 jkx0 gx0q5 gx0q7 gx0q12b0 gx0q12b1 a r := (W.post_merge_uint64_1_l0_all nz wz S0 w0 Lr lx0 rx0 jkx0 gx0q5 gx0q7 gx0q12b0 gx0q12b1).2.2.1

theorem W.post_merge_uint64_1_l3 (nz : Nat) (wz : World) (S0 : Fz) (w0 : World) (Lr : List Ent) (lx0 : Nat) (rx0 : Nat) (jkx0 : Nat → Value) (gx0q5 : Nat) (gx0q7 : Nat) (gx0q12b0 : Nat) (gx0q12b1 : Nat) : ∀ a r, M.post_merge_uint64_1_l3 a = some r → L.post_merge_uint64_1_l3 nz wz S0 w0 Lr lx0 rx0 jkx0 gx0q5 gx0q7 gx0q12b0 gx0q12b1 a r := (W.post_merge_uint64_1_l0_all nz wz S0 w0 Lr lx0 rx0 jkx0 gx0q5 gx0q7 gx0q12b0 gx0q12b1).2.2.2.1

theorem W.post_merge_uint64_1_l4 (nz : Nat) (wz : World) (S0 : Fz) (w0 : World) (Lr : List Ent) (lx0 : Nat) (rx0 : Nat) (jkx0 : Nat → Value) (gx0q5 : Nat) (gx0q7 : Nat) (gx0q12b0 : Nat) (gx0q12b1 : Nat) : ∀ a r, M.post_merge_uint64_1_l4 a = some r → L.post_merge_uint64_1_l4 nz wz S0 w0 Lr lx0 rx0 jkx0 gx0q5 gx0q7 gx0q12b0 gx0q12b1 a r := (W.post_merge_uint64_1_l0_all nz wz S0 w0 Lr lx0 rx0 jkx0 gx0q5 gx0q7 gx0q12b0 gx0q12b1).2.2.2.2.1

theorem W.post_merge_uint64_1_l5 (nz : Nat) (wz : World) (S0 : Fz) (w0 : World) (Lr : List Ent) (lx0 : Nat) (rx0 : Nat) (jkx0 : Nat → Value) (gx0q5 : Nat) (gx0q7 : Nat) (gx0q12b0 : Nat) (gx0q12b1 : Nat) : ∀ a r, M.post_merge_uint64_1_l5 a = some r → L.post_merge_uint64_1_l5 nz wz S0 w0 Lr lx0 rx0 jkx0 gx0q5 gx0q7 gx0q12b0 gx0q12b1 a r := (W.post_merge_uint64_1_l0_all nz wz S0 w0 Lr lx0 rx0 jkx0 gx0q5 gx0q7 gx0q12b0 gx0q12b1).2.2.2.2.2.1

theorem W.post_merge_uint64_1_l6 (nz : Nat) (wz : World) (S0 : Fz) (w0 : World) (Lr : List Ent) (lx0 : Nat) (rx0 : Nat) (jkx0 : Nat → Value) (gx0q5 : Nat) (gx0q7 : Nat) (gx0q12b0 : Nat) (gx0q12b1 : Nat) : ∀ a r, M.post_merge_uint64_1_l6 a = some r → L.post_merge_uint64_1_l6 nz wz S0 w0 Lr lx0 rx0 jkx0 gx0q5 gx0q7 gx0q12b0 gx0q12b1 a r := (W.post_merge_uint64_1_l0_all nz wz S0 w0 Lr lx0 rx0 jkx0 gx0q5 gx0q7 gx0q12b0 gx0q12b1).2.2.2.2.2.2.1

theorem W.post_merge_uint64_1_l7 (nz : Nat) (wz : World) (S0 : Fz) (w0 : World) (Lr : List Ent) (lx0 : Nat) (rx0 : Nat) (jkx0 : Nat → Value) (gx0q5 : Nat) (gx0q7 : Nat) (gx0q12b0 : Nat) (gx0q12b1 : Nat) : ∀ a r, M.post_merge_uint64_1_l7 a = some r → L.post_merge_uint64_1_l7 nz wz S0 w0 Lr lx0 rx0 jkx0 gx0q5 gx0q7 gx0q12b0 gx0q12b1 a r := (W.post_merge_uint64_1_l0_all nz wz S0 w0 Lr lx0 rx0 jkx0 gx0q5 gx0q7 gx0q12b0 gx0q12b1).2.2.2.2.2.2.2

theorem W.post_merge_uint64_1 (x0q7v0 : List Int) (x0q12b0v0 : List Int) (x0q12b1v0 : List Int) (r : (List Int) × (List Int) × (List Int)) (h : M.post_merge_uint64_1 x0q7v0 x0q12b0v0 x0q12b1v0 = some r) (nz : Nat) (wz : World) (S0 : Fz) (w0 : World) (Lr : List Ent) (lx0 : Nat) (rx0 : Nat) (jkx0 : Nat → Value) (gx0q5 : Nat) (gx0q7 : Nat) (Gx0q7v0 : Option Nat) (cx0q7v0 : Nat) (csx0q7v0 : List Value) (gx0q12b0 : Nat) (Ax0q12b0v0 : Option Addr) (cx0q12b0v0 : Nat) (gx0q12b1 : Nat) (Ax0q12b1v0 : Option Addr) (cx0q12b1v0 : Nat) (p0 : Hp nz wz S0 w0 ((some lx0, .obj (lpst 58 (lfr 23 [(5, .pointer (some ⟨gx0q5, 0, none⟩)), (7, .pointer (some ⟨gx0q7, 0, none⟩)), (12, .func (.func 68) #[] #[.pointer (some ⟨gx0q12b0, 0, none⟩), .pointer (some ⟨gx0q12b1, 0, none⟩)])] jkx0) #[13, 14] (rfAssign (sub [1, 1, 0, 1, 0] B58)) (rfBody (sub [1, 1, 0, 1, 0] B58)) rx0 .ready none)) :: (some gx0q5, .row 72 [.func (.func 46) #[] #[]] 1 0) :: (some gx0q7, .row 22 [.slice (Gp Gx0q7v0) x0q7v0.length cx0q7v0] 1 0) :: (Gx0q7v0, .row 35 csx0q7v0 (cx0q7v0 * (kInt .u64).size) 0) :: (some gx0q12b0, .row 22 [.slice Ax0q12b0v0 x0q12b0v0.length cx0q12b0v0] 1 0) :: (some gx0q12b1, .row 22 [.slice Ax0q12b1v0 x0q12b1v0.length cx0q12b1v0] 1 0) :: Lr)) (fx0q7v0 : Els (kInt .u64) S0 w0 csx0q7v0 x0q7v0) (fx0q12b0v0 : Rd (kInt .u64) S0 w0 Ax0q12b0v0 cx0q12b0v0 x0q12b0v0) (fx0q12b1v0 : Rd (kInt .u64) S0 w0 Ax0q12b1v0 cx0q12b1v0 x0q12b1v0) :
    Calls Try.prog 68 #[yieldV lx0, .pointer (some ⟨gx0q12b0, 0, none⟩), .pointer (some ⟨gx0q12b1, 0, none⟩)] w0 (Rets (Post.post_merge_uint64_1 nz wz S0 w0 Lr lx0 rx0 jkx0 gx0q5 gx0q7 gx0q12b0 gx0q12b1 r)) := by
  refine calls_of_goes (fn := Try.f68) (c := B68) (by kernel_rfl) (by kernel_rfl) 70 (by kernel_rfl) ?_
  refine Goes.jump 73 [(0, yieldV lx0), (1, .pointer (some ⟨gx0q12b0, 0, none⟩)), (2, .pointer (some ⟨gx0q12b1, 0, none⟩))] (by kernel_rfl) (fun junk => ?_)
  delta M.post_merge_uint64_1 at h
  refine Goes.runs 2 [] [.code (sub [0, 0] B68), .inLoop (sub [0, 0] B68), .inBlock 0] (by kernel_rfl) ?_
  have p0 := p0.front 3 _ rfl
  have p0 := p0.front 3 _ rfl
  have p0 := p0.front 3 _ rfl
  have p0 := p0.front 5 _ rfl
  have p0 := p0.front 5 _ rfl
  have p0 := p0.front 5 _ rfl
  exact Goes.jump 73 [(0, yieldV lx0), (1, .pointer (some ⟨gx0q12b0, 0, none⟩)), (2, .pointer (some ⟨gx0q12b1, 0, none⟩))] (by kernel_rfl) (W.post_merge_uint64_1_l0 nz wz S0 w0 Lr lx0 rx0 jkx0 gx0q5 gx0q7 gx0q12b0 gx0q12b1 _ _ h _ _ (Ext.refl S0 w0) Ax0q12b0v0 cx0q12b0v0 Ax0q12b1v0 cx0q12b1v0 Gx0q7v0 cx0q7v0 csx0q7v0 p0 fx0q12b0v0 fx0q12b1v0 fx0q7v0)

/-! tidepole/post.those[uint64] -/
def Post.post_those_uint64 (nz : Nat) (wz : World) (S0 : Fz) (w0 : World) (Lr : List Ent) (r : List Int) (v : Value) (w' : World) : Prop :=
  ∃ (S' : Fz) (G1 : Option Nat) (c2 : Nat) (cs3 : List Value), v = .slice (Gp G1) r.length c2 ∧ Ext S0 w0 S' w' ∧ Hp nz wz S' w' ((G1, .row 35 cs3 (c2 * (kInt .u64).size) 0) :: Lr) ∧ Els (kInt .u64) S' w' cs3 r

theorem W.post_those_uint64 (x0 : List Int) (x1 : List Int) (r : List Int) (h : M.post_those_uint64 x0 x1 = some r) (nz : Nat) (wz : World) (S0 : Fz) (w0 : World) (Lr : List Ent) (Ax0 : Option Addr) (cx0 : Nat) (Ax1 : Option Addr) (cx1 : Nat) (p0 : Hp nz wz S0 w0 (Lr)) (fx0 : Rd (kInt .u64) S0 w0 Ax0 cx0 x0) (fx1 : Rd (kInt .u64) S0 w0 Ax1 cx1 x1) :
    Calls Try.prog 58 #[.slice Ax0 x0.length cx0, .slice Ax1 x1.length cx1, .func (.func 46) #[] #[]] w0 (Rets (Post.post_those_uint64 nz wz S0 w0 Lr r)) := by
  refine calls_of_goes (fn := Try.f58) (c := B58) (by kernel_rfl) (by kernel_rfl) 20 (by kernel_rfl) ?_
  refine Goes.jump 23 [(0, .slice Ax0 x0.length cx0), (1, .slice Ax1 x1.length cx1), (2, .func (.func 46) #[] #[])] (by kernel_rfl) (fun junk => ?_)
  delta M.post_those_uint64 at h
  refine Goes.runs 2 [] [.inRegion (opsOf (sub [0] B58)) [0, 1], .code (sub [1] B58)] (by kernel_rfl) ?_
  refine Op_.box 72 (.tmp 2) 5 0 (.func (.func 46) #[] #[]) [.func (.func 46) #[] #[]] p0 (Goes.vs (by kernel_rfl)) (by kernel_rfl) (by kernel_rfl) ?_
  intro b1 w2 z2 p2
  refine Goes.runs 4 [(6, .slice none 0 0)] [.inRegion (opsOf (sub [1, 0] B58)) [0], .code (sub [1, 1] B58)] (by kernel_rfl) ?_
  refine Op_.alloc 22 7 0 (.slice none 0 0) [.slice none 0 0] p2 (Goes.vs (by kernel_rfl)) (by kernel_rfl) (by kernel_rfl) ?_
  intro b3 w3 z3 p3
  refine Goes.runs 6 [(10, .slice Ax0 x0.length cx0), (11, .slice Ax1 x1.length cx1)] [.inRegion (opsOf (sub [1, 1, 0, 0] B58)) [2], .code (sub [1, 1, 0, 1] B58), .code (sub [1, 1, 1] B58)] (by kernel_rfl) ?_
  obtain ⟨y5, e6, h⟩ := bind_some h
  try dsimp only at h
  refine Op_.call (.call { callee := .value (.func 63), args := #[(.tmp 10), (.tmp 11)], argTypes := #[22, 22] }) 12 88 63 #[.slice Ax0 x0.length cx0, .slice Ax1 x1.length cx1] (Goes.cs (by kernel_rfl)) (by kernel_rfl) (W.post_merge_uint64 x0 x1 y5 e6 nz wz S0 w3 ((some b3, .row 22 [.slice none 0 0] 1 0) :: (some b1, .row 72 [.func (.func 46) #[] #[]] 1 0) :: Lr) Ax0 cx0 Ax1 cx1 p3 ((fx0.ext z2).ext z3) ((fx1.ext z2).ext z3)) ?_
  rintro _ w4 ⟨S4, b8, A9, c10, b13, A14, c15, rfl, z4, p4, f11, f16⟩
  refine Goes.runs 2 [] [.code (sub [1, 1, 0, 1, 0] B58), .inBlock 0, .code (sub [1, 1, 1] B58)] (by kernel_rfl) ?_
  refine Goes.jump 23 [(5, .pointer (some ⟨b1, 0, none⟩)), (7, .pointer (some ⟨b3, 0, none⟩)), (12, .func (.func 68) #[] #[.pointer (some ⟨b8, 0, none⟩), .pointer (some ⟨b13, 0, none⟩)])] (by kernel_rfl) (fun junk17 => ?_)
  refine Goes.rangeF (f := 58) (.tmp 12) #[13, 14] 68 #[] #[.pointer (some ⟨b8, 0, none⟩), .pointer (some ⟨b13, 0, none⟩)] (by kernel_rfl) (by kernel_rfl) (fun _ => by kernel_rfl) p4 ?_
  intro r18 l19 w5 z5 p5
  have p5 : Hp nz wz S4 w5 ((none, .row 35 [] (0 * (kInt .u64).size) 0) :: (some l19, .obj (lpst 58 (lfr 23 [(5, .pointer (some ⟨b1, 0, none⟩)), (7, .pointer (some ⟨b3, 0, none⟩)), (12, .func (.func 68) #[] #[.pointer (some ⟨b8, 0, none⟩), .pointer (some ⟨b13, 0, none⟩)])] junk17) #[13, 14] (rfAssign (sub [1, 1, 0, 1, 0] B58)) (rfBody (sub [1, 1, 0, 1, 0] B58)) r18 .ready none)) :: (some r18, .obj (.deferred (some []))) :: (some b8, .row 22 [.slice A9 y5.1.length c10] 1 0) :: (some b13, .row 22 [.slice A14 y5.2.length c15] 1 0) :: (some b3, .row 22 [.slice none 0 0] 1 0) :: (some b1, .row 72 [.func (.func 46) #[] #[]] 1 0) :: Lr) := p5.nilRow' 35
  have p5 := p5.front 4 _ rfl
  have p5 := p5.front 4 _ rfl
  have p5 := p5.front 2 _ rfl
  have p5 := p5.front 5 _ rfl
  have p5 := p5.front 6 _ rfl
  have p5 := p5.front 5 _ rfl
  obtain ⟨y23, e24, h⟩ := bind_some h
  try dsimp only at h
  refine ⟨_, W.post_merge_uint64_1 ([] : List Int) y5.1 y5.2 y23 e24 nz wz S4 w5 ((some r18, .obj (.deferred (some []))) :: Lr) l19 r18 junk17 b1 b3 none 0 [] b8 A9 c10 b13 A14 c15 p5 (Els.nil : Els (kInt .u64) S4 w5 [] []) (f11.ext z5) (f16.ext z5), ?_⟩
  rintro _ w6 ⟨S6, G25, c26, cs27, A31, c32, A34, c35, rfl, z6, p6, f29, f33, f36⟩
  refine Goes.endF 1 p6 rfl rfl ?_
  intro w7 z7 p7
  replace p7 : Hp nz wz S6 w7 ((G25, .row 35 cs27 (c26 * (kInt .u64).size) 0) :: (some b1, .row 72 [.func (.func 46) #[] #[]] 1 0) :: (some b3, .row 22 [.slice (Gp G25) y23.1.length c26] 1 0) :: (some b8, .row 22 [.slice A31 y23.2.1.length c32] 1 0) :: (some b13, .row 22 [.slice A34 y23.2.2.length c35] 1 0) :: (some r18, .obj (.deferred (some []))) :: Lr) := (p7.front 1 _ rfl).drop
  show Goes _ _ [.inBlock 0, .code (sub [1, 1, 1] B58)] _ _ _
  refine Goes.runs 3 [] [.inRegion (opsOf (sub [1, 1, 1, 0] B58)) [0, 1], .code (sub [1, 1, 1, 1] B58)] (by kernel_rfl) ?_
  refine Op_.ld1 22 (.tmp 7) 22 22 ⟨b3, 0, none⟩ (.slice (Gp G25) y23.1.length c26) (Goes.vs (by kernel_rfl)) (by kernel_rfl) (by kernel_rfl) ((p7.mem 2 rfl).cell 0 _ rfl) ?_
  refine Goes.runs 2 [(6, .slice (Gp G25) y23.1.length c26)] [.code (sub [1, 1, 1, 1] B58)] (by kernel_rfl) ?_
  have p7 := (p7.front 1 _ rfl).drop
  have p7 := (p7.front 1 _ rfl).drop
  have p7 := (p7.front 1 _ rfl).drop
  have p7 := (p7.front 1 _ rfl).drop
  have p7 := p7.front 0 _ rfl
  have p7 := p7.front 1 _ rfl
  obtain rfl := Option.some.inj h
  refine Goes.retL ?_
  refine lvs_mark 0 rfl rfl p7 rfl ?_
  intro w8 z8 p8
  replace p8 : Hp nz wz S6 w8 ((G25, .row 35 cs27 (c26 * (kInt .u64).size) 0) :: Lr) := p8.drop
  exact lvs_done (fn := Try.f58) rfl rfl rfl rfl (by kernel_rfl) (v := .slice (Gp G25) y23.1.length c26) (by kernel_rfl) ⟨S6, G25, c26, cs27, rfl, ((((((((Ext.refl S0 w0).trans z2).trans z3).trans z4).trans z5).trans z6).trans z7).trans z8), p8, ((f29.ext z7).ext z8)⟩

/-! tidepole/post.fold -/
def Post.post_fold (nz : Nat) (wz : World) (S0 : Fz) (w0 : World) (Lr : List Ent) (r : (List Int) × Int) (v : Value) (w' : World) : Prop :=
  ∃ (S' : Fz) (G1 : Option Nat) (c2 : Nat) (cs3 : List Value), v = .tuple #[.slice (Gp G1) r.1.length c2, .int .i64 r.2] ∧ Ext S0 w0 S' w' ∧ Hp nz wz S' w' ((G1, .row 35 cs3 (c2 * (kInt .u64).size) 0) :: Lr) ∧ Els (kInt .u64) S' w' cs3 r.1

def L.post_fold_l1 (nz : Nat) (wz : World) (S0 : Fz) (w0 : World) (Lr : List Ent) : List Int × List (List Int) × Int × Int → ((List Int) × Int) → Prop := fun ⟨x9, x35, x36, x37⟩ r => ∀ S1 w1, Ext S0 w0 S1 w1 → ∀ (Gx9 : Option Nat) (cx9 : Nat) (csx9 : List Value) (Ax35 : Option Addr) (cx35 : Nat) (_ : Hp nz wz S1 w1 ((Gx9, .row 35 csx9 (cx9 * (kInt .u64).size) 0) :: Lr)) (_ : Els (kInt .u64) S1 w1 csx9 x9) (_ : Rd (kSl (kInt .u64)) S1 w1 Ax35 cx35 x35) (junk : Nat → Value),
  Goes Try.prog (base 43) [.code (sub [1, 1, 1, 1, 1, 0, 1, 0, 0] B43), .inLoop (sub [1, 1, 1, 1, 1, 0, 1, 0, 0] B43), .inBlock 2, .code (sub [1, 1, 1, 1, 1, 1] B43)] ⟨lfr 47 [(1, .func (.func 46) #[] #[]), (9, .slice (Gp Gx9) x9.length cx9), (35, .slice Ax35 x35.length cx35), (36, .int .i64 x36), (37, .int .i64 x37)] junk, []⟩ w1 (Done Try.prog 43 (Rets (Post.post_fold nz wz S0 w0 Lr r)))

theorem W.post_fold_l1 (nz : Nat) (wz : World) (S0 : Fz) (w0 : World) (Lr : List Ent) : ∀ a r, M.post_fold_l1 a = some r → L.post_fold_l1 nz wz S0 w0 Lr a r := by
  refine M.post_fold_l1.partial_correctness (motive := L.post_fold_l1 nz wz S0 w0 Lr) ?_
  intro rec_post_fold_l1 ih_post_fold_l1 ⟨x9, x35, x36, x37⟩ r h S1 w1 hx Gx9 cx9 csx9 Ax35 cx35 p1 fx9 fx35 junk
  dsimp only at h
  refine Goes.runs 5 [(38, .bool (decide (x37 < x36)))] [.code (sub [1, 1, 1, 1, 1, 0, 1, 0, 0, 1, 0] B43), .code (sub [1, 1, 1, 1, 1, 0, 1, 0, 0, 1, 1] B43), .inLoop (sub [1, 1, 1, 1, 1, 0, 1, 0, 0] B43), .inBlock 2, .code (sub [1, 1, 1, 1, 1, 1] B43)] (by kernel_rfl) ?_
  by_cases h35 : x37 < x36
  · rw [if_pos h35] at h
    rw [decide_eq_true h35]
    refine Goes.runs 6 [] [.inRegion (opsOf (sub [1, 1, 1, 1, 1, 0, 1, 0, 0, 1, 1, 0, 0, 0] B43)) [0, 1, 2], .code (sub [1, 1, 1, 1, 1, 0, 1, 0, 0, 1, 1, 0, 0, 1] B43), .inBlock 3, .code (sub [1, 1, 1, 1, 1, 0, 1, 0, 0, 1, 1, 1] B43), .inLoop (sub [1, 1, 1, 1, 1, 0, 1, 0, 0] B43), .inBlock 2, .code (sub [1, 1, 1, 1, 1, 1] B43)] (by kernel_rfl) ?_
    obtain ⟨g36, h⟩ := guard_some h
    obtain ⟨g37, h⟩ := guard_some h
    refine Op_.ixR 38 (.tmp 35) (.tmp 37) 39 0 22 .i64 x37 fx35 (Goes.vs (by kernel_rfl)) (by kernel_rfl) (by kernel_rfl) (by kernel_rfl) (by kernel_rfl) g36 g37 ?_
    rintro a38 _ f39 ⟨A40, c41, rfl, f42⟩
    refine Op_.ld1 22 (.tmp 39) 40 22 a38 (.slice A40 (gi x35 x37).length c41) (Goes.vs (by kernel_rfl)) (by kernel_rfl) (by kernel_rfl) (f39.cell 0 _ rfl) ?_
    refine Goes.runs 6 [(11, .slice A40 (gi x35 x37).length c41), (41, .slice (Gp Gx9) x9.length cx9), (42, .slice A40 (gi x35 x37).length c41), (43, .func (.func 46) #[] #[])] [.inRegion (opsOf (sub [1, 1, 1, 1, 1, 0, 1, 0, 0, 1, 1, 0, 0, 1] B43)) [3, 4], .inBlock 3, .code (sub [1, 1, 1, 1, 1, 0, 1, 0, 0, 1, 1, 1] B43), .inLoop (sub [1, 1, 1, 1, 1, 0, 1, 0, 0] B43), .inBlock 2, .code (sub [1, 1, 1, 1, 1, 1] B43)] (by kernel_rfl) ?_
    obtain ⟨S4, z4, p4, f43⟩ := p1.freezeRd 0 rfl fx9 (by decide)
    obtain ⟨y44, e45, h⟩ := bind_some h
    try dsimp only at h
    refine Op_.call (.call { callee := .value (.func 58), args := #[(.tmp 41), (.tmp 42), (.tmp 43)], argTypes := #[22, 22, 72] }) 44 22 58 #[.slice (Gp Gx9) x9.length cx9, .slice A40 (gi x35 x37).length c41, .func (.func 46) #[] #[]] (Goes.cs (by kernel_rfl)) (by kernel_rfl) (W.post_those_uint64 x9 (gi x35 x37) y44 e45 nz wz S4 w1 ((Gx9, .row 35 csx9 (cx9 * (kInt .u64).size) csx9.length) :: Lr) (Gp Gx9) cx9 A40 c41 p4 f43 (f42.ext z4)) ?_
    rintro _ w5 ⟨S5, G46, c47, cs48, rfl, z5, p5, f50⟩
    have p5 := (p5.front 1 _ rfl).drop
    refine Goes.runs 8 [(9, .slice (Gp G46) y44.length c47), (45, .int .i64 (wr .i64 (x37 + 1))), (37, .int .i64 (wr .i64 (x37 + 1)))] [.code (sub [1, 1, 1, 1, 1, 0, 1, 0, 0] B43), .inLoop (sub [1, 1, 1, 1, 1, 0, 1, 0, 0] B43), .inBlock 2, .code (sub [1, 1, 1, 1, 1, 1] B43)] (by kernel_rfl) ?_
    exact Goes.jump 47 [(1, .func (.func 46) #[] #[]), (9, .slice (Gp G46) y44.length c47), (35, .slice Ax35 x35.length cx35), (36, .int .i64 x36), (37, .int .i64 (wr .i64 (x37 + 1)))] (by kernel_rfl) (ih_post_fold_l1 _ _ h _ _ ((hx.trans z4).trans z5) G46 c47 cs48 Ax35 cx35 p5 f50 ((fx35.ext z4).ext z5))
  · rw [if_neg h35] at h
    rw [decide_eq_false h35]
    refine Goes.runs 8 [(46, .slice (Gp Gx9) x9.length cx9), (4, .slice (Gp Gx9) x9.length cx9), (5, .int .i64 0)] [.code (sub [1, 1, 1, 1, 1, 1, 1] B43)] (by kernel_rfl) ?_
    obtain rfl := Option.some.inj h
    exact Goes.ret (fn := Try.f43) (by kernel_rfl) (v := .tuple #[.slice (Gp Gx9) x9.length cx9, .int .i64 0]) (by kernel_rfl) ⟨S1, Gx9, cx9, csx9, rfl, hx, p1, fx9⟩

def L.post_fold_l0 (nz : Nat) (wz : World) (S0 : Fz) (w0 : World) (Lr : List Ent) : List (List Int) × List (List Int) × Int × Int → ((List Int) × Int) → Prop := fun ⟨x0, x15, x16, x17⟩ r => ∀ S1 w1, Ext S0 w0 S1 w1 → ∀ (Ax0 : Option Addr) (cx0 : Nat) (Ax15 : Option Addr) (cx15 : Nat) (_ : Hp nz wz S1 w1 (Lr)) (_ : Rd (kSl (kInt .u64)) S1 w1 Ax0 cx0 x0) (_ : Rd (kSl (kInt .u64)) S1 w1 Ax15 cx15 x15) (junk : Nat → Value),
  Goes Try.prog (base 43) [.code (sub [1, 1, 0, 1, 0, 0] B43), .inLoop (sub [1, 1, 0, 1, 0, 0] B43), .inBlock 0, .code (sub [1, 1, 1] B43)] ⟨lfr 47 [(0, .slice Ax0 x0.length cx0), (1, .func (.func 46) #[] #[]), (15, .slice Ax15 x15.length cx15), (16, .int .i64 x16), (17, .int .i64 x17)] junk, []⟩ w1 (Done Try.prog 43 (Rets (Post.post_fold nz wz S0 w0 Lr r)))

theorem W.post_fold_l0 (nz : Nat) (wz : World) (S0 : Fz) (w0 : World) (Lr : List Ent) : ∀ a r, M.post_fold_l0 a = some r → L.post_fold_l0 nz wz S0 w0 Lr a r := by
  refine M.post_fold_l0.partial_correctness (motive := L.post_fold_l0 nz wz S0 w0 Lr) ?_
  intro rec_post_fold_l0 ih_post_fold_l0 ⟨x0, x15, x16, x17⟩ r h S1 w1 hx Ax0 cx0 Ax15 cx15 p1 fx0 fx15 junk
  dsimp only at h
  refine Goes.runs 5 [(18, .bool (decide (x17 < x16)))] [.code (sub [1, 1, 0, 1, 0, 0, 1, 0] B43), .code (sub [1, 1, 0, 1, 0, 0, 1, 1] B43), .inLoop (sub [1, 1, 0, 1, 0, 0] B43), .inBlock 0, .code (sub [1, 1, 1] B43)] (by kernel_rfl) ?_
  by_cases h3 : x17 < x16
  · rw [if_pos h3] at h
    rw [decide_eq_true h3]
    refine Goes.runs 6 [] [.inRegion (opsOf (sub [1, 1, 0, 1, 0, 0, 1, 1, 0, 0, 0] B43)) [0, 1, 2], .code (sub [1, 1, 0, 1, 0, 0, 1, 1, 0, 0, 1] B43), .inBlock 1, .code (sub [1, 1, 0, 1, 0, 0, 1, 1, 1] B43), .inLoop (sub [1, 1, 0, 1, 0, 0] B43), .inBlock 0, .code (sub [1, 1, 1] B43)] (by kernel_rfl) ?_
    obtain ⟨g4, h⟩ := guard_some h
    obtain ⟨g5, h⟩ := guard_some h
    refine Op_.ixR 38 (.tmp 15) (.tmp 17) 19 0 22 .i64 x17 fx15 (Goes.vs (by kernel_rfl)) (by kernel_rfl) (by kernel_rfl) (by kernel_rfl) (by kernel_rfl) g4 g5 ?_
    rintro a6 _ f7 ⟨A8, c9, rfl, f10⟩
    refine Op_.ld1 22 (.tmp 19) 20 22 a6 (.slice A8 (gi x15 x17).length c9) (Goes.vs (by kernel_rfl)) (by kernel_rfl) (by kernel_rfl) (f7.cell 0 _ rfl) ?_
    refine Goes.runs 5 [(7, .slice A8 (gi x15 x17).length c9), (21, .slice A8 (gi x15 x17).length c9)] [.inRegion (opsOf (sub [1, 1, 0, 1, 0, 0, 1, 1, 0, 0, 1, 0] B43)) [1, 2], .code (sub [1, 1, 0, 1, 0, 0, 1, 1, 0, 0, 1, 1] B43), .inBlock 1, .code (sub [1, 1, 0, 1, 0, 0, 1, 1, 1] B43), .inLoop (sub [1, 1, 0, 1, 0, 0] B43), .inBlock 0, .code (sub [1, 1, 1] B43)] (by kernel_rfl) ?_
    obtain ⟨y11, e12, h⟩ := bind_some h
    try dsimp only at h
    refine Op_.call (.call { callee := .value (.func 23), args := #[(.tmp 21)], argTypes := #[22] }) 22 25 23 #[.slice A8 (gi x15 x17).length c9] (Goes.cs (by kernel_rfl)) (by kernel_rfl) (W.post_Check (gi x15 x17) y11 e12 nz wz S1 w1 (Lr) A8 c9 p1 f10) ?_
    rintro _ w2 ⟨S2, rfl, z2, p2⟩
    refine Goes.runs 7 [(8, .int .i64 y11), (23, .int .i64 y11), (24, .bool (!(decide (y11 = 0))))] [.code (sub [1, 1, 0, 1, 0, 0, 1, 1, 0, 0, 1, 1, 1] B43), .inBlock 1, .code (sub [1, 1, 0, 1, 0, 0, 1, 1, 1] B43), .inLoop (sub [1, 1, 0, 1, 0, 0] B43), .inBlock 0, .code (sub [1, 1, 1] B43)] (by kernel_rfl) ?_
    by_cases h13 : y11 = 0
    · rw [if_pos h13] at h
      rw [decide_eq_true h13]
      refine Goes.runs 8 [(26, .int .i64 (wr .i64 (x17 + 1))), (17, .int .i64 (wr .i64 (x17 + 1)))] [.code (sub [1, 1, 0, 1, 0, 0] B43), .inLoop (sub [1, 1, 0, 1, 0, 0] B43), .inBlock 0, .code (sub [1, 1, 1] B43)] (by kernel_rfl) ?_
      exact Goes.jump 47 [(0, .slice Ax0 x0.length cx0), (1, .func (.func 46) #[] #[]), (15, .slice Ax15 x15.length cx15), (16, .int .i64 x16), (17, .int .i64 (wr .i64 (x17 + 1)))] (by kernel_rfl) (ih_post_fold_l0 _ _ h _ _ (hx.trans z2) Ax0 cx0 Ax15 cx15 p2 (fx0.ext z2) (fx15.ext z2))
    · rw [if_neg h13] at h
      rw [decide_eq_false h13]
      refine Goes.runs 7 [(25, .int .i64 y11), (4, .slice none 0 0), (5, .int .i64 y11)] [.code (sub [1, 1, 0, 1, 0, 0, 1, 1, 0, 0, 1, 1, 1, 0, 1] B43), .inBlock 1, .code (sub [1, 1, 0, 1, 0, 0, 1, 1, 1] B43), .inLoop (sub [1, 1, 0, 1, 0, 0] B43), .inBlock 0, .code (sub [1, 1, 1] B43)] (by kernel_rfl) ?_
      have p2 : Hp nz wz S2 w2 ((none, .row 35 [] (0 * (kInt .u64).size) 0) :: Lr) := p2.nilRow' 35
      obtain rfl := Option.some.inj h
      exact Goes.ret (fn := Try.f43) (by kernel_rfl) (v := .tuple #[.slice (Gp none) ([] : List Int).length 0, .int .i64 y11]) (by kernel_rfl) ⟨S2, none, 0, [], rfl, (hx.trans z2), p2, (Els.nil : Els (kInt .u64) S2 w2 [] [])⟩
  · rw [if_neg h3] at h
    rw [decide_eq_false h3]
    refine Goes.runs 9 [(27, .slice Ax0 x0.length cx0), (28, .int .i64 (x0.length : Int)), (29, .bool (decide ((x0.length : Int) = 0)))] [.code (sub [1, 1, 1, 0, 1] B43), .code (sub [1, 1, 1, 1] B43)] (by kernel_rfl) ?_
    by_cases h15 : (x0.length : Int) = 0
    · rw [if_pos h15] at h
      rw [decide_eq_true h15]
      refine Goes.runs 6 [(4, .slice none 0 0), (5, .int .i64 0)] [.code (sub [1, 1, 1, 0, 1, 0, 1] B43), .code (sub [1, 1, 1, 1] B43)] (by kernel_rfl) ?_
      have p1 : Hp nz wz S1 w1 ((none, .row 35 [] (0 * (kInt .u64).size) 0) :: Lr) := p1.nilRow' 35
      obtain rfl := Option.some.inj h
      exact Goes.ret (fn := Try.f43) (by kernel_rfl) (v := .tuple #[.slice (Gp none) ([] : List Int).length 0, .int .i64 0]) (by kernel_rfl) ⟨S1, none, 0, [], rfl, hx, p1, (Els.nil : Els (kInt .u64) S1 w1 [] [])⟩
    · rw [if_neg h15] at h
      rw [decide_eq_false h15]
      refine Goes.runs 5 [(30, .slice Ax0 x0.length cx0)] [.inRegion (opsOf (sub [1, 1, 1, 1, 0] B43)) [1, 2, 3, 4], .code (sub [1, 1, 1, 1, 1] B43)] (by kernel_rfl) ?_
      obtain ⟨g17, h⟩ := guard_some h
      refine Op_.ixR 38 (.tmp 30) (.const (.int .i64 0)) 31 0 22 .i64 0 fx0 (Goes.vs (by kernel_rfl)) (by kernel_rfl) (by kernel_rfl) (by kernel_rfl) (by kernel_rfl) (by decide) g17 ?_
      rintro a18 _ f19 ⟨A20, c21, rfl, f22⟩
      refine Op_.ld1 22 (.tmp 31) 32 22 a18 (.slice A20 (gi x0 0).length c21) (Goes.vs (by kernel_rfl)) (by kernel_rfl) (by kernel_rfl) (f19.cell 0 _ rfl) ?_
      obtain ⟨y23, e24, h⟩ := bind_some h
      try dsimp only at h
      refine Op_.call (.call { callee := .value (.func 55), args := #[(.tmp 32)], argTypes := #[22] }) 33 22 55 #[.slice A20 (gi x0 0).length c21] (Goes.cs (by kernel_rfl)) (by kernel_rfl) (W.slices_Clone_uint64_uint64 (gi x0 0) y23 e24 nz wz S1 w1 (Lr) A20 c21 p1 f22) ?_
      rintro _ w3 ⟨S3, G25, c26, cs27, rfl, z3, p3, f29⟩
      refine Goes.runs 6 [(9, .slice (Gp G25) y23.length c26), (34, .slice Ax0 x0.length cx0)] [.inRegion (opsOf (sub [1, 1, 1, 1, 1, 0, 0] B43)) [1, 2, 3], .code (sub [1, 1, 1, 1, 1, 0, 1] B43), .code (sub [1, 1, 1, 1, 1, 1] B43)] (by kernel_rfl) ?_
      obtain ⟨g31, h⟩ := guard_some h
      refine Op_.slR 38 (.tmp 34) (some (.const (.int .i64 1))) none 35 38 22 1 (x0.length : Int) (fx0.ext z3) (Goes.vs (by kernel_rfl)) (by kernel_rfl) (by kernel_rfl) (by kernel_rfl) (Bnd.at_ .i64 (by kernel_rfl)) Bnd.no (by decide) g31 (Int.le_refl _) ?_
      intro A32 c33 f34
      refine Goes.runs 5 [(36, .int .i64 ((sl x0 1 (x0.length : Int)).length : Int)), (37, .int .i64 0)] [.code (sub [1, 1, 1, 1, 1, 0, 1, 0, 0] B43), .inLoop (sub [1, 1, 1, 1, 1, 0, 1, 0, 0] B43), .inBlock 2, .code (sub [1, 1, 1, 1, 1, 1] B43)] (by kernel_rfl) ?_
      exact Goes.jump 47 [(1, .func (.func 46) #[] #[]), (9, .slice (Gp G25) y23.length c26), (35, .slice A32 (sl x0 1 (x0.length : Int)).length c33), (36, .int .i64 ((sl x0 1 (x0.length : Int)).length : Int)), (37, .int .i64 0)] (by kernel_rfl) (W.post_fold_l1 nz wz S0 w0 Lr _ _ h _ _ (hx.trans z3) G25 c26 cs27 A32 c33 p3 f29 f34)

theorem W.post_fold (x0 : List (List Int)) (r : (List Int) × Int) (h : M.post_fold x0 = some r) (nz : Nat) (wz : World) (S0 : Fz) (w0 : World) (Lr : List Ent) (Ax0 : Option Addr) (cx0 : Nat) (p0 : Hp nz wz S0 w0 (Lr)) (fx0 : Rd (kSl (kInt .u64)) S0 w0 Ax0 cx0 x0) :
    Calls Try.prog 43 #[.slice Ax0 x0.length cx0, .func (.func 46) #[] #[]] w0 (Rets (Post.post_fold nz wz S0 w0 Lr r)) := by
  refine calls_of_goes (fn := Try.f43) (c := B43) (by kernel_rfl) (by kernel_rfl) 45 (by kernel_rfl) ?_
  refine Goes.jump 47 [(0, .slice Ax0 x0.length cx0), (1, .func (.func 46) #[] #[])] (by kernel_rfl) (fun junk => ?_)
  delta M.post_fold at h
  refine Goes.runs 12 [(4, .slice none 0 0), (5, .int .i64 0), (12, .slice Ax0 x0.length cx0), (13, .int .i64 (x0.length : Int)), (14, .bool (decide ((x0.length : Int) > 4096)))] [.code (sub [1, 0, 1] B43), .code (sub [1, 1] B43)] (by kernel_rfl) ?_
  by_cases h1 : (x0.length : Int) > 4096
  · rw [if_pos h1] at h
    rw [decide_eq_true h1]
    refine Goes.runs 6 [(4, .slice none 0 0), (5, .int .i64 3)] [.code (sub [1, 0, 1, 0, 1] B43), .code (sub [1, 1] B43)] (by kernel_rfl) ?_
    have p0 : Hp nz wz S0 w0 ((none, .row 35 [] (0 * (kInt .u64).size) 0) :: Lr) := p0.nilRow' 35
    obtain rfl := Option.some.inj h
    exact Goes.ret (fn := Try.f43) (by kernel_rfl) (v := .tuple #[.slice (Gp none) ([] : List Int).length 0, .int .i64 3]) (by kernel_rfl) ⟨S0, none, 0, [], rfl, (Ext.refl S0 w0), p0, (Els.nil : Els (kInt .u64) S0 w0 [] [])⟩
  · rw [if_neg h1] at h
    rw [decide_eq_false h1]
    refine Goes.runs 11 [(15, .slice Ax0 x0.length cx0), (16, .int .i64 (x0.length : Int)), (17, .int .i64 0)] [.code (sub [1, 1, 0, 1, 0, 0] B43), .inLoop (sub [1, 1, 0, 1, 0, 0] B43), .inBlock 0, .code (sub [1, 1, 1] B43)] (by kernel_rfl) ?_
    exact Goes.jump 47 [(0, .slice Ax0 x0.length cx0), (1, .func (.func 46) #[] #[]), (15, .slice Ax0 x0.length cx0), (16, .int .i64 (x0.length : Int)), (17, .int .i64 0)] (by kernel_rfl) (W.post_fold_l0 nz wz S0 w0 Lr _ _ h _ _ (Ext.refl S0 w0) Ax0 cx0 Ax0 cx0 p0 fx0 fx0)

/-! tidepole/post.And -/
def Post.post_And (nz : Nat) (wz : World) (S0 : Fz) (w0 : World) (Lr : List Ent) (r : (List Int) × Int) (v : Value) (w' : World) : Prop :=
  ∃ (S' : Fz) (G1 : Option Nat) (c2 : Nat) (cs3 : List Value), v = .tuple #[.slice (Gp G1) r.1.length c2, .int .i64 r.2] ∧ Ext S0 w0 S' w' ∧ Hp nz wz S' w' ((G1, .row 35 cs3 (c2 * (kInt .u64).size) 0) :: Lr) ∧ Els (kInt .u64) S' w' cs3 r.1

theorem W.post_And (x0 : List (List Int)) (r : (List Int) × Int) (h : M.post_And x0 = some r) (nz : Nat) (wz : World) (S0 : Fz) (w0 : World) (Lr : List Ent) (Ax0 : Option Addr) (cx0 : Nat) (p0 : Hp nz wz S0 w0 (Lr)) (fx0 : Rd (kSl (kInt .u64)) S0 w0 Ax0 cx0 x0) :
    Calls Try.prog 19 #[.slice Ax0 x0.length cx0] w0 (Rets (Post.post_And nz wz S0 w0 Lr r)) := by
  refine calls_of_goes (fn := Try.f19) (c := B19) (by kernel_rfl) (by kernel_rfl) 7 (by kernel_rfl) ?_
  refine Goes.jump 8 [(0, .slice Ax0 x0.length cx0)] (by kernel_rfl) (fun junk => ?_)
  delta M.post_And at h
  refine Goes.runs 8 [(2, .slice none 0 0), (3, .int .i64 0), (4, .slice Ax0 x0.length cx0)] [.inRegion (opsOf (sub [1, 0] B19)) [1, 2, 3, 4, 5], .code (sub [1, 1] B19)] (by kernel_rfl) ?_
  obtain ⟨y1, e2, h⟩ := bind_some h
  try dsimp only at h
  refine Op_.call (.call { callee := .value (.func 43), args := #[(.tmp 4), (.func 46)], argTypes := #[38, 72] }) 5 26 43 #[.slice Ax0 x0.length cx0, .func (.func 46) #[] #[]] (Goes.cs (by kernel_rfl)) (by kernel_rfl) (W.post_fold x0 y1 e2 nz wz S0 w0 (Lr) Ax0 cx0 p0 fx0) ?_
  rintro _ w2 ⟨S2, G3, c4, cs5, rfl, z2, p2, f7⟩
  refine Goes.runs 5 [(6, .slice (Gp G3) y1.1.length c4), (7, .int .i64 y1.2), (2, .slice (Gp G3) y1.1.length c4), (3, .int .i64 y1.2)] [.code (sub [1, 1] B19)] (by kernel_rfl) ?_
  obtain rfl := Option.some.inj h
  exact Goes.ret (fn := Try.f19) (by kernel_rfl) (v := .tuple #[.slice (Gp G3) y1.1.length c4, .int .i64 y1.2]) (by kernel_rfl) ⟨S2, G3, c4, cs5, rfl, ((Ext.refl S0 w0).trans z2), p2, f7⟩

/-! tidepole/post.one -/
def Post.post_one (nz : Nat) (wz : World) (S0 : Fz) (w0 : World) (Lr : List Ent) (r : Bool) (v : Value) (w' : World) : Prop :=
  ∃ (S' : Fz) , v = .bool r ∧ Ext S0 w0 S' w' ∧ Hp nz wz S' w' (Lr)

theorem W.post_one (x0 : Int) (r : Bool) (h : M.post_one x0 = some r) (nz : Nat) (wz : World) (S0 : Fz) (w0 : World) (Lr : List Ent) (p0 : Hp nz wz S0 w0 (Lr)) :
    Calls Try.prog 47 #[.int .i64 x0] w0 (Rets (Post.post_one nz wz S0 w0 Lr r)) := by
  refine calls_of_goes (fn := Try.f47) (c := B47) (by kernel_rfl) (by kernel_rfl) 4 (by kernel_rfl) ?_
  refine Goes.jump 5 [(0, .int .i64 x0)] (by kernel_rfl) (fun junk => ?_)
  delta M.post_one at h
  refine Goes.runs 10 [(2, .bool (!(decide (x0 = 0)))), (3, .int .i64 x0), (4, .bool (!(decide (x0 = 0))))] [.code (sub [1, 1] B47)] (by kernel_rfl) ?_
  obtain rfl := Option.some.inj h
  exact Goes.ret (fn := Try.f47) (by kernel_rfl) (v := .bool (!(decide (x0 = 0)))) (by kernel_rfl) ⟨S0, rfl, (Ext.refl S0 w0), p0⟩

/-! tidepole/post.those[uint64] -/
def Post.post_those_uint64__r_2 (nz : Nat) (wz : World) (S0 : Fz) (w0 : World) (Lr : List Ent) (lk : Nat) (rk : Nat) (jkk : Nat → Value) (gkq5 : Nat) (gkq7 : Nat) (gkq12b0 : Nat) (gkq12b1 : Nat) (r : (List Int) × (List Int) × (List Int)) (v : Value) (w' : World) : Prop :=
  ∃ (S' : Fz) (G1 : Option Nat) (c2 : Nat) (cs3 : List Value) (A4 : Option Addr) (c5 : Nat) (A6 : Option Addr) (c7 : Nat), v = .bool true ∧ Ext S0 w0 S' w' ∧ Hp nz wz S' w' ((G1, .row 35 cs3 (c2 * (kInt .u64).size) 0) :: (some lk, .obj (lpst 58 (lfr 23 [(5, .pointer (some ⟨gkq5, 0, none⟩)), (7, .pointer (some ⟨gkq7, 0, none⟩)), (12, .func (.func 68) #[] #[.pointer (some ⟨gkq12b0, 0, none⟩), .pointer (some ⟨gkq12b1, 0, none⟩)])] jkk) #[13, 14] (rfAssign (sub [1, 1, 0, 1, 0] B58)) (rfBody (sub [1, 1, 0, 1, 0] B58)) rk .ready none)) :: (some gkq5, .row 72 [.func (.func 47) #[] #[]] 1 0) :: (some gkq7, .row 22 [.slice (Gp G1) r.1.length c2] 1 0) :: (some gkq12b0, .row 22 [.slice A4 r.2.1.length c5] 1 0) :: (some gkq12b1, .row 22 [.slice A6 r.2.2.length c7] 1 0) :: Lr) ∧ Els (kInt .u64) S' w' cs3 r.1 ∧ Rd (kInt .u64) S' w' A4 c5 r.2.1 ∧ Rd (kInt .u64) S' w' A6 c7 r.2.2

theorem W.post_those_uint64__r_2 (kq7v0 : List Int) (kq12b0v0 : List Int) (kq12b1v0 : List Int) (a0 : Int) (a1 : Int) (r : (List Int) × (List Int) × (List Int)) (h : M.post_those_uint64__r_2 kq7v0 kq12b0v0 kq12b1v0 a0 a1 = some r) (nz : Nat) (wz : World) (S0 : Fz) (w0 : World) (Lr : List Ent) (lk : Nat) (rk : Nat) (jkk : Nat → Value) (gkq5 : Nat) (gkq7 : Nat) (Gkq7v0 : Option Nat) (ckq7v0 : Nat) (cskq7v0 : List Value) (gkq12b0 : Nat) (Akq12b0v0 : Option Addr) (ckq12b0v0 : Nat) (gkq12b1 : Nat) (Akq12b1v0 : Option Addr) (ckq12b1v0 : Nat) (p0 : Hp nz wz S0 w0 ((some lk, .obj (lpst 58 (lfr 23 [(5, .pointer (some ⟨gkq5, 0, none⟩)), (7, .pointer (some ⟨gkq7, 0, none⟩)), (12, .func (.func 68) #[] #[.pointer (some ⟨gkq12b0, 0, none⟩), .pointer (some ⟨gkq12b1, 0, none⟩)])] jkk) #[13, 14] (rfAssign (sub [1, 1, 0, 1, 0] B58)) (rfBody (sub [1, 1, 0, 1, 0] B58)) rk .ready none)) :: (some gkq5, .row 72 [.func (.func 47) #[] #[]] 1 0) :: (some gkq7, .row 22 [.slice (Gp Gkq7v0) kq7v0.length ckq7v0] 1 0) :: (Gkq7v0, .row 35 cskq7v0 (ckq7v0 * (kInt .u64).size) 0) :: (some gkq12b0, .row 22 [.slice Akq12b0v0 kq12b0v0.length ckq12b0v0] 1 0) :: (some gkq12b1, .row 22 [.slice Akq12b1v0 kq12b1v0.length ckq12b1v0] 1 0) :: Lr)) (fkq7v0 : Els (kInt .u64) S0 w0 cskq7v0 kq7v0) (fkq12b0v0 : Rd (kInt .u64) S0 w0 Akq12b0v0 ckq12b0v0 kq12b0v0) (fkq12b1v0 : Rd (kInt .u64) S0 w0 Akq12b1v0 ckq12b1v0 kq12b1v0) :
    Goes Try.prog (rbase 58 lk) [.code (rfAssign (sub [1, 1, 0, 1, 0] B58)), .beginRound, .code (rfBody (sub [1, 1, 0, 1, 0] B58))] ⟨setp (lfr 23 [(5, .pointer (some ⟨gkq5, 0, none⟩)), (7, .pointer (some ⟨gkq7, 0, none⟩)), (12, .func (.func 68) #[] #[.pointer (some ⟨gkq12b0, 0, none⟩), .pointer (some ⟨gkq12b1, 0, none⟩)])] jkk) #[13, 14] #[.int .u64 a0, .int .i64 a1], []⟩ w0 (DoneR (Post.post_those_uint64__r_2 nz wz S0 w0 Lr lk rk jkk gkq5 gkq7 gkq12b0 gkq12b1 r)) := by
  refine Goes.jump 23 [(5, .pointer (some ⟨gkq5, 0, none⟩)), (7, .pointer (some ⟨gkq7, 0, none⟩)), (12, .func (.func 68) #[] #[.pointer (some ⟨gkq12b0, 0, none⟩), .pointer (some ⟨gkq12b1, 0, none⟩)]), (13, .int .u64 a0), (14, .int .i64 a1)] (by kernel_rfl) (fun junk => ?_)
  delta M.post_those_uint64__r_2 at h
  refine Goes.runs 7 [(8, .int .u64 a0), (9, .int .i64 a1)] [.beginRound, .code (sub [1, 1, 0, 1, 0, 1] B58)] (by kernel_rfl) ?_
  refine Goes.beginR 0 rfl p0 rfl ?_
  intro w2 z2 p2
  refine Goes.runs 3 [] [.inRegion (opsOf (sub [1, 1, 0, 1, 0, 1, 0, 0] B58)) [0, 1, 2], .code (sub [1, 1, 0, 1, 0, 1, 0, 1] B58), .inBlock 1] (by kernel_rfl) ?_
  refine Op_.ld1 72 (.tmp 5) 15 72 ⟨gkq5, 0, none⟩ (.func (.func 47) #[] #[]) (Goes.vs (by kernel_rfl)) (by kernel_rfl) (by kernel_rfl) ((p2.mem 1 rfl).cell 0 _ rfl) ?_
  refine Goes.runs 1 [(16, .int .i64 a1)] [.inRegion (opsOf (sub [1, 1, 0, 1, 0, 1, 0, 0] B58)) [2], .code (sub [1, 1, 0, 1, 0, 1, 0, 1] B58), .inBlock 1] (by kernel_rfl) ?_
  obtain ⟨y1, e2, h⟩ := bind_some h
  try dsimp only at h
  refine Op_.call (.call { callee := .value (.tmp 15), args := #[(.tmp 16)], argTypes := #[3] }) 17 4 47 #[.int .i64 a1] (Goes.cs (by kernel_rfl)) (by kernel_rfl) (W.post_one a1 y1 e2 nz wz S0 w2 ((some lk, .obj (lpst 58 (lfr 23 [(5, .pointer (some ⟨gkq5, 0, none⟩)), (7, .pointer (some ⟨gkq7, 0, none⟩)), (12, .func (.func 68) #[] #[.pointer (some ⟨gkq12b0, 0, none⟩), .pointer (some ⟨gkq12b1, 0, none⟩)])] jkk) #[13, 14] (rfAssign (sub [1, 1, 0, 1, 0] B58)) (rfBody (sub [1, 1, 0, 1, 0] B58)) rk .busy none)) :: (some gkq5, .row 72 [.func (.func 47) #[] #[]] 1 0) :: (some gkq7, .row 22 [.slice (Gp Gkq7v0) kq7v0.length ckq7v0] 1 0) :: (Gkq7v0, .row 35 cskq7v0 (ckq7v0 * (kInt .u64).size) 0) :: (some gkq12b0, .row 22 [.slice Akq12b0v0 kq12b0v0.length ckq12b0v0] 1 0) :: (some gkq12b1, .row 22 [.slice Akq12b1v0 kq12b1v0.length ckq12b1v0] 1 0) :: Lr)  p2 ) ?_
  rintro _ w3 ⟨S3, rfl, z3, p3⟩
  refine Goes.runs 1 [] [.code (sub [1, 1, 0, 1, 0, 1, 0, 1] B58), .inBlock 1] (by kernel_rfl) ?_
  by_cases h3 : y1 = true
  · rw [if_pos h3] at h
    rw [h3]
    refine Goes.runs 2 [] [.inRegion (opsOf (sub [1, 1, 0, 1, 0, 1, 0, 1, 0] B58)) [0, 1, 2, 3, 4], .inBlock 1] (by kernel_rfl) ?_
    refine Op_.ld1 22 (.tmp 7) 18 22 ⟨gkq7, 0, none⟩ (.slice (Gp Gkq7v0) kq7v0.length ckq7v0) (Goes.vs (by kernel_rfl)) (by kernel_rfl) (by kernel_rfl) ((p3.mem 2 rfl).cell 0 _ rfl) ?_
    refine Goes.runs 1 [(19, .int .u64 a0)] [.inRegion (opsOf (sub [1, 1, 0, 1, 0, 1, 0, 1, 0] B58)) [2, 3, 4], .inBlock 1] (by kernel_rfl) ?_
    have f5 : Els (kInt .u64) S3 w3 ([.int .u64 a0] : List Value) [a0] := (Els.cons (K := (kInt .u64)) (vs := [.int .u64 a0]) (x := a0) rfl Els.nil)
    refine Op_.made (.buildSlice 22 1 #[(0, (.tmp 19))]) 20 22 (fun b => .slice (Gp (some b)) 1 1) 35 ([.int .u64 a0] : List Value) p3 (Goes.vs (by kernel_rfl)) (by kernel_rfl) ?_
    intro b4 w4 z4 p4
    have p4 : Hp nz wz S3 w4 (((some b4), .row 35 ([.int .u64 a0] : List Value) (1 * (kInt .u64).size) 0) :: (some lk, .obj (lpst 58 (lfr 23 [(5, .pointer (some ⟨gkq5, 0, none⟩)), (7, .pointer (some ⟨gkq7, 0, none⟩)), (12, .func (.func 68) #[] #[.pointer (some ⟨gkq12b0, 0, none⟩), .pointer (some ⟨gkq12b1, 0, none⟩)])] jkk) #[13, 14] (rfAssign (sub [1, 1, 0, 1, 0] B58)) (rfBody (sub [1, 1, 0, 1, 0] B58)) rk .busy none)) :: (some gkq5, .row 72 [.func (.func 47) #[] #[]] 1 0) :: (some gkq7, .row 22 [.slice (Gp Gkq7v0) kq7v0.length ckq7v0] 1 0) :: (Gkq7v0, .row 35 cskq7v0 (ckq7v0 * (kInt .u64).size) 0) :: (some gkq12b0, .row 22 [.slice Akq12b0v0 kq12b0v0.length ckq12b0v0] 1 0) :: (some gkq12b1, .row 22 [.slice Akq12b1v0 kq12b1v0.length ckq12b1v0] 1 0) :: Lr) := p4
    obtain ⟨g10, h⟩ := guard_some h
    refine Op_.ap (K := (kInt .u64)) 22 (.tmp 18) (.tmp 20) 21 22 35 4 (.int .u64 0) 8 ckq7v0 kq7v0 [a0] (Gp (some b4)) 1 p4 rfl (((fkq7v0.ext z2).ext z3).ext z4) (Goes.vs (by kernel_rfl)) (by kernel_rfl) (by kernel_rfl) (by kernel_rfl) (by kernel_rfl) rfl (by decide) (f5.ext z4) (src_own p4 (q := 0) rfl) (by have := g10; omega) (by have := g10; omega) ?_
    intro w5 G11 c12 cs13 z5 p5 f14
    refine Op_.st 22 (.tmp 7) (.tmp 21) 0 3 gkq7 0 (.slice (Gp G11) (kq7v0 ++ [a0]).length c12) [.slice (Gp G11) (kq7v0 ++ [a0]).length c12] p5 rfl (Goes.ss (by kernel_rfl)) (by kernel_rfl) (by kernel_rfl) (by kernel_rfl) (by kernel_rfl) (Nat.zero_le _) (by simp only [List.length_cons, List.length_nil]; omega) (by simp [Value.oneCell']) ?_
    intro w6 z6 p6
    refine Goes.runs 2 [] [] (by kernel_rfl) ?_
    have p6 := (p6.front 0 _ rfl).drop
    have p6 := p6.front 5 _ rfl
    have p6 := p6.front 5 _ rfl
    have p6 := p6.front 4 _ rfl
    have p6 := p6.front 4 _ rfl
    have p6 := p6.front 4 _ rfl
    have p6 := p6.front 5 _ rfl
    obtain rfl := Option.some.inj h
    refine Goes.endR 1 p6 rfl ?_
    intro w7 z7 p7
    exact ⟨S3, G11, c12, cs13, Akq12b0v0, ckq12b0v0, Akq12b1v0, ckq12b1v0, rfl, (((((((Ext.refl S0 w0).trans z2).trans z3).trans z4).trans z5).trans z6).trans z7), p7, ((f14.ext z6).ext z7), ((((((fkq12b0v0.ext z2).ext z3).ext z4).ext z5).ext z6).ext z7), ((((((fkq12b1v0.ext z2).ext z3).ext z4).ext z5).ext z6).ext z7)⟩
  · rw [if_neg h3] at h
    have h3' : y1 = false := by simpa using h3
    rw [h3']
    refine Goes.runs 3 [] [] (by kernel_rfl) ?_
    have p3 := p3.front 5 _ rfl
    have p3 := p3.front 5 _ rfl
    have p3 := p3.front 4 _ rfl
    have p3 := p3.front 4 _ rfl
    have p3 := p3.front 4 _ rfl
    have p3 := p3.front 5 _ rfl
    obtain rfl := Option.some.inj h
    refine Goes.endR 1 p3 rfl ?_
    intro w8 z8 p8
    exact ⟨S3, Gkq7v0, ckq7v0, cskq7v0, Akq12b0v0, ckq12b0v0, Akq12b1v0, ckq12b1v0, rfl, ((((Ext.refl S0 w0).trans z2).trans z3).trans z8), p8, (((fkq7v0.ext z2).ext z3).ext z8), (((fkq12b0v0.ext z2).ext z3).ext z8), (((fkq12b1v0.ext z2).ext z3).ext z8)⟩

/-! tidepole/post.merge[uint64]$1 -/
def Post.post_merge_uint64_1_2 (nz : Nat) (wz : World) (S0 : Fz) (w0 : World) (Lr : List Ent) (lx0 : Nat) (rx0 : Nat) (jkx0 : Nat → Value) (gx0q5 : Nat) (gx0q7 : Nat) (gx0q12b0 : Nat) (gx0q12b1 : Nat) (r : (List Int) × (List Int) × (List Int)) (v : Value) (w' : World) : Prop :=
  ∃ (S' : Fz) (G1 : Option Nat) (c2 : Nat) (cs3 : List Value) (A4 : Option Addr) (c5 : Nat) (A6 : Option Addr) (c7 : Nat), v = .tuple #[] ∧ Ext S0 w0 S' w' ∧ Hp nz wz S' w' ((G1, .row 35 cs3 (c2 * (kInt .u64).size) 0) :: (some lx0, .obj (lpst 58 (lfr 23 [(5, .pointer (some ⟨gx0q5, 0, none⟩)), (7, .pointer (some ⟨gx0q7, 0, none⟩)), (12, .func (.func 68) #[] #[.pointer (some ⟨gx0q12b0, 0, none⟩), .pointer (some ⟨gx0q12b1, 0, none⟩)])] jkx0) #[13, 14] (rfAssign (sub [1, 1, 0, 1, 0] B58)) (rfBody (sub [1, 1, 0, 1, 0] B58)) rx0 .ready none)) :: (some gx0q5, .row 72 [.func (.func 47) #[] #[]] 1 0) :: (some gx0q7, .row 22 [.slice (Gp G1) r.1.length c2] 1 0) :: (some gx0q12b0, .row 22 [.slice A4 r.2.1.length c5] 1 0) :: (some gx0q12b1, .row 22 [.slice A6 r.2.2.length c7] 1 0) :: Lr) ∧ Els (kInt .u64) S' w' cs3 r.1 ∧ Rd (kInt .u64) S' w' A4 c5 r.2.1 ∧ Rd (kInt .u64) S' w' A6 c7 r.2.2

def L.post_merge_uint64_1_2_l0 (nz : Nat) (wz : World) (S0 : Fz) (w0 : World) (Lr : List Ent) (lx0 : Nat) (rx0 : Nat) (jkx0 : Nat → Value) (gx0q5 : Nat) (gx0q7 : Nat) (gx0q12b0 : Nat) (gx0q12b1 : Nat) : List Int × List Int × List Int → ((List Int) × (List Int) × (List Int)) → Prop := fun ⟨x1v0, x2v0, eE2v0⟩ r => ∀ S1 w1, Ext S0 w0 S1 w1 → ∀ (Ax1v0 : Option Addr) (cx1v0 : Nat) (Ax2v0 : Option Addr) (cx2v0 : Nat) (GeE2v0 : Option Nat) (ceE2v0 : Nat) (cseE2v0 : List Value) (_ : Hp nz wz S1 w1 ((some lx0, .obj (lpst 58 (lfr 23 [(5, .pointer (some ⟨gx0q5, 0, none⟩)), (7, .pointer (some ⟨gx0q7, 0, none⟩)), (12, .func (.func 68) #[] #[.pointer (some ⟨gx0q12b0, 0, none⟩), .pointer (some ⟨gx0q12b1, 0, none⟩)])] jkx0) #[13, 14] (rfAssign (sub [1, 1, 0, 1, 0] B58)) (rfBody (sub [1, 1, 0, 1, 0] B58)) rx0 .ready none)) :: (some gx0q12b0, .row 22 [.slice Ax1v0 x1v0.length cx1v0] 1 0) :: (some gx0q12b1, .row 22 [.slice Ax2v0 x2v0.length cx2v0] 1 0) :: (some gx0q5, .row 72 [.func (.func 47) #[] #[]] 1 0) :: (some gx0q7, .row 22 [.slice (Gp GeE2v0) eE2v0.length ceE2v0] 1 0) :: (GeE2v0, .row 35 cseE2v0 (ceE2v0 * (kInt .u64).size) 0) :: Lr)) (_ : Rd (kInt .u64) S1 w1 Ax1v0 cx1v0 x1v0) (_ : Rd (kInt .u64) S1 w1 Ax2v0 cx2v0 x2v0) (_ : Els (kInt .u64) S1 w1 cseE2v0 eE2v0) (junk : Nat → Value),
  Goes Try.prog (base 68) [.code (sub [0, 0] B68), .inLoop (sub [0, 0] B68), .inBlock 0] ⟨lfr 73 [(0, yieldV lx0), (1, .pointer (some ⟨gx0q12b0, 0, none⟩)), (2, .pointer (some ⟨gx0q12b1, 0, none⟩))] junk, []⟩ w1 (Done Try.prog 68 (Rets (Post.post_merge_uint64_1_2 nz wz S0 w0 Lr lx0 rx0 jkx0 gx0q5 gx0q7 gx0q12b0 gx0q12b1 r)))

def L.post_merge_uint64_1_2_l1 (nz : Nat) (wz : World) (S0 : Fz) (w0 : World) (Lr : List Ent) (lx0 : Nat) (rx0 : Nat) (jkx0 : Nat → Value) (gx0q5 : Nat) (gx0q7 : Nat) (gx0q12b0 : Nat) (gx0q12b1 : Nat) : List Int × List Int × Bool × List Int → ((List Int) × (List Int) × (List Int)) → Prop := fun ⟨x1v0, x2v0, x13, eE2v0⟩ r => ∀ S1 w1, Ext S0 w0 S1 w1 → ∀ (Ax1v0 : Option Addr) (cx1v0 : Nat) (Ax2v0 : Option Addr) (cx2v0 : Nat) (GeE2v0 : Option Nat) (ceE2v0 : Nat) (cseE2v0 : List Value) (_ : Hp nz wz S1 w1 ((some lx0, .obj (lpst 58 (lfr 23 [(5, .pointer (some ⟨gx0q5, 0, none⟩)), (7, .pointer (some ⟨gx0q7, 0, none⟩)), (12, .func (.func 68) #[] #[.pointer (some ⟨gx0q12b0, 0, none⟩), .pointer (some ⟨gx0q12b1, 0, none⟩)])] jkx0) #[13, 14] (rfAssign (sub [1, 1, 0, 1, 0] B58)) (rfBody (sub [1, 1, 0, 1, 0] B58)) rx0 .ready none)) :: (some gx0q12b0, .row 22 [.slice Ax1v0 x1v0.length cx1v0] 1 0) :: (some gx0q12b1, .row 22 [.slice Ax2v0 x2v0.length cx2v0] 1 0) :: (some gx0q5, .row 72 [.func (.func 47) #[] #[]] 1 0) :: (some gx0q7, .row 22 [.slice (Gp GeE2v0) eE2v0.length ceE2v0] 1 0) :: (GeE2v0, .row 35 cseE2v0 (ceE2v0 * (kInt .u64).size) 0) :: Lr)) (_ : Rd (kInt .u64) S1 w1 Ax1v0 cx1v0 x1v0) (_ : Rd (kInt .u64) S1 w1 Ax2v0 cx2v0 x2v0) (_ : Els (kInt .u64) S1 w1 cseE2v0 eE2v0) (junk : Nat → Value),
  Goes Try.prog (base 68) [.code (sub [0, 0, 0, 1] B68), .code (sub [0, 0, 1] B68), .inLoop (sub [0, 0] B68), .inBlock 0] ⟨lfr 73 [(0, yieldV lx0), (1, .pointer (some ⟨gx0q12b0, 0, none⟩)), (2, .pointer (some ⟨gx0q12b1, 0, none⟩)), (13, .bool x13)] junk, []⟩ w1 (Done Try.prog 68 (Rets (Post.post_merge_uint64_1_2 nz wz S0 w0 Lr lx0 rx0 jkx0 gx0q5 gx0q7 gx0q12b0 gx0q12b1 r)))

def L.post_merge_uint64_1_2_l2 (nz : Nat) (wz : World) (S0 : Fz) (w0 : World) (Lr : List Ent) (lx0 : Nat) (rx0 : Nat) (jkx0 : Nat → Value) (gx0q5 : Nat) (gx0q7 : Nat) (gx0q12b0 : Nat) (gx0q12b1 : Nat) : List Int × List Int × Int × Bool × List Int → ((List Int) × (List Int) × (List Int)) → Prop := fun ⟨x1v0, x2v0, x4, x30, eE2v0⟩ r => ∀ S1 w1, Ext S0 w0 S1 w1 → ∀ (Ax1v0 : Option Addr) (cx1v0 : Nat) (Ax2v0 : Option Addr) (cx2v0 : Nat) (GeE2v0 : Option Nat) (ceE2v0 : Nat) (cseE2v0 : List Value) (_ : Hp nz wz S1 w1 ((some lx0, .obj (lpst 58 (lfr 23 [(5, .pointer (some ⟨gx0q5, 0, none⟩)), (7, .pointer (some ⟨gx0q7, 0, none⟩)), (12, .func (.func 68) #[] #[.pointer (some ⟨gx0q12b0, 0, none⟩), .pointer (some ⟨gx0q12b1, 0, none⟩)])] jkx0) #[13, 14] (rfAssign (sub [1, 1, 0, 1, 0] B58)) (rfBody (sub [1, 1, 0, 1, 0] B58)) rx0 .ready none)) :: (some gx0q12b0, .row 22 [.slice Ax1v0 x1v0.length cx1v0] 1 0) :: (some gx0q12b1, .row 22 [.slice Ax2v0 x2v0.length cx2v0] 1 0) :: (some gx0q5, .row 72 [.func (.func 47) #[] #[]] 1 0) :: (some gx0q7, .row 22 [.slice (Gp GeE2v0) eE2v0.length ceE2v0] 1 0) :: (GeE2v0, .row 35 cseE2v0 (ceE2v0 * (kInt .u64).size) 0) :: Lr)) (_ : Rd (kInt .u64) S1 w1 Ax1v0 cx1v0 x1v0) (_ : Rd (kInt .u64) S1 w1 Ax2v0 cx2v0 x2v0) (_ : Els (kInt .u64) S1 w1 cseE2v0 eE2v0) (junk : Nat → Value),
  Goes Try.prog (base 68) [.code (sub [0, 0, 1, 0, 1, 0, 1] B68), .code (sub [0, 0, 1, 0, 1, 1] B68), .inBlock 1, .inLoop (sub [0, 0] B68), .inBlock 0] ⟨lfr 73 [(0, yieldV lx0), (1, .pointer (some ⟨gx0q12b0, 0, none⟩)), (2, .pointer (some ⟨gx0q12b1, 0, none⟩)), (4, .int .i64 x4), (30, .bool x30)] junk, []⟩ w1 (Done Try.prog 68 (Rets (Post.post_merge_uint64_1_2 nz wz S0 w0 Lr lx0 rx0 jkx0 gx0q5 gx0q7 gx0q12b0 gx0q12b1 r)))

def L.post_merge_uint64_1_2_l3 (nz : Nat) (wz : World) (S0 : Fz) (w0 : World) (Lr : List Ent) (lx0 : Nat) (rx0 : Nat) (jkx0 : Nat → Value) (gx0q5 : Nat) (gx0q7 : Nat) (gx0q12b0 : Nat) (gx0q12b1 : Nat) : List Int × List Int × Int × List Int → ((List Int) × (List Int) × (List Int)) → Prop := fun ⟨x1v0, x2v0, x4, eE2v0⟩ r => ∀ S1 w1, Ext S0 w0 S1 w1 → ∀ (Ax1v0 : Option Addr) (cx1v0 : Nat) (Ax2v0 : Option Addr) (cx2v0 : Nat) (GeE2v0 : Option Nat) (ceE2v0 : Nat) (cseE2v0 : List Value) (_ : Hp nz wz S1 w1 ((some lx0, .obj (lpst 58 (lfr 23 [(5, .pointer (some ⟨gx0q5, 0, none⟩)), (7, .pointer (some ⟨gx0q7, 0, none⟩)), (12, .func (.func 68) #[] #[.pointer (some ⟨gx0q12b0, 0, none⟩), .pointer (some ⟨gx0q12b1, 0, none⟩)])] jkx0) #[13, 14] (rfAssign (sub [1, 1, 0, 1, 0] B58)) (rfBody (sub [1, 1, 0, 1, 0] B58)) rx0 .ready none)) :: (some gx0q12b0, .row 22 [.slice Ax1v0 x1v0.length cx1v0] 1 0) :: (some gx0q12b1, .row 22 [.slice Ax2v0 x2v0.length cx2v0] 1 0) :: (some gx0q5, .row 72 [.func (.func 47) #[] #[]] 1 0) :: (some gx0q7, .row 22 [.slice (Gp GeE2v0) eE2v0.length ceE2v0] 1 0) :: (GeE2v0, .row 35 cseE2v0 (ceE2v0 * (kInt .u64).size) 0) :: Lr)) (_ : Rd (kInt .u64) S1 w1 Ax1v0 cx1v0 x1v0) (_ : Rd (kInt .u64) S1 w1 Ax2v0 cx2v0 x2v0) (_ : Els (kInt .u64) S1 w1 cseE2v0 eE2v0) (junk : Nat → Value),
  Goes Try.prog (base 68) [.code (sub [0, 0, 1, 0, 1, 1] B68), .inBlock 1, .inLoop (sub [0, 0] B68), .inBlock 0] ⟨lfr 73 [(0, yieldV lx0), (1, .pointer (some ⟨gx0q12b0, 0, none⟩)), (2, .pointer (some ⟨gx0q12b1, 0, none⟩)), (4, .int .i64 x4)] junk, []⟩ w1 (Done Try.prog 68 (Rets (Post.post_merge_uint64_1_2 nz wz S0 w0 Lr lx0 rx0 jkx0 gx0q5 gx0q7 gx0q12b0 gx0q12b1 r)))

def L.post_merge_uint64_1_2_l4 (nz : Nat) (wz : World) (S0 : Fz) (w0 : World) (Lr : List Ent) (lx0 : Nat) (rx0 : Nat) (jkx0 : Nat → Value) (gx0q5 : Nat) (gx0q7 : Nat) (gx0q12b0 : Nat) (gx0q12b1 : Nat) : List Int × List Int × Int × Bool × List Int → ((List Int) × (List Int) × (List Int)) → Prop := fun ⟨x1v0, x2v0, x4, x49, eE2v0⟩ r => ∀ S1 w1, Ext S0 w0 S1 w1 → ∀ (Ax1v0 : Option Addr) (cx1v0 : Nat) (Ax2v0 : Option Addr) (cx2v0 : Nat) (GeE2v0 : Option Nat) (ceE2v0 : Nat) (cseE2v0 : List Value) (_ : Hp nz wz S1 w1 ((some lx0, .obj (lpst 58 (lfr 23 [(5, .pointer (some ⟨gx0q5, 0, none⟩)), (7, .pointer (some ⟨gx0q7, 0, none⟩)), (12, .func (.func 68) #[] #[.pointer (some ⟨gx0q12b0, 0, none⟩), .pointer (some ⟨gx0q12b1, 0, none⟩)])] jkx0) #[13, 14] (rfAssign (sub [1, 1, 0, 1, 0] B58)) (rfBody (sub [1, 1, 0, 1, 0] B58)) rx0 .ready none)) :: (some gx0q12b0, .row 22 [.slice Ax1v0 x1v0.length cx1v0] 1 0) :: (some gx0q12b1, .row 22 [.slice Ax2v0 x2v0.length cx2v0] 1 0) :: (some gx0q5, .row 72 [.func (.func 47) #[] #[]] 1 0) :: (some gx0q7, .row 22 [.slice (Gp GeE2v0) eE2v0.length ceE2v0] 1 0) :: (GeE2v0, .row 35 cseE2v0 (ceE2v0 * (kInt .u64).size) 0) :: Lr)) (_ : Rd (kInt .u64) S1 w1 Ax1v0 cx1v0 x1v0) (_ : Rd (kInt .u64) S1 w1 Ax2v0 cx2v0 x2v0) (_ : Els (kInt .u64) S1 w1 cseE2v0 eE2v0) (junk : Nat → Value),
  Goes Try.prog (base 68) [.code (sub [0, 0, 1, 0, 1, 1, 0, 1] B68), .code (sub [0, 0, 1, 0, 1, 1, 1] B68), .inBlock 1, .inLoop (sub [0, 0] B68), .inBlock 0] ⟨lfr 73 [(0, yieldV lx0), (1, .pointer (some ⟨gx0q12b0, 0, none⟩)), (2, .pointer (some ⟨gx0q12b1, 0, none⟩)), (4, .int .i64 x4), (49, .bool x49)] junk, []⟩ w1 (Done Try.prog 68 (Rets (Post.post_merge_uint64_1_2 nz wz S0 w0 Lr lx0 rx0 jkx0 gx0q5 gx0q7 gx0q12b0 gx0q12b1 r)))

def L.post_merge_uint64_1_2_l5 (nz : Nat) (wz : World) (S0 : Fz) (w0 : World) (Lr : List Ent) (lx0 : Nat) (rx0 : Nat) (jkx0 : Nat → Value) (gx0q5 : Nat) (gx0q7 : Nat) (gx0q12b0 : Nat) (gx0q12b1 : Nat) : List Int × List Int × Int × List Int → ((List Int) × (List Int) × (List Int)) → Prop := fun ⟨x1v0, x2v0, x4, eE2v0⟩ r => ∀ S1 w1, Ext S0 w0 S1 w1 → ∀ (Ax1v0 : Option Addr) (cx1v0 : Nat) (Ax2v0 : Option Addr) (cx2v0 : Nat) (GeE2v0 : Option Nat) (ceE2v0 : Nat) (cseE2v0 : List Value) (_ : Hp nz wz S1 w1 ((some lx0, .obj (lpst 58 (lfr 23 [(5, .pointer (some ⟨gx0q5, 0, none⟩)), (7, .pointer (some ⟨gx0q7, 0, none⟩)), (12, .func (.func 68) #[] #[.pointer (some ⟨gx0q12b0, 0, none⟩), .pointer (some ⟨gx0q12b1, 0, none⟩)])] jkx0) #[13, 14] (rfAssign (sub [1, 1, 0, 1, 0] B58)) (rfBody (sub [1, 1, 0, 1, 0] B58)) rx0 .ready none)) :: (some gx0q12b0, .row 22 [.slice Ax1v0 x1v0.length cx1v0] 1 0) :: (some gx0q12b1, .row 22 [.slice Ax2v0 x2v0.length cx2v0] 1 0) :: (some gx0q5, .row 72 [.func (.func 47) #[] #[]] 1 0) :: (some gx0q7, .row 22 [.slice (Gp GeE2v0) eE2v0.length ceE2v0] 1 0) :: (GeE2v0, .row 35 cseE2v0 (ceE2v0 * (kInt .u64).size) 0) :: Lr)) (_ : Rd (kInt .u64) S1 w1 Ax1v0 cx1v0 x1v0) (_ : Rd (kInt .u64) S1 w1 Ax2v0 cx2v0 x2v0) (_ : Els (kInt .u64) S1 w1 cseE2v0 eE2v0) (junk : Nat → Value),
  Goes Try.prog (base 68) [.code (sub [0, 0, 1, 0, 1, 1, 1] B68), .inBlock 1, .inLoop (sub [0, 0] B68), .inBlock 0] ⟨lfr 73 [(0, yieldV lx0), (1, .pointer (some ⟨gx0q12b0, 0, none⟩)), (2, .pointer (some ⟨gx0q12b1, 0, none⟩)), (4, .int .i64 x4)] junk, []⟩ w1 (Done Try.prog 68 (Rets (Post.post_merge_uint64_1_2 nz wz S0 w0 Lr lx0 rx0 jkx0 gx0q5 gx0q7 gx0q12b0 gx0q12b1 r)))

def L.post_merge_uint64_1_2_l6 (nz : Nat) (wz : World) (S0 : Fz) (w0 : World) (Lr : List Ent) (lx0 : Nat) (rx0 : Nat) (jkx0 : Nat → Value) (gx0q5 : Nat) (gx0q7 : Nat) (gx0q12b0 : Nat) (gx0q12b1 : Nat) : List Int × List Int × Int × Int × List Int → ((List Int) × (List Int) × (List Int)) → Prop := fun ⟨x1v0, x2v0, x4, x5, eE2v0⟩ r => ∀ S1 w1, Ext S0 w0 S1 w1 → ∀ (Ax1v0 : Option Addr) (cx1v0 : Nat) (Ax2v0 : Option Addr) (cx2v0 : Nat) (GeE2v0 : Option Nat) (ceE2v0 : Nat) (cseE2v0 : List Value) (_ : Hp nz wz S1 w1 ((some lx0, .obj (lpst 58 (lfr 23 [(5, .pointer (some ⟨gx0q5, 0, none⟩)), (7, .pointer (some ⟨gx0q7, 0, none⟩)), (12, .func (.func 68) #[] #[.pointer (some ⟨gx0q12b0, 0, none⟩), .pointer (some ⟨gx0q12b1, 0, none⟩)])] jkx0) #[13, 14] (rfAssign (sub [1, 1, 0, 1, 0] B58)) (rfBody (sub [1, 1, 0, 1, 0] B58)) rx0 .ready none)) :: (some gx0q12b0, .row 22 [.slice Ax1v0 x1v0.length cx1v0] 1 0) :: (some gx0q12b1, .row 22 [.slice Ax2v0 x2v0.length cx2v0] 1 0) :: (some gx0q5, .row 72 [.func (.func 47) #[] #[]] 1 0) :: (some gx0q7, .row 22 [.slice (Gp GeE2v0) eE2v0.length ceE2v0] 1 0) :: (GeE2v0, .row 35 cseE2v0 (ceE2v0 * (kInt .u64).size) 0) :: Lr)) (_ : Rd (kInt .u64) S1 w1 Ax1v0 cx1v0 x1v0) (_ : Rd (kInt .u64) S1 w1 Ax2v0 cx2v0 x2v0) (_ : Els (kInt .u64) S1 w1 cseE2v0 eE2v0) (junk : Nat → Value),
  Goes Try.prog (base 68) [.code (sub [0, 0, 1, 0, 1, 1, 1, 1, 1] B68), .inBlock 1, .inLoop (sub [0, 0] B68), .inBlock 0] ⟨lfr 73 [(0, yieldV lx0), (1, .pointer (some ⟨gx0q12b0, 0, none⟩)), (2, .pointer (some ⟨gx0q12b1, 0, none⟩)), (4, .int .i64 x4), (5, .int .u64 x5)] junk, []⟩ w1 (Done Try.prog 68 (Rets (Post.post_merge_uint64_1_2 nz wz S0 w0 Lr lx0 rx0 jkx0 gx0q5 gx0q7 gx0q12b0 gx0q12b1 r)))

def L.post_merge_uint64_1_2_l7 (nz : Nat) (wz : World) (S0 : Fz) (w0 : World) (Lr : List Ent) (lx0 : Nat) (rx0 : Nat) (jkx0 : Nat → Value) (gx0q5 : Nat) (gx0q7 : Nat) (gx0q12b0 : Nat) (gx0q12b1 : Nat) : List Int × List Int × Int × Int × List Int → ((List Int) × (List Int) × (List Int)) → Prop := fun ⟨x1v0, x2v0, x4, x5, eE2v0⟩ r => ∀ S1 w1, Ext S0 w0 S1 w1 → ∀ (Ax1v0 : Option Addr) (cx1v0 : Nat) (Ax2v0 : Option Addr) (cx2v0 : Nat) (GeE2v0 : Option Nat) (ceE2v0 : Nat) (cseE2v0 : List Value) (_ : Hp nz wz S1 w1 ((some lx0, .obj (lpst 58 (lfr 23 [(5, .pointer (some ⟨gx0q5, 0, none⟩)), (7, .pointer (some ⟨gx0q7, 0, none⟩)), (12, .func (.func 68) #[] #[.pointer (some ⟨gx0q12b0, 0, none⟩), .pointer (some ⟨gx0q12b1, 0, none⟩)])] jkx0) #[13, 14] (rfAssign (sub [1, 1, 0, 1, 0] B58)) (rfBody (sub [1, 1, 0, 1, 0] B58)) rx0 .ready none)) :: (some gx0q12b0, .row 22 [.slice Ax1v0 x1v0.length cx1v0] 1 0) :: (some gx0q12b1, .row 22 [.slice Ax2v0 x2v0.length cx2v0] 1 0) :: (some gx0q5, .row 72 [.func (.func 47) #[] #[]] 1 0) :: (some gx0q7, .row 22 [.slice (Gp GeE2v0) eE2v0.length ceE2v0] 1 0) :: (GeE2v0, .row 35 cseE2v0 (ceE2v0 * (kInt .u64).size) 0) :: Lr)) (_ : Rd (kInt .u64) S1 w1 Ax1v0 cx1v0 x1v0) (_ : Rd (kInt .u64) S1 w1 Ax2v0 cx2v0 x2v0) (_ : Els (kInt .u64) S1 w1 cseE2v0 eE2v0) (junk : Nat → Value),
  Goes Try.prog (base 68) [.code (sub [0, 0, 1, 0, 1, 1, 1, 1, 1, 1] B68), .inBlock 1, .inLoop (sub [0, 0] B68), .inBlock 0] ⟨lfr 73 [(0, yieldV lx0), (1, .pointer (some ⟨gx0q12b0, 0, none⟩)), (2, .pointer (some ⟨gx0q12b1, 0, none⟩)), (4, .int .i64 x4), (5, .int .u64 x5)] junk, []⟩ w1 (Done Try.prog 68 (Rets (Post.post_merge_uint64_1_2 nz wz S0 w0 Lr lx0 rx0 jkx0 gx0q5 gx0q7 gx0q12b0 gx0q12b1 r)))

theorem W.post_merge_uint64_1_2_l0_all (nz : Nat) (wz : World) (S0 : Fz) (w0 : World) (Lr : List Ent) (lx0 : Nat) (rx0 : Nat) (jkx0 : Nat → Value) (gx0q5 : Nat) (gx0q7 : Nat) (gx0q12b0 : Nat) (gx0q12b1 : Nat) : (∀ a r, M.post_merge_uint64_1_2_l0 a = some r → L.post_merge_uint64_1_2_l0 nz wz S0 w0 Lr lx0 rx0 jkx0 gx0q5 gx0q7 gx0q12b0 gx0q12b1 a r) ∧ (∀ a r, M.post_merge_uint64_1_2_l1 a = some r → L.post_merge_uint64_1_2_l1 nz wz S0 w0 Lr lx0 rx0 jkx0 gx0q5 gx0q7 gx0q12b0 gx0q12b1 a r) ∧ (∀ a r, M.post_merge_uint64_1_2_l2 a = some r → L.post_merge_uint64_1_2_l2 nz wz S0 w0 Lr lx0 rx0 jkx0 gx0q5 gx0q7 gx0q12b0 gx0q12b1 a r) ∧ (∀ a r, M.post_merge_uint64_1_2_l3 a = some r → L.post_merge_uint64_1_2_l3 nz wz S0 w0 Lr lx0 rx0 jkx0 gx0q5 gx0q7 gx0q12b0 gx0q12b1 a r) ∧ (∀ a r, M.post_merge_uint64_1_2_l4 a = some r → L.post_merge_uint64_1_2_l4 nz wz S0 w0 Lr lx0 rx0 jkx0 gx0q5 gx0q7 gx0q12b0 gx0q12b1 a r) ∧ (∀ a r, M.post_merge_uint64_1_2_l5 a = some r → L.post_merge_uint64_1_2_l5 nz wz S0 w0 Lr lx0 rx0 jkx0 gx0q5 gx0q7 gx0q12b0 gx0q12b1 a r) ∧ (∀ a r, M.post_merge_uint64_1_2_l6 a = some r → L.post_merge_uint64_1_2_l6 nz wz S0 w0 Lr lx0 rx0 jkx0 gx0q5 gx0q7 gx0q12b0 gx0q12b1 a r) ∧ (∀ a r, M.post_merge_uint64_1_2_l7 a = some r → L.post_merge_uint64_1_2_l7 nz wz S0 w0 Lr lx0 rx0 jkx0 gx0q5 gx0q7 gx0q12b0 gx0q12b1 a r) := by
  refine M.post_merge_uint64_1_2_l0.mutual_partial_correctness (L.post_merge_uint64_1_2_l0 nz wz S0 w0 Lr lx0 rx0 jkx0 gx0q5 gx0q7 gx0q12b0 gx0q12b1) (L.post_merge_uint64_1_2_l1 nz wz S0 w0 Lr lx0 rx0 jkx0 gx0q5 gx0q7 gx0q12b0 gx0q12b1) (L.post_merge_uint64_1_2_l2 nz wz S0 w0 Lr lx0 rx0 jkx0 gx0q5 gx0q7 gx0q12b0 gx0q12b1) (L.post_merge_uint64_1_2_l3 nz wz S0 w0 Lr lx0 rx0 jkx0 gx0q5 gx0q7 gx0q12b0 gx0q12b1) (L.post_merge_uint64_1_2_l4 nz wz S0 w0 Lr lx0 rx0 jkx0 gx0q5 gx0q7 gx0q12b0 gx0q12b1) (L.post_merge_uint64_1_2_l5 nz wz S0 w0 Lr lx0 rx0 jkx0 gx0q5 gx0q7 gx0q12b0 gx0q12b1) (L.post_merge_uint64_1_2_l6 nz wz S0 w0 Lr lx0 rx0 jkx0 gx0q5 gx0q7 gx0q12b0 gx0q12b1) (L.post_merge_uint64_1_2_l7 nz wz S0 w0 Lr lx0 rx0 jkx0 gx0q5 gx0q7 gx0q12b0 gx0q12b1) ?_ ?_ ?_ ?_ ?_ ?_ ?_ ?_
  · intro rec_post_merge_uint64_1_2_l1 ih_post_merge_uint64_1_2_l1 ⟨x1v0, x2v0, eE2v0⟩ r h S1 w1 hx Ax1v0 cx1v0 Ax2v0 cx2v0 GeE2v0 ceE2v0 cseE2v0 p1 fx1v0 fx2v0 feE2v0 junk
    dsimp only at h
    refine Goes.runs 3 [] [.inRegion (opsOf (sub [0, 0, 0, 0] B68)) [0, 1, 2, 3, 4, 5, 6, 7], .code (sub [0, 0, 0, 1] B68), .code (sub [0, 0, 1] B68), .inLoop (sub [0, 0] B68), .inBlock 0] (by kernel_rfl) ?_
    refine Op_.ld1 22 (.tmp 1) 6 22 ⟨gx0q12b0, 0, none⟩ (.slice Ax1v0 x1v0.length cx1v0) (Goes.vs (by kernel_rfl)) (by kernel_rfl) (by kernel_rfl) ((p1.mem 1 rfl).cell 0 _ rfl) ?_
    refine Goes.runs 3 [(7, .int .i64 (x1v0.length : Int)), (8, .bool (decide ((x1v0.length : Int) > 0))), (9, .bool (decide ((x1v0.length : Int) > 0)))] [.inRegion (opsOf (sub [0, 0, 0, 0] B68)) [4, 5, 6, 7], .code (sub [0, 0, 0, 1] B68), .code (sub [0, 0, 1] B68), .inLoop (sub [0, 0] B68), .inBlock 0] (by kernel_rfl) ?_
    by_cases h1 : (x1v0.length : Int) > 0
    · rw [if_pos h1] at h
      rw [decide_eq_true h1]
      refine Goes.runs 5 [(10, undef), (11, undef), (12, undef), (13, .bool true)] [.code (sub [0, 0, 0, 1] B68), .code (sub [0, 0, 1] B68), .inLoop (sub [0, 0] B68), .inBlock 0] (by kernel_rfl) ?_
      exact Goes.jump 73 [(0, yieldV lx0), (1, .pointer (some ⟨gx0q12b0, 0, none⟩)), (2, .pointer (some ⟨gx0q12b1, 0, none⟩)), (13, .bool true)] (by kernel_rfl) (ih_post_merge_uint64_1_2_l1 _ _ h _ _ hx Ax1v0 cx1v0 Ax2v0 cx2v0 GeE2v0 ceE2v0 cseE2v0 p1 fx1v0 fx2v0 feE2v0)
    · rw [if_neg h1] at h
      rw [decide_eq_false h1]
      refine Op_.ld1 22 (.tmp 2) 10 22 ⟨gx0q12b1, 0, none⟩ (.slice Ax2v0 x2v0.length cx2v0) (Goes.vs (by kernel_rfl)) (by kernel_rfl) (by kernel_rfl) ((p1.mem 2 rfl).cell 0 _ rfl) ?_
      refine Goes.runs 4 [(11, .int .i64 (x2v0.length : Int)), (12, .bool (decide ((x2v0.length : Int) > 0))), (13, .bool (decide ((x2v0.length : Int) > 0)))] [.code (sub [0, 0, 0, 1] B68), .code (sub [0, 0, 1] B68), .inLoop (sub [0, 0] B68), .inBlock 0] (by kernel_rfl) ?_
      exact Goes.jump 73 [(0, yieldV lx0), (1, .pointer (some ⟨gx0q12b0, 0, none⟩)), (2, .pointer (some ⟨gx0q12b1, 0, none⟩)), (13, .bool (decide ((x2v0.length : Int) > 0)))] (by kernel_rfl) (ih_post_merge_uint64_1_2_l1 _ _ h _ _ hx Ax1v0 cx1v0 Ax2v0 cx2v0 GeE2v0 ceE2v0 cseE2v0 p1 fx1v0 fx2v0 feE2v0)
  · intro rec_post_merge_uint64_1_2_l2 ih_post_merge_uint64_1_2_l2 ⟨x1v0, x2v0, x13, eE2v0⟩ r h S1 w1 hx Ax1v0 cx1v0 Ax2v0 cx2v0 GeE2v0 ceE2v0 cseE2v0 p1 fx1v0 fx2v0 feE2v0 junk
    dsimp only at h
    by_cases h2 : x13 = true
    · rw [if_pos h2] at h
      rw [h2]
      refine Goes.runs 9 [(4, .int .i64 0)] [.code (sub [0, 0, 1, 0, 1, 0, 0] B68), .code (sub [0, 0, 1, 0, 1, 0, 1] B68), .code (sub [0, 0, 1, 0, 1, 1] B68), .inBlock 1, .inLoop (sub [0, 0] B68), .inBlock 0] (by kernel_rfl) ?_
      have z2 : Ext S1 w1 S1 (w1).drew := Ext.draw
      have p2 := p1.draw
      refine Goes.drawn (s := []) (F := Fc S1 (w1).drew [(⟨gx0q12b1, 0, none⟩, .slice Ax2v0 x2v0.length cx2v0), (⟨gx0q12b0, 0, none⟩, .slice Ax1v0 x1v0.length cx1v0)]) 2 17 (by kernel_rfl) (by kernel_rfl) (by kernel_rfl) (by kernel_rfl) ?_
      generalize (w1).drew = w2 at z2 p2 ⊢
      refine AnyG.ld1 (i := 0) 22 (.tmp 2) 14 22 ⟨gx0q12b1, 0, none⟩ (.slice Ax2v0 x2v0.length cx2v0) (by kernel_rfl) (by kernel_rfl) (Fc.here ⟨((p2.mem 2 rfl).cell 0 _ rfl), ((p2.mem 1 rfl).cell 0 _ rfl), trivial⟩) (by kernel_rfl) (by kernel_rfl) (fun _ h => h.2.at_ 0 rfl) ?_
      refine AnyG.pure (i := 1) (.call { callee := .builtin .len, args := #[(.tmp 14)], argTypes := #[22] }) 15 3 (.int .i64 (x2v0.length : Int)) (by kernel_rfl) (by kernel_rfl) (by kernel_rfl) (Fc.here ⟨((p2.mem 2 rfl).cell 0 _ rfl), ((p2.mem 1 rfl).cell 0 _ rfl), trivial⟩) ?_
      refine AnyG.pure (i := 2) (.binOp .eql 3 (.tmp 15) (.const (.int .i64 0)) 3) 16 4 (.bool (decide ((x2v0.length : Int) = 0))) (by kernel_rfl) (by kernel_rfl) (by kernel_rfl) (Fc.here ⟨((p2.mem 2 rfl).cell 0 _ rfl), ((p2.mem 1 rfl).cell 0 _ rfl), trivial⟩) ?_
      refine AnyG.pure (i := 3) (.move (.tmp 16)) 17 4 (.bool (decide ((x2v0.length : Int) = 0))) (by kernel_rfl) (by kernel_rfl) (by kernel_rfl) (Fc.here ⟨((p2.mem 2 rfl).cell 0 _ rfl), ((p2.mem 1 rfl).cell 0 _ rfl), trivial⟩) ?_
      by_cases h3 : (x2v0.length : Int) = 0
      · rw [if_pos h3] at h
        rw [decide_eq_true h3]
        refine AnyG.skip1 (i := 4) 18 (by kernel_rfl) (by kernel_rfl) (Fc.here ⟨((p2.mem 2 rfl).cell 0 _ rfl), ((p2.mem 1 rfl).cell 0 _ rfl), trivial⟩) ?_
        refine AnyG.skip1 (i := 5) 19 (by kernel_rfl) (by kernel_rfl) (Fc.here ⟨((p2.mem 2 rfl).cell 0 _ rfl), ((p2.mem 1 rfl).cell 0 _ rfl), trivial⟩) ?_
        refine AnyG.skip1 (i := 6) 20 (by kernel_rfl) (by kernel_rfl) (Fc.here ⟨((p2.mem 2 rfl).cell 0 _ rfl), ((p2.mem 1 rfl).cell 0 _ rfl), trivial⟩) ?_
        refine AnyG.skip1 (i := 7) 21 (by kernel_rfl) (by kernel_rfl) (Fc.here ⟨((p2.mem 2 rfl).cell 0 _ rfl), ((p2.mem 1 rfl).cell 0 _ rfl), trivial⟩) ?_
        refine AnyG.skip1 (i := 8) 22 (by kernel_rfl) (by kernel_rfl) (Fc.here ⟨((p2.mem 2 rfl).cell 0 _ rfl), ((p2.mem 1 rfl).cell 0 _ rfl), trivial⟩) ?_
        refine AnyG.skip1 (i := 9) 23 (by kernel_rfl) (by kernel_rfl) (Fc.here ⟨((p2.mem 2 rfl).cell 0 _ rfl), ((p2.mem 1 rfl).cell 0 _ rfl), trivial⟩) ?_
        refine AnyG.skip1 (i := 10) 24 (by kernel_rfl) (by kernel_rfl) (Fc.here ⟨((p2.mem 2 rfl).cell 0 _ rfl), ((p2.mem 1 rfl).cell 0 _ rfl), trivial⟩) ?_
        refine AnyG.skip1 (i := 11) 25 (by kernel_rfl) (by kernel_rfl) (Fc.here ⟨((p2.mem 2 rfl).cell 0 _ rfl), ((p2.mem 1 rfl).cell 0 _ rfl), trivial⟩) ?_
        refine AnyG.skip1 (i := 12) 26 (by kernel_rfl) (by kernel_rfl) (Fc.here ⟨((p2.mem 2 rfl).cell 0 _ rfl), ((p2.mem 1 rfl).cell 0 _ rfl), trivial⟩) ?_
        refine AnyG.skip1 (i := 13) 27 (by kernel_rfl) (by kernel_rfl) (Fc.here ⟨((p2.mem 2 rfl).cell 0 _ rfl), ((p2.mem 1 rfl).cell 0 _ rfl), trivial⟩) ?_
        refine AnyG.skip1 (i := 14) 28 (by kernel_rfl) (by kernel_rfl) (Fc.here ⟨((p2.mem 2 rfl).cell 0 _ rfl), ((p2.mem 1 rfl).cell 0 _ rfl), trivial⟩) ?_
        refine AnyG.skip1 (i := 15) 29 (by kernel_rfl) (by kernel_rfl) (Fc.here ⟨((p2.mem 2 rfl).cell 0 _ rfl), ((p2.mem 1 rfl).cell 0 _ rfl), trivial⟩) ?_
        refine AnyG.pure (i := 16) (.pick (.tmp 17) (.const (.bool true)) (.tmp 29)) 30 4 (.bool true) (by kernel_rfl) (by kernel_rfl) (by kernel_rfl) (Fc.here ⟨((p2.mem 2 rfl).cell 0 _ rfl), ((p2.mem 1 rfl).cell 0 _ rfl), trivial⟩) ?_
        refine AnyG.done (by kernel_rfl) ?_ _
        exact Goes.jump 73 [(0, yieldV lx0), (1, .pointer (some ⟨gx0q12b0, 0, none⟩)), (2, .pointer (some ⟨gx0q12b1, 0, none⟩)), (4, .int .i64 0), (30, .bool true)] (by kernel_rfl) (ih_post_merge_uint64_1_2_l2 _ _ h _ _ (hx.trans z2) Ax1v0 cx1v0 Ax2v0 cx2v0 GeE2v0 ceE2v0 cseE2v0 p2 (fx1v0.ext z2) (fx2v0.ext z2) (feE2v0.ext z2))
      · rw [if_neg h3] at h
        rw [decide_eq_false h3]
        refine AnyG.ld1 (i := 4) 22 (.tmp 1) 18 22 ⟨gx0q12b0, 0, none⟩ (.slice Ax1v0 x1v0.length cx1v0) (by kernel_rfl) (by kernel_rfl) (Fc.here ⟨((p2.mem 2 rfl).cell 0 _ rfl), ((p2.mem 1 rfl).cell 0 _ rfl), trivial⟩) (by kernel_rfl) (by kernel_rfl) (fun _ h => h.2.at_ 1 rfl) ?_
        refine AnyG.pure (i := 5) (.call { callee := .builtin .len, args := #[(.tmp 18)], argTypes := #[22] }) 19 3 (.int .i64 (x1v0.length : Int)) (by kernel_rfl) (by kernel_rfl) (by kernel_rfl) (Fc.here ⟨((p2.mem 2 rfl).cell 0 _ rfl), ((p2.mem 1 rfl).cell 0 _ rfl), trivial⟩) ?_
        refine AnyG.pure (i := 6) (.binOp .gtr 3 (.tmp 19) (.const (.int .i64 0)) 3) 20 4 (.bool (decide ((x1v0.length : Int) > 0))) (by kernel_rfl) (by kernel_rfl) (by kernel_rfl) (Fc.here ⟨((p2.mem 2 rfl).cell 0 _ rfl), ((p2.mem 1 rfl).cell 0 _ rfl), trivial⟩) ?_
        refine AnyG.pure (i := 7) (.move (.tmp 20)) 21 4 (.bool (decide ((x1v0.length : Int) > 0))) (by kernel_rfl) (by kernel_rfl) (by kernel_rfl) (Fc.here ⟨((p2.mem 2 rfl).cell 0 _ rfl), ((p2.mem 1 rfl).cell 0 _ rfl), trivial⟩) ?_
        by_cases h4 : (x1v0.length : Int) > 0
        · rw [if_pos h4] at h
          rw [decide_eq_true h4]
          refine AnyG.ld1 (i := 8) 22 (.tmp 1) 22 22 ⟨gx0q12b0, 0, none⟩ (.slice Ax1v0 x1v0.length cx1v0) (by kernel_rfl) (by kernel_rfl) (Fc.here ⟨((p2.mem 2 rfl).cell 0 _ rfl), ((p2.mem 1 rfl).cell 0 _ rfl), trivial⟩) (by kernel_rfl) (by kernel_rfl) (fun _ h => h.2.at_ 1 rfl) ?_
          obtain ⟨g5, h⟩ := guard_some h
          refine AnyG.ixR (i := 9) 22 (.tmp 22) (.const (.int .i64 0)) 23 0 35 .i64 0 (fx1v0.ext z2) (by kernel_rfl) (by kernel_rfl) (Fc.here ⟨((p2.mem 2 rfl).cell 0 _ rfl), ((p2.mem 1 rfl).cell 0 _ rfl), trivial⟩) (by kernel_rfl) (by kernel_rfl) (by kernel_rfl) (by kernel_rfl) (by decide) g5 ?_
          rintro a6 _ f7 rfl
          refine AnyG.ld1 (i := 10) 35 (.tmp 23) 24 35 a6 (.int .u64 (gi x1v0 0)) (by kernel_rfl) (by kernel_rfl) (Fc.here ⟨((p2.mem 2 rfl).cell 0 _ rfl), ((p2.mem 1 rfl).cell 0 _ rfl), trivial⟩) (by kernel_rfl) (by kernel_rfl) (fun _ h => f7.fc h 0 _ rfl) ?_
          refine AnyG.ld1 (i := 11) 22 (.tmp 2) 25 22 ⟨gx0q12b1, 0, none⟩ (.slice Ax2v0 x2v0.length cx2v0) (by kernel_rfl) (by kernel_rfl) (Fc.here ⟨((p2.mem 2 rfl).cell 0 _ rfl), ((p2.mem 1 rfl).cell 0 _ rfl), trivial⟩) (by kernel_rfl) (by kernel_rfl) (fun _ h => h.2.at_ 0 rfl) ?_
          obtain ⟨g8, h⟩ := guard_some h
          refine AnyG.ixR (i := 12) 22 (.tmp 25) (.const (.int .i64 0)) 26 0 35 .i64 0 (fx2v0.ext z2) (by kernel_rfl) (by kernel_rfl) (Fc.here ⟨((p2.mem 2 rfl).cell 0 _ rfl), ((p2.mem 1 rfl).cell 0 _ rfl), trivial⟩) (by kernel_rfl) (by kernel_rfl) (by kernel_rfl) (by kernel_rfl) (by decide) g8 ?_
          rintro a9 _ f10 rfl
          refine AnyG.ld1 (i := 13) 35 (.tmp 26) 27 35 a9 (.int .u64 (gi x2v0 0)) (by kernel_rfl) (by kernel_rfl) (Fc.here ⟨((p2.mem 2 rfl).cell 0 _ rfl), ((p2.mem 1 rfl).cell 0 _ rfl), trivial⟩) (by kernel_rfl) (by kernel_rfl) (fun _ h => f10.fc h 0 _ rfl) ?_
          refine AnyG.pure (i := 14) (.binOp .leq 35 (.tmp 24) (.tmp 27) 35) 28 4 (.bool (decide (gi x1v0 0 ≤ gi x2v0 0))) (by kernel_rfl) (by kernel_rfl) (by kernel_rfl) (Fc.here ⟨((p2.mem 2 rfl).cell 0 _ rfl), ((p2.mem 1 rfl).cell 0 _ rfl), trivial⟩) ?_
          refine AnyG.pure (i := 15) (.pick (.tmp 21) (.tmp 28) (.const (.bool false))) 29 4 (.bool (decide (gi x1v0 0 ≤ gi x2v0 0))) (by kernel_rfl) (by kernel_rfl) (by kernel_rfl) (Fc.here ⟨((p2.mem 2 rfl).cell 0 _ rfl), ((p2.mem 1 rfl).cell 0 _ rfl), trivial⟩) ?_
          refine AnyG.pure (i := 16) (.pick (.tmp 17) (.const (.bool true)) (.tmp 29)) 30 4 (.bool (decide (gi x1v0 0 ≤ gi x2v0 0))) (by kernel_rfl) (by kernel_rfl) (by kernel_rfl) (Fc.here ⟨((p2.mem 2 rfl).cell 0 _ rfl), ((p2.mem 1 rfl).cell 0 _ rfl), trivial⟩) ?_
          refine AnyG.done (by kernel_rfl) ?_ _
          exact Goes.jump 73 [(0, yieldV lx0), (1, .pointer (some ⟨gx0q12b0, 0, none⟩)), (2, .pointer (some ⟨gx0q12b1, 0, none⟩)), (4, .int .i64 0), (30, .bool (decide (gi x1v0 0 ≤ gi x2v0 0)))] (by kernel_rfl) (ih_post_merge_uint64_1_2_l2 _ _ h _ _ (hx.trans z2) Ax1v0 cx1v0 Ax2v0 cx2v0 GeE2v0 ceE2v0 cseE2v0 p2 (fx1v0.ext z2) (fx2v0.ext z2) (feE2v0.ext z2))
        · rw [if_neg h4] at h
          rw [decide_eq_false h4]
          refine AnyG.skip1 (i := 8) 22 (by kernel_rfl) (by kernel_rfl) (Fc.here ⟨((p2.mem 2 rfl).cell 0 _ rfl), ((p2.mem 1 rfl).cell 0 _ rfl), trivial⟩) ?_
          refine AnyG.skip1 (i := 9) 23 (by kernel_rfl) (by kernel_rfl) (Fc.here ⟨((p2.mem 2 rfl).cell 0 _ rfl), ((p2.mem 1 rfl).cell 0 _ rfl), trivial⟩) ?_
          refine AnyG.skip1 (i := 10) 24 (by kernel_rfl) (by kernel_rfl) (Fc.here ⟨((p2.mem 2 rfl).cell 0 _ rfl), ((p2.mem 1 rfl).cell 0 _ rfl), trivial⟩) ?_
          refine AnyG.skip1 (i := 11) 25 (by kernel_rfl) (by kernel_rfl) (Fc.here ⟨((p2.mem 2 rfl).cell 0 _ rfl), ((p2.mem 1 rfl).cell 0 _ rfl), trivial⟩) ?_
          refine AnyG.skip1 (i := 12) 26 (by kernel_rfl) (by kernel_rfl) (Fc.here ⟨((p2.mem 2 rfl).cell 0 _ rfl), ((p2.mem 1 rfl).cell 0 _ rfl), trivial⟩) ?_
          refine AnyG.skip1 (i := 13) 27 (by kernel_rfl) (by kernel_rfl) (Fc.here ⟨((p2.mem 2 rfl).cell 0 _ rfl), ((p2.mem 1 rfl).cell 0 _ rfl), trivial⟩) ?_
          refine AnyG.skip1 (i := 14) 28 (by kernel_rfl) (by kernel_rfl) (Fc.here ⟨((p2.mem 2 rfl).cell 0 _ rfl), ((p2.mem 1 rfl).cell 0 _ rfl), trivial⟩) ?_
          refine AnyG.pure (i := 15) (.pick (.tmp 21) (.tmp 28) (.const (.bool false))) 29 4 (.bool false) (by kernel_rfl) (by kernel_rfl) (by kernel_rfl) (Fc.here ⟨((p2.mem 2 rfl).cell 0 _ rfl), ((p2.mem 1 rfl).cell 0 _ rfl), trivial⟩) ?_
          refine AnyG.pure (i := 16) (.pick (.tmp 17) (.const (.bool true)) (.tmp 29)) 30 4 (.bool false) (by kernel_rfl) (by kernel_rfl) (by kernel_rfl) (Fc.here ⟨((p2.mem 2 rfl).cell 0 _ rfl), ((p2.mem 1 rfl).cell 0 _ rfl), trivial⟩) ?_
          refine AnyG.done (by kernel_rfl) ?_ _
          exact Goes.jump 73 [(0, yieldV lx0), (1, .pointer (some ⟨gx0q12b0, 0, none⟩)), (2, .pointer (some ⟨gx0q12b1, 0, none⟩)), (4, .int .i64 0), (30, .bool false)] (by kernel_rfl) (ih_post_merge_uint64_1_2_l2 _ _ h _ _ (hx.trans z2) Ax1v0 cx1v0 Ax2v0 cx2v0 GeE2v0 ceE2v0 cseE2v0 p2 (fx1v0.ext z2) (fx2v0.ext z2) (feE2v0.ext z2))
    · rw [if_neg h2] at h
      have h2' : x13 = false := by simpa using h2
      rw [h2']
      refine Goes.runs 2 [] [] (by kernel_rfl) ?_
      have p1 := p1.front 2 _ rfl
      have p1 := p1.front 2 _ rfl
      have p1 := p1.front 4 _ rfl
      have p1 := p1.front 4 _ rfl
      have p1 := p1.front 4 _ rfl
      have p1 := p1.front 5 _ rfl
      obtain rfl := Option.some.inj h
      exact Goes.end_ (fn := Try.f68) (by kernel_rfl) (v := .tuple #[]) (by kernel_rfl) ⟨S1, GeE2v0, ceE2v0, cseE2v0, Ax1v0, cx1v0, Ax2v0, cx2v0, rfl, hx, p1, feE2v0, fx1v0, fx2v0⟩
  · intro rec_post_merge_uint64_1_2_l3 ih_post_merge_uint64_1_2_l3 ⟨x1v0, x2v0, x4, x30, eE2v0⟩ r h S1 w1 hx Ax1v0 cx1v0 Ax2v0 cx2v0 GeE2v0 ceE2v0 cseE2v0 p1 fx1v0 fx2v0 feE2v0 junk
    dsimp only at h
    by_cases h11 : x30 = true
    · rw [if_pos h11] at h
      rw [h11]
      refine Goes.runs 6 [(31, .int .i64 x4), (32, .int .i64 (ior .i64 x4 1)), (4, .int .i64 (ior .i64 x4 1))] [.code (sub [0, 0, 1, 0, 1, 1] B68), .inBlock 1, .inLoop (sub [0, 0] B68), .inBlock 0] (by kernel_rfl) ?_
      exact Goes.jump 73 [(0, yieldV lx0), (1, .pointer (some ⟨gx0q12b0, 0, none⟩)), (2, .pointer (some ⟨gx0q12b1, 0, none⟩)), (4, .int .i64 (ior .i64 x4 1))] (by kernel_rfl) (ih_post_merge_uint64_1_2_l3 _ _ h _ _ hx Ax1v0 cx1v0 Ax2v0 cx2v0 GeE2v0 ceE2v0 cseE2v0 p1 fx1v0 fx2v0 feE2v0)
    · rw [if_neg h11] at h
      have h11' : x30 = false := by simpa using h11
      rw [h11']
      refine Goes.runs 2 [] [.code (sub [0, 0, 1, 0, 1, 1] B68), .inBlock 1, .inLoop (sub [0, 0] B68), .inBlock 0] (by kernel_rfl) ?_
      exact Goes.jump 73 [(0, yieldV lx0), (1, .pointer (some ⟨gx0q12b0, 0, none⟩)), (2, .pointer (some ⟨gx0q12b1, 0, none⟩)), (4, .int .i64 x4)] (by kernel_rfl) (ih_post_merge_uint64_1_2_l3 _ _ h _ _ hx Ax1v0 cx1v0 Ax2v0 cx2v0 GeE2v0 ceE2v0 cseE2v0 p1 fx1v0 fx2v0 feE2v0)
  · intro rec_post_merge_uint64_1_2_l4 ih_post_merge_uint64_1_2_l4 ⟨x1v0, x2v0, x4, eE2v0⟩ r h S1 w1 hx Ax1v0 cx1v0 Ax2v0 cx2v0 GeE2v0 ceE2v0 cseE2v0 p1 fx1v0 fx2v0 feE2v0 junk
    dsimp only at h
    refine Goes.runs 2 [] [.code (sub [0, 0, 1, 0, 1, 1, 0, 0] B68), .code (sub [0, 0, 1, 0, 1, 1, 0, 1] B68), .code (sub [0, 0, 1, 0, 1, 1, 1] B68), .inBlock 1, .inLoop (sub [0, 0] B68), .inBlock 0] (by kernel_rfl) ?_
    have z3 : Ext S1 w1 S1 (w1).drew := Ext.draw
    have p3 := p1.draw
    refine Goes.drawn (s := []) (F := Fc S1 (w1).drew [(⟨gx0q12b0, 0, none⟩, .slice Ax1v0 x1v0.length cx1v0), (⟨gx0q12b1, 0, none⟩, .slice Ax2v0 x2v0.length cx2v0)]) 4 17 (by kernel_rfl) (by kernel_rfl) (by kernel_rfl) (by kernel_rfl) ?_
    generalize (w1).drew = w3 at z3 p3 ⊢
    refine AnyG.ld1 (i := 0) 22 (.tmp 1) 33 22 ⟨gx0q12b0, 0, none⟩ (.slice Ax1v0 x1v0.length cx1v0) (by kernel_rfl) (by kernel_rfl) (Fc.here ⟨((p3.mem 1 rfl).cell 0 _ rfl), ((p3.mem 2 rfl).cell 0 _ rfl), trivial⟩) (by kernel_rfl) (by kernel_rfl) (fun _ h => h.2.at_ 0 rfl) ?_
    refine AnyG.pure (i := 1) (.call { callee := .builtin .len, args := #[(.tmp 33)], argTypes := #[22] }) 34 3 (.int .i64 (x1v0.length : Int)) (by kernel_rfl) (by kernel_rfl) (by kernel_rfl) (Fc.here ⟨((p3.mem 1 rfl).cell 0 _ rfl), ((p3.mem 2 rfl).cell 0 _ rfl), trivial⟩) ?_
    refine AnyG.pure (i := 2) (.binOp .eql 3 (.tmp 34) (.const (.int .i64 0)) 3) 35 4 (.bool (decide ((x1v0.length : Int) = 0))) (by kernel_rfl) (by kernel_rfl) (by kernel_rfl) (Fc.here ⟨((p3.mem 1 rfl).cell 0 _ rfl), ((p3.mem 2 rfl).cell 0 _ rfl), trivial⟩) ?_
    refine AnyG.pure (i := 3) (.move (.tmp 35)) 36 4 (.bool (decide ((x1v0.length : Int) = 0))) (by kernel_rfl) (by kernel_rfl) (by kernel_rfl) (Fc.here ⟨((p3.mem 1 rfl).cell 0 _ rfl), ((p3.mem 2 rfl).cell 0 _ rfl), trivial⟩) ?_
    by_cases h12 : (x1v0.length : Int) = 0
    · rw [if_pos h12] at h
      rw [decide_eq_true h12]
      refine AnyG.skip1 (i := 4) 37 (by kernel_rfl) (by kernel_rfl) (Fc.here ⟨((p3.mem 1 rfl).cell 0 _ rfl), ((p3.mem 2 rfl).cell 0 _ rfl), trivial⟩) ?_
      refine AnyG.skip1 (i := 5) 38 (by kernel_rfl) (by kernel_rfl) (Fc.here ⟨((p3.mem 1 rfl).cell 0 _ rfl), ((p3.mem 2 rfl).cell 0 _ rfl), trivial⟩) ?_
      refine AnyG.skip1 (i := 6) 39 (by kernel_rfl) (by kernel_rfl) (Fc.here ⟨((p3.mem 1 rfl).cell 0 _ rfl), ((p3.mem 2 rfl).cell 0 _ rfl), trivial⟩) ?_
      refine AnyG.skip1 (i := 7) 40 (by kernel_rfl) (by kernel_rfl) (Fc.here ⟨((p3.mem 1 rfl).cell 0 _ rfl), ((p3.mem 2 rfl).cell 0 _ rfl), trivial⟩) ?_
      refine AnyG.skip1 (i := 8) 41 (by kernel_rfl) (by kernel_rfl) (Fc.here ⟨((p3.mem 1 rfl).cell 0 _ rfl), ((p3.mem 2 rfl).cell 0 _ rfl), trivial⟩) ?_
      refine AnyG.skip1 (i := 9) 42 (by kernel_rfl) (by kernel_rfl) (Fc.here ⟨((p3.mem 1 rfl).cell 0 _ rfl), ((p3.mem 2 rfl).cell 0 _ rfl), trivial⟩) ?_
      refine AnyG.skip1 (i := 10) 43 (by kernel_rfl) (by kernel_rfl) (Fc.here ⟨((p3.mem 1 rfl).cell 0 _ rfl), ((p3.mem 2 rfl).cell 0 _ rfl), trivial⟩) ?_
      refine AnyG.skip1 (i := 11) 44 (by kernel_rfl) (by kernel_rfl) (Fc.here ⟨((p3.mem 1 rfl).cell 0 _ rfl), ((p3.mem 2 rfl).cell 0 _ rfl), trivial⟩) ?_
      refine AnyG.skip1 (i := 12) 45 (by kernel_rfl) (by kernel_rfl) (Fc.here ⟨((p3.mem 1 rfl).cell 0 _ rfl), ((p3.mem 2 rfl).cell 0 _ rfl), trivial⟩) ?_
      refine AnyG.skip1 (i := 13) 46 (by kernel_rfl) (by kernel_rfl) (Fc.here ⟨((p3.mem 1 rfl).cell 0 _ rfl), ((p3.mem 2 rfl).cell 0 _ rfl), trivial⟩) ?_
      refine AnyG.skip1 (i := 14) 47 (by kernel_rfl) (by kernel_rfl) (Fc.here ⟨((p3.mem 1 rfl).cell 0 _ rfl), ((p3.mem 2 rfl).cell 0 _ rfl), trivial⟩) ?_
      refine AnyG.skip1 (i := 15) 48 (by kernel_rfl) (by kernel_rfl) (Fc.here ⟨((p3.mem 1 rfl).cell 0 _ rfl), ((p3.mem 2 rfl).cell 0 _ rfl), trivial⟩) ?_
      refine AnyG.pure (i := 16) (.pick (.tmp 36) (.const (.bool true)) (.tmp 48)) 49 4 (.bool true) (by kernel_rfl) (by kernel_rfl) (by kernel_rfl) (Fc.here ⟨((p3.mem 1 rfl).cell 0 _ rfl), ((p3.mem 2 rfl).cell 0 _ rfl), trivial⟩) ?_
      refine AnyG.done (by kernel_rfl) ?_ _
      exact Goes.jump 73 [(0, yieldV lx0), (1, .pointer (some ⟨gx0q12b0, 0, none⟩)), (2, .pointer (some ⟨gx0q12b1, 0, none⟩)), (4, .int .i64 x4), (49, .bool true)] (by kernel_rfl) (ih_post_merge_uint64_1_2_l4 _ _ h _ _ (hx.trans z3) Ax1v0 cx1v0 Ax2v0 cx2v0 GeE2v0 ceE2v0 cseE2v0 p3 (fx1v0.ext z3) (fx2v0.ext z3) (feE2v0.ext z3))
    · rw [if_neg h12] at h
      rw [decide_eq_false h12]
      refine AnyG.ld1 (i := 4) 22 (.tmp 2) 37 22 ⟨gx0q12b1, 0, none⟩ (.slice Ax2v0 x2v0.length cx2v0) (by kernel_rfl) (by kernel_rfl) (Fc.here ⟨((p3.mem 1 rfl).cell 0 _ rfl), ((p3.mem 2 rfl).cell 0 _ rfl), trivial⟩) (by kernel_rfl) (by kernel_rfl) (fun _ h => h.2.at_ 1 rfl) ?_
      refine AnyG.pure (i := 5) (.call { callee := .builtin .len, args := #[(.tmp 37)], argTypes := #[22] }) 38 3 (.int .i64 (x2v0.length : Int)) (by kernel_rfl) (by kernel_rfl) (by kernel_rfl) (Fc.here ⟨((p3.mem 1 rfl).cell 0 _ rfl), ((p3.mem 2 rfl).cell 0 _ rfl), trivial⟩) ?_
      refine AnyG.pure (i := 6) (.binOp .gtr 3 (.tmp 38) (.const (.int .i64 0)) 3) 39 4 (.bool (decide ((x2v0.length : Int) > 0))) (by kernel_rfl) (by kernel_rfl) (by kernel_rfl) (Fc.here ⟨((p3.mem 1 rfl).cell 0 _ rfl), ((p3.mem 2 rfl).cell 0 _ rfl), trivial⟩) ?_
      refine AnyG.pure (i := 7) (.move (.tmp 39)) 40 4 (.bool (decide ((x2v0.length : Int) > 0))) (by kernel_rfl) (by kernel_rfl) (by kernel_rfl) (Fc.here ⟨((p3.mem 1 rfl).cell 0 _ rfl), ((p3.mem 2 rfl).cell 0 _ rfl), trivial⟩) ?_
      by_cases h13 : (x2v0.length : Int) > 0
      · rw [if_pos h13] at h
        rw [decide_eq_true h13]
        refine AnyG.ld1 (i := 8) 22 (.tmp 2) 41 22 ⟨gx0q12b1, 0, none⟩ (.slice Ax2v0 x2v0.length cx2v0) (by kernel_rfl) (by kernel_rfl) (Fc.here ⟨((p3.mem 1 rfl).cell 0 _ rfl), ((p3.mem 2 rfl).cell 0 _ rfl), trivial⟩) (by kernel_rfl) (by kernel_rfl) (fun _ h => h.2.at_ 1 rfl) ?_
        obtain ⟨g14, h⟩ := guard_some h
        refine AnyG.ixR (i := 9) 22 (.tmp 41) (.const (.int .i64 0)) 42 0 35 .i64 0 (fx2v0.ext z3) (by kernel_rfl) (by kernel_rfl) (Fc.here ⟨((p3.mem 1 rfl).cell 0 _ rfl), ((p3.mem 2 rfl).cell 0 _ rfl), trivial⟩) (by kernel_rfl) (by kernel_rfl) (by kernel_rfl) (by kernel_rfl) (by decide) g14 ?_
        rintro a15 _ f16 rfl
        refine AnyG.ld1 (i := 10) 35 (.tmp 42) 43 35 a15 (.int .u64 (gi x2v0 0)) (by kernel_rfl) (by kernel_rfl) (Fc.here ⟨((p3.mem 1 rfl).cell 0 _ rfl), ((p3.mem 2 rfl).cell 0 _ rfl), trivial⟩) (by kernel_rfl) (by kernel_rfl) (fun _ h => f16.fc h 0 _ rfl) ?_
        refine AnyG.ld1 (i := 11) 22 (.tmp 1) 44 22 ⟨gx0q12b0, 0, none⟩ (.slice Ax1v0 x1v0.length cx1v0) (by kernel_rfl) (by kernel_rfl) (Fc.here ⟨((p3.mem 1 rfl).cell 0 _ rfl), ((p3.mem 2 rfl).cell 0 _ rfl), trivial⟩) (by kernel_rfl) (by kernel_rfl) (fun _ h => h.2.at_ 0 rfl) ?_
        obtain ⟨g17, h⟩ := guard_some h
        refine AnyG.ixR (i := 12) 22 (.tmp 44) (.const (.int .i64 0)) 45 0 35 .i64 0 (fx1v0.ext z3) (by kernel_rfl) (by kernel_rfl) (Fc.here ⟨((p3.mem 1 rfl).cell 0 _ rfl), ((p3.mem 2 rfl).cell 0 _ rfl), trivial⟩) (by kernel_rfl) (by kernel_rfl) (by kernel_rfl) (by kernel_rfl) (by decide) g17 ?_
        rintro a18 _ f19 rfl
        refine AnyG.ld1 (i := 13) 35 (.tmp 45) 46 35 a18 (.int .u64 (gi x1v0 0)) (by kernel_rfl) (by kernel_rfl) (Fc.here ⟨((p3.mem 1 rfl).cell 0 _ rfl), ((p3.mem 2 rfl).cell 0 _ rfl), trivial⟩) (by kernel_rfl) (by kernel_rfl) (fun _ h => f19.fc h 0 _ rfl) ?_
        refine AnyG.pure (i := 14) (.binOp .leq 35 (.tmp 43) (.tmp 46) 35) 47 4 (.bool (decide (gi x2v0 0 ≤ gi x1v0 0))) (by kernel_rfl) (by kernel_rfl) (by kernel_rfl) (Fc.here ⟨((p3.mem 1 rfl).cell 0 _ rfl), ((p3.mem 2 rfl).cell 0 _ rfl), trivial⟩) ?_
        refine AnyG.pure (i := 15) (.pick (.tmp 40) (.tmp 47) (.const (.bool false))) 48 4 (.bool (decide (gi x2v0 0 ≤ gi x1v0 0))) (by kernel_rfl) (by kernel_rfl) (by kernel_rfl) (Fc.here ⟨((p3.mem 1 rfl).cell 0 _ rfl), ((p3.mem 2 rfl).cell 0 _ rfl), trivial⟩) ?_
        refine AnyG.pure (i := 16) (.pick (.tmp 36) (.const (.bool true)) (.tmp 48)) 49 4 (.bool (decide (gi x2v0 0 ≤ gi x1v0 0))) (by kernel_rfl) (by kernel_rfl) (by kernel_rfl) (Fc.here ⟨((p3.mem 1 rfl).cell 0 _ rfl), ((p3.mem 2 rfl).cell 0 _ rfl), trivial⟩) ?_
        refine AnyG.done (by kernel_rfl) ?_ _
        exact Goes.jump 73 [(0, yieldV lx0), (1, .pointer (some ⟨gx0q12b0, 0, none⟩)), (2, .pointer (some ⟨gx0q12b1, 0, none⟩)), (4, .int .i64 x4), (49, .bool (decide (gi x2v0 0 ≤ gi x1v0 0)))] (by kernel_rfl) (ih_post_merge_uint64_1_2_l4 _ _ h _ _ (hx.trans z3) Ax1v0 cx1v0 Ax2v0 cx2v0 GeE2v0 ceE2v0 cseE2v0 p3 (fx1v0.ext z3) (fx2v0.ext z3) (feE2v0.ext z3))
      · rw [if_neg h13] at h
        rw [decide_eq_false h13]
        refine AnyG.skip1 (i := 8) 41 (by kernel_rfl) (by kernel_rfl) (Fc.here ⟨((p3.mem 1 rfl).cell 0 _ rfl), ((p3.mem 2 rfl).cell 0 _ rfl), trivial⟩) ?_
        refine AnyG.skip1 (i := 9) 42 (by kernel_rfl) (by kernel_rfl) (Fc.here ⟨((p3.mem 1 rfl).cell 0 _ rfl), ((p3.mem 2 rfl).cell 0 _ rfl), trivial⟩) ?_
        refine AnyG.skip1 (i := 10) 43 (by kernel_rfl) (by kernel_rfl) (Fc.here ⟨((p3.mem 1 rfl).cell 0 _ rfl), ((p3.mem 2 rfl).cell 0 _ rfl), trivial⟩) ?_
        refine AnyG.skip1 (i := 11) 44 (by kernel_rfl) (by kernel_rfl) (Fc.here ⟨((p3.mem 1 rfl).cell 0 _ rfl), ((p3.mem 2 rfl).cell 0 _ rfl), trivial⟩) ?_
        refine AnyG.skip1 (i := 12) 45 (by kernel_rfl) (by kernel_rfl) (Fc.here ⟨((p3.mem 1 rfl).cell 0 _ rfl), ((p3.mem 2 rfl).cell 0 _ rfl), trivial⟩) ?_
        refine AnyG.skip1 (i := 13) 46 (by kernel_rfl) (by kernel_rfl) (Fc.here ⟨((p3.mem 1 rfl).cell 0 _ rfl), ((p3.mem 2 rfl).cell 0 _ rfl), trivial⟩) ?_
        refine AnyG.skip1 (i := 14) 47 (by kernel_rfl) (by kernel_rfl) (Fc.here ⟨((p3.mem 1 rfl).cell 0 _ rfl), ((p3.mem 2 rfl).cell 0 _ rfl), trivial⟩) ?_
        refine AnyG.pure (i := 15) (.pick (.tmp 40) (.tmp 47) (.const (.bool false))) 48 4 (.bool false) (by kernel_rfl) (by kernel_rfl) (by kernel_rfl) (Fc.here ⟨((p3.mem 1 rfl).cell 0 _ rfl), ((p3.mem 2 rfl).cell 0 _ rfl), trivial⟩) ?_
        refine AnyG.pure (i := 16) (.pick (.tmp 36) (.const (.bool true)) (.tmp 48)) 49 4 (.bool false) (by kernel_rfl) (by kernel_rfl) (by kernel_rfl) (Fc.here ⟨((p3.mem 1 rfl).cell 0 _ rfl), ((p3.mem 2 rfl).cell 0 _ rfl), trivial⟩) ?_
        refine AnyG.done (by kernel_rfl) ?_ _
        exact Goes.jump 73 [(0, yieldV lx0), (1, .pointer (some ⟨gx0q12b0, 0, none⟩)), (2, .pointer (some ⟨gx0q12b1, 0, none⟩)), (4, .int .i64 x4), (49, .bool false)] (by kernel_rfl) (ih_post_merge_uint64_1_2_l4 _ _ h _ _ (hx.trans z3) Ax1v0 cx1v0 Ax2v0 cx2v0 GeE2v0 ceE2v0 cseE2v0 p3 (fx1v0.ext z3) (fx2v0.ext z3) (feE2v0.ext z3))
  · intro rec_post_merge_uint64_1_2_l5 ih_post_merge_uint64_1_2_l5 ⟨x1v0, x2v0, x4, x49, eE2v0⟩ r h S1 w1 hx Ax1v0 cx1v0 Ax2v0 cx2v0 GeE2v0 ceE2v0 cseE2v0 p1 fx1v0 fx2v0 feE2v0 junk
    dsimp only at h
    by_cases h20 : x49 = true
    · rw [if_pos h20] at h
      rw [h20]
      refine Goes.runs 6 [(50, .int .i64 x4), (51, .int .i64 (ior .i64 x4 2)), (4, .int .i64 (ior .i64 x4 2))] [.code (sub [0, 0, 1, 0, 1, 1, 1] B68), .inBlock 1, .inLoop (sub [0, 0] B68), .inBlock 0] (by kernel_rfl) ?_
      exact Goes.jump 73 [(0, yieldV lx0), (1, .pointer (some ⟨gx0q12b0, 0, none⟩)), (2, .pointer (some ⟨gx0q12b1, 0, none⟩)), (4, .int .i64 (ior .i64 x4 2))] (by kernel_rfl) (ih_post_merge_uint64_1_2_l5 _ _ h _ _ hx Ax1v0 cx1v0 Ax2v0 cx2v0 GeE2v0 ceE2v0 cseE2v0 p1 fx1v0 fx2v0 feE2v0)
    · rw [if_neg h20] at h
      have h20' : x49 = false := by simpa using h20
      rw [h20']
      refine Goes.runs 2 [] [.code (sub [0, 0, 1, 0, 1, 1, 1] B68), .inBlock 1, .inLoop (sub [0, 0] B68), .inBlock 0] (by kernel_rfl) ?_
      exact Goes.jump 73 [(0, yieldV lx0), (1, .pointer (some ⟨gx0q12b0, 0, none⟩)), (2, .pointer (some ⟨gx0q12b1, 0, none⟩)), (4, .int .i64 x4)] (by kernel_rfl) (ih_post_merge_uint64_1_2_l5 _ _ h _ _ hx Ax1v0 cx1v0 Ax2v0 cx2v0 GeE2v0 ceE2v0 cseE2v0 p1 fx1v0 fx2v0 feE2v0)
  · intro rec_post_merge_uint64_1_2_l6 ih_post_merge_uint64_1_2_l6 ⟨x1v0, x2v0, x4, eE2v0⟩ r h S1 w1 hx Ax1v0 cx1v0 Ax2v0 cx2v0 GeE2v0 ceE2v0 cseE2v0 p1 fx1v0 fx2v0 feE2v0 junk
    dsimp only at h
    refine Goes.runs 11 [(5, .int .u64 0), (52, .int .i64 x4), (53, .int .i64 (iand .i64 x4 2)), (54, .bool (!(decide (iand .i64 x4 2 = 0))))] [.code (sub [0, 0, 1, 0, 1, 1, 1, 1, 0, 1] B68), .code (sub [0, 0, 1, 0, 1, 1, 1, 1, 1] B68), .inBlock 1, .inLoop (sub [0, 0] B68), .inBlock 0] (by kernel_rfl) ?_
    by_cases h21 : iand .i64 x4 2 = 0
    · rw [if_pos h21] at h
      rw [decide_eq_true h21]
      refine Goes.runs 2 [] [.code (sub [0, 0, 1, 0, 1, 1, 1, 1, 1] B68), .inBlock 1, .inLoop (sub [0, 0] B68), .inBlock 0] (by kernel_rfl) ?_
      exact Goes.jump 73 [(0, yieldV lx0), (1, .pointer (some ⟨gx0q12b0, 0, none⟩)), (2, .pointer (some ⟨gx0q12b1, 0, none⟩)), (4, .int .i64 x4), (5, .int .u64 0)] (by kernel_rfl) (ih_post_merge_uint64_1_2_l6 _ _ h _ _ hx Ax1v0 cx1v0 Ax2v0 cx2v0 GeE2v0 ceE2v0 cseE2v0 p1 fx1v0 fx2v0 feE2v0)
    · rw [if_neg h21] at h
      rw [decide_eq_false h21]
      refine Goes.runs 1 [] [.code (sub [0, 0, 1, 0, 1, 1, 1, 1, 0, 1, 0] B68), .code (sub [0, 0, 1, 0, 1, 1, 1, 1, 1] B68), .inBlock 1, .inLoop (sub [0, 0] B68), .inBlock 0] (by kernel_rfl) ?_
      have z4 : Ext S1 w1 S1 (w1).drew := Ext.draw
      have p4 := p1.draw
      refine Goes.drawn (s := [6]) (F := Fc S1 (w1).drew [(⟨gx0q12b1, 0, none⟩, .slice Ax2v0 x2v0.length cx2v0)]) 8 7 (by kernel_rfl) (by kernel_rfl) (by kernel_rfl) (by kernel_rfl) ?_
      generalize (w1).drew = w4 at z4 p4 ⊢
      refine AnyG.ld1 (i := 0) 22 (.tmp 2) 55 22 ⟨gx0q12b1, 0, none⟩ (.slice Ax2v0 x2v0.length cx2v0) (by kernel_rfl) (by kernel_rfl) (Fc.here ⟨((p4.mem 2 rfl).cell 0 _ rfl), trivial⟩) (by kernel_rfl) (by kernel_rfl) (fun _ h => h.2.at_ 0 rfl) ?_
      obtain ⟨g22, h⟩ := guard_some h
      refine AnyG.ixR (i := 1) 22 (.tmp 55) (.const (.int .i64 0)) 56 0 35 .i64 0 (fx2v0.ext z4) (by kernel_rfl) (by kernel_rfl) (Fc.here ⟨((p4.mem 2 rfl).cell 0 _ rfl), trivial⟩) (by kernel_rfl) (by kernel_rfl) (by kernel_rfl) (by kernel_rfl) (by decide) g22 ?_
      rintro a23 _ f24 rfl
      refine AnyG.ld1 (i := 2) 35 (.tmp 56) 57 35 a23 (.int .u64 (gi x2v0 0)) (by kernel_rfl) (by kernel_rfl) (Fc.here ⟨((p4.mem 2 rfl).cell 0 _ rfl), trivial⟩) (by kernel_rfl) (by kernel_rfl) (fun _ h => f24.fc h 0 _ rfl) ?_
      refine AnyG.ld1 (i := 3) 22 (.tmp 2) 58 22 ⟨gx0q12b1, 0, none⟩ (.slice Ax2v0 x2v0.length cx2v0) (by kernel_rfl) (by kernel_rfl) (Fc.here ⟨((p4.mem 2 rfl).cell 0 _ rfl), trivial⟩) (by kernel_rfl) (by kernel_rfl) (fun _ h => h.2.at_ 0 rfl) ?_
      obtain ⟨g25, h⟩ := guard_some h
      refine AnyG.slR (i := 4) 22 (.tmp 58) (some (.const (.int .i64 1))) none 59 22 35 1 (x2v0.length : Int) (fx2v0.ext z4) (by kernel_rfl) (by kernel_rfl) (Fc.here ⟨((p4.mem 2 rfl).cell 0 _ rfl), trivial⟩) (by kernel_rfl) (by kernel_rfl) (by kernel_rfl) (Bnd.at_ .i64 (by kernel_rfl)) Bnd.no (by decide) g25 (Int.le_refl _) ?_
      intro A26 c27 f28
      refine AnyG.pure (i := 5) (.assign (.tmp 57)) 5 35 (.int .u64 (gi x2v0 0)) (by kernel_rfl) (by kernel_rfl) (by kernel_rfl) (Fc.here ⟨((p4.mem 2 rfl).cell 0 _ rfl), trivial⟩) ?_
      refine Op_.st 22 (.tmp 2) (.tmp 59) 0 2 gx0q12b1 0 (.slice A26 (sl x2v0 1 (x2v0.length : Int)).length c27) [.slice A26 (sl x2v0 1 (x2v0.length : Int)).length c27] p4 rfl (AnyG.ss (i := 6) (by kernel_rfl) (by kernel_rfl)) (by kernel_rfl) (by kernel_rfl) (by kernel_rfl) (by kernel_rfl) (Nat.zero_le _) (by simp only [List.length_cons, List.length_nil]; omega) (by simp [Value.oneCell']) ?_
      intro w5 z5 p5
      refine AnyG.last (by decide) ?_
      refine AnyG.done (by kernel_rfl) ?_ _
      exact Goes.jump 73 [(0, yieldV lx0), (1, .pointer (some ⟨gx0q12b0, 0, none⟩)), (2, .pointer (some ⟨gx0q12b1, 0, none⟩)), (4, .int .i64 x4), (5, .int .u64 (gi x2v0 0))] (by kernel_rfl) (ih_post_merge_uint64_1_2_l6 _ _ h _ _ ((hx.trans z4).trans z5) Ax1v0 cx1v0 A26 c27 GeE2v0 ceE2v0 cseE2v0 p5 ((fx1v0.ext z4).ext z5) (f28.ext z5) ((feE2v0.ext z4).ext z5))
  · intro rec_post_merge_uint64_1_2_l7 ih_post_merge_uint64_1_2_l7 ⟨x1v0, x2v0, x4, x5, eE2v0⟩ r h S1 w1 hx Ax1v0 cx1v0 Ax2v0 cx2v0 GeE2v0 ceE2v0 cseE2v0 p1 fx1v0 fx2v0 feE2v0 junk
    dsimp only at h
    refine Goes.runs 7 [(60, .int .i64 x4), (61, .int .i64 (iand .i64 x4 1)), (62, .bool (!(decide (iand .i64 x4 1 = 0))))] [.code (sub [0, 0, 1, 0, 1, 1, 1, 1, 1, 0, 1] B68), .code (sub [0, 0, 1, 0, 1, 1, 1, 1, 1, 1] B68), .inBlock 1, .inLoop (sub [0, 0] B68), .inBlock 0] (by kernel_rfl) ?_
    by_cases h29 : iand .i64 x4 1 = 0
    · rw [if_pos h29] at h
      rw [decide_eq_true h29]
      refine Goes.runs 2 [] [.code (sub [0, 0, 1, 0, 1, 1, 1, 1, 1, 1] B68), .inBlock 1, .inLoop (sub [0, 0] B68), .inBlock 0] (by kernel_rfl) ?_
      exact Goes.jump 73 [(0, yieldV lx0), (1, .pointer (some ⟨gx0q12b0, 0, none⟩)), (2, .pointer (some ⟨gx0q12b1, 0, none⟩)), (4, .int .i64 x4), (5, .int .u64 x5)] (by kernel_rfl) (ih_post_merge_uint64_1_2_l7 _ _ h _ _ hx Ax1v0 cx1v0 Ax2v0 cx2v0 GeE2v0 ceE2v0 cseE2v0 p1 fx1v0 fx2v0 feE2v0)
    · rw [if_neg h29] at h
      rw [decide_eq_false h29]
      refine Goes.runs 1 [] [.code (sub [0, 0, 1, 0, 1, 1, 1, 1, 1, 0, 1, 0] B68), .code (sub [0, 0, 1, 0, 1, 1, 1, 1, 1, 1] B68), .inBlock 1, .inLoop (sub [0, 0] B68), .inBlock 0] (by kernel_rfl) ?_
      have z6 : Ext S1 w1 S1 (w1).drew := Ext.draw
      have p6 := p1.draw
      refine Goes.drawn (s := [6]) (F := Fc S1 (w1).drew [(⟨gx0q12b0, 0, none⟩, .slice Ax1v0 x1v0.length cx1v0)]) 10 7 (by kernel_rfl) (by kernel_rfl) (by kernel_rfl) (by kernel_rfl) ?_
      generalize (w1).drew = w6 at z6 p6 ⊢
      refine AnyG.ld1 (i := 0) 22 (.tmp 1) 63 22 ⟨gx0q12b0, 0, none⟩ (.slice Ax1v0 x1v0.length cx1v0) (by kernel_rfl) (by kernel_rfl) (Fc.here ⟨((p6.mem 1 rfl).cell 0 _ rfl), trivial⟩) (by kernel_rfl) (by kernel_rfl) (fun _ h => h.2.at_ 0 rfl) ?_
      obtain ⟨g30, h⟩ := guard_some h
      refine AnyG.ixR (i := 1) 22 (.tmp 63) (.const (.int .i64 0)) 64 0 35 .i64 0 (fx1v0.ext z6) (by kernel_rfl) (by kernel_rfl) (Fc.here ⟨((p6.mem 1 rfl).cell 0 _ rfl), trivial⟩) (by kernel_rfl) (by kernel_rfl) (by kernel_rfl) (by kernel_rfl) (by decide) g30 ?_
      rintro a31 _ f32 rfl
      refine AnyG.ld1 (i := 2) 35 (.tmp 64) 65 35 a31 (.int .u64 (gi x1v0 0)) (by kernel_rfl) (by kernel_rfl) (Fc.here ⟨((p6.mem 1 rfl).cell 0 _ rfl), trivial⟩) (by kernel_rfl) (by kernel_rfl) (fun _ h => f32.fc h 0 _ rfl) ?_
      refine AnyG.ld1 (i := 3) 22 (.tmp 1) 66 22 ⟨gx0q12b0, 0, none⟩ (.slice Ax1v0 x1v0.length cx1v0) (by kernel_rfl) (by kernel_rfl) (Fc.here ⟨((p6.mem 1 rfl).cell 0 _ rfl), trivial⟩) (by kernel_rfl) (by kernel_rfl) (fun _ h => h.2.at_ 0 rfl) ?_
      obtain ⟨g33, h⟩ := guard_some h
      refine AnyG.slR (i := 4) 22 (.tmp 66) (some (.const (.int .i64 1))) none 67 22 35 1 (x1v0.length : Int) (fx1v0.ext z6) (by kernel_rfl) (by kernel_rfl) (Fc.here ⟨((p6.mem 1 rfl).cell 0 _ rfl), trivial⟩) (by kernel_rfl) (by kernel_rfl) (by kernel_rfl) (Bnd.at_ .i64 (by kernel_rfl)) Bnd.no (by decide) g33 (Int.le_refl _) ?_
      intro A34 c35 f36
      refine AnyG.pure (i := 5) (.assign (.tmp 65)) 5 35 (.int .u64 (gi x1v0 0)) (by kernel_rfl) (by kernel_rfl) (by kernel_rfl) (Fc.here ⟨((p6.mem 1 rfl).cell 0 _ rfl), trivial⟩) ?_
      refine Op_.st 22 (.tmp 1) (.tmp 67) 0 1 gx0q12b0 0 (.slice A34 (sl x1v0 1 (x1v0.length : Int)).length c35) [.slice A34 (sl x1v0 1 (x1v0.length : Int)).length c35] p6 rfl (AnyG.ss (i := 6) (by kernel_rfl) (by kernel_rfl)) (by kernel_rfl) (by kernel_rfl) (by kernel_rfl) (by kernel_rfl) (Nat.zero_le _) (by simp only [List.length_cons, List.length_nil]; omega) (by simp [Value.oneCell']) ?_
      intro w7 z7 p7
      refine AnyG.last (by decide) ?_
      refine AnyG.done (by kernel_rfl) ?_ _
      exact Goes.jump 73 [(0, yieldV lx0), (1, .pointer (some ⟨gx0q12b0, 0, none⟩)), (2, .pointer (some ⟨gx0q12b1, 0, none⟩)), (4, .int .i64 x4), (5, .int .u64 (gi x1v0 0))] (by kernel_rfl) (ih_post_merge_uint64_1_2_l7 _ _ h _ _ ((hx.trans z6).trans z7) A34 c35 Ax2v0 cx2v0 GeE2v0 ceE2v0 cseE2v0 p7 (f36.ext z7) ((fx2v0.ext z6).ext z7) ((feE2v0.ext z6).ext z7))
  · intro rec_post_merge_uint64_1_2_l0 ih_post_merge_uint64_1_2_l0 ⟨x1v0, x2v0, x4, x5, eE2v0⟩ r h S1 w1 hx Ax1v0 cx1v0 Ax2v0 cx2v0 GeE2v0 ceE2v0 cseE2v0 p1 fx1v0 fx2v0 feE2v0 junk
    dsimp only at h
    refine Goes.runs 5 [(68, yieldV lx0), (69, .int .u64 x5), (70, .int .i64 x4)] [.inRegion (opsOf (sub [0, 0, 1, 0, 1, 1, 1, 1, 1, 1, 0] B68)) [3, 4], .code (sub [0, 0, 1, 0, 1, 1, 1, 1, 1, 1, 1] B68), .inBlock 1, .inLoop (sub [0, 0] B68), .inBlock 0] (by kernel_rfl) ?_
    have p1 := p1.front 2 _ rfl
    have p1 := p1.front 2 _ rfl
    have p1 := p1.front 5 _ rfl
    have p1 := p1.front 5 _ rfl
    have p1 := p1.front 5 _ rfl
    have p1 := p1.front 5 _ rfl
    obtain ⟨y37, e38, h⟩ := bind_some h
    try dsimp only at h
    refine Goes.yieldAt (.call { callee := .value (.tmp 68), args := #[(.tmp 69), (.tmp 70)], argTypes := #[35, 3] }) 71 4 0 lx0 #[.int .u64 x5, .int .i64 x4] p1 rfl (by kernel_rfl) rfl (fun _ => by kernel_rfl) rfl (W.post_those_uint64__r_2 eE2v0 x1v0 x2v0 x5 x4 y37 e38 nz wz S1 w1 (Lr) lx0 rx0 jkx0 gx0q5 gx0q7 GeE2v0 ceE2v0 cseE2v0 gx0q12b0 Ax1v0 cx1v0 gx0q12b1 Ax2v0 cx2v0 p1 feE2v0 fx1v0 fx2v0) ?_
    rintro _ w8 ⟨S8, G39, c40, cs41, A45, c46, A48, c49, rfl, z8, p8, f43, f47, f50⟩
    refine Goes.runs 6 [(72, .bool (!true))] [.code (sub [0, 0] B68), .inLoop (sub [0, 0] B68), .inBlock 0] (by kernel_rfl) ?_
    have p8 := p8.front 0 _ rfl
    have p8 := p8.front 3 _ rfl
    have p8 := p8.front 3 _ rfl
    have p8 := p8.front 5 _ rfl
    have p8 := p8.front 5 _ rfl
    have p8 := p8.front 5 _ rfl
    exact Goes.jump 73 [(0, yieldV lx0), (1, .pointer (some ⟨gx0q12b0, 0, none⟩)), (2, .pointer (some ⟨gx0q12b1, 0, none⟩))] (by kernel_rfl) (ih_post_merge_uint64_1_2_l0 _ _ h _ _ (hx.trans z8) A45 c46 A48 c49 G39 c40 cs41 p8 f47 f50 f43)

theorem W.post_merge_uint64_1_2_l0 (nz : Nat) (wz : World) (S0 : Fz) (w0 : World) (Lr : List Ent) (lx0 : Nat) (rx0 : Nat) (jkx0 : Nat → Value) (gx0q5 : Nat) (gx0q7 : Nat) (gx0q12b0 : Nat) (gx0q12b1 : Nat) : ∀ a r, M.post_merge_uint64_1_2_l0 a = some r → L.post_merge_uint64_1_2_l0 nz wz S0 w0 Lr lx0 rx0 jkx0 gx0q5 gx0q7 gx0q12b0 gx0q12b1 a r := (W.post_merge_uint64_1_2_l0_all nz wz S0 w0 Lr lx0 rx0 jkx0 gx0q5 gx0q7 gx0q12b0 gx0q12b1).1

theorem W.post_merge_uint64_1_2_l1 (nz : Nat) (wz : World) (S0 : Fz) (w0 : World) (Lr : List Ent) (lx0 : Nat) (rx0 : Nat) (jkx0 : Nat → Value) (gx0q5 : Nat) (gx0q7 : Nat) (gx0q12b0 : Nat) (gx0q12b1 : Nat) : ∀ a r, M.post_merge_uint64_1_2_l1 a = some r → L.post_merge_uint64_1_2_l1 nz wz S0 w0 Lr lx0 rx0 jkx0 gx0q5 gx0q7 gx0q12b0 gx0q12b1 a r := (W.post_merge_uint64_1_2_l0_all nz wz S0 w0 Lr lx0 rx0 jkx0 gx0q5 gx0q7 gx0q12b0 gx0q12b1).2.1

theorem W.post_merge_uint64_1_2_l2 (nz : Nat) (wz : World) (S0 : Fz) (w0 : World) (Lr : List Ent) (lx0 : Nat) (rx0 : Nat) (jkx0 : Nat → Value) (gx0q5 : Nat) (gx0q7 : Nat) (gx0q12b0 : Nat) (gx0q12b1 : Nat) : ∀ a r, M.post_merge_uint64_1_2_l2 a = some r → L.post_merge_uint64_1_2_l2 nz wz S0 w0 Lr lx0 rx0 jkx0 gx0q5 gx0q7 gx0q12b0 gx0q12b1 a r := (W.post_merge_uint64_1_2_l0_all nz wz S0 w0 Lr lx0 rx0 jkx0 gx0q5 gx0q7 gx0q12b0 gx0q12b1).2.2.1

theorem W.post_merge_uint64_1_2_l3 (nz : Nat) (wz : World) (S0 : Fz) (w0 : World) (Lr : List Ent) (lx0 : Nat) (rx0 : Nat) (jkx0 : Nat → Value) (gx0q5 : Nat) (gx0q7 : Nat) (gx0q12b0 : Nat) (gx0q12b1 : Nat) : ∀ a r, M.post_merge_uint64_1_2_l3 a = some r → L.post_merge_uint64_1_2_l3 nz wz S0 w0 Lr lx0 rx0 jkx0 gx0q5 gx0q7 gx0q12b0 gx0q12b1 a r := (W.post_merge_uint64_1_2_l0_all nz wz S0 w0 Lr lx0 rx0 jkx0 gx0q5 gx0q7 gx0q12b0 gx0q12b1).2.2.2.1

theorem W.post_merge_uint64_1_2_l4 (nz : Nat) (wz : World) (S0 : Fz) (w0 : World) (Lr : List Ent) (lx0 : Nat) (rx0 : Nat) (jkx0 : Nat → Value) (gx0q5 : Nat) (gx0q7 : Nat) (gx0q12b0 : Nat) (gx0q12b1 : Nat) : ∀ a r, M.post_merge_uint64_1_2_l4 a = some r → L.post_merge_uint64_1_2_l4 nz wz S0 w0 Lr lx0 rx0 jkx0 gx0q5 gx0q7 gx0q12b0 gx0q12b1 a r := (W.post_merge_uint64_1_2_l0_all nz wz S0 w0 Lr lx0 rx0 jkx0 gx0q5 gx0q7 gx0q12b0 gx0q12b1).2.2.2.2.1

theorem W.post_merge_uint64_1_2_l5 (nz : Nat) (wz : World) (S0 : Fz) (w0 : World) (Lr : List Ent) (lx0 : Nat) (rx0 : Nat) (jkx0 : Nat → Value) (gx0q5 : Nat) (gx0q7 : Nat) (gx0q12b0 : Nat) (gx0q12b1 : Nat) : ∀ a r, M.post_merge_uint64_1_2_l5 a = some r → L.post_merge_uint64_1_2_l5 nz wz S0 w0 Lr lx0 rx0 jkx0 gx0q5 gx0q7 gx0q12b0 gx0q12b1 a r := (W.post_merge_uint64_1_2_l0_all nz wz S0 w0 Lr lx0 rx0 jkx0 gx0q5 gx0q7 gx0q12b0 gx0q12b1).2.2.2.2.2.1

theorem W.post_merge_uint64_1_2_l6 (nz : Nat) (wz : World) (S0 : Fz) (w0 : World) (Lr : List Ent) (lx0 : Nat) (rx0 : Nat) (jkx0 : Nat → Value) (gx0q5 : Nat) (gx0q7 : Nat) (gx0q12b0 : Nat) (gx0q12b1 : Nat) : ∀ a r, M.post_merge_uint64_1_2_l6 a = some r → L.post_merge_uint64_1_2_l6 nz wz S0 w0 Lr lx0 rx0 jkx0 gx0q5 gx0q7 gx0q12b0 gx0q12b1 a r := (W.post_merge_uint64_1_2_l0_all nz wz S0 w0 Lr lx0 rx0 jkx0 gx0q5 gx0q7 gx0q12b0 gx0q12b1).2.2.2.2.2.2.1

theorem W.post_merge_uint64_1_2_l7 (nz : Nat) (wz : World) (S0 : Fz) (w0 : World) (Lr : List Ent) (lx0 : Nat) (rx0 : Nat) (jkx0 : Nat → Value) (gx0q5 : Nat) (gx0q7 : Nat) (gx0q12b0 : Nat) (gx0q12b1 : Nat) : ∀ a r, M.post_merge_uint64_1_2_l7 a = some r → L.post_merge_uint64_1_2_l7 nz wz S0 w0 Lr lx0 rx0 jkx0 gx0q5 gx0q7 gx0q12b0 gx0q12b1 a r := (W.post_merge_uint64_1_2_l0_all nz wz S0 w0 Lr lx0 rx0 jkx0 gx0q5 gx0q7 gx0q12b0 gx0q12b1).2.2.2.2.2.2.2

theorem W.post_merge_uint64_1_2 (x0q7v0 : List Int) (x0q12b0v0 : List Int) (x0q12b1v0 : List Int) (r : (List Int) × (List Int) × (List Int)) (h : M.post_merge_uint64_1_2 x0q7v0 x0q12b0v0 x0q12b1v0 = some r) (nz : Nat) (wz : World) (S0 : Fz) (w0 : World) (Lr : List Ent) (lx0 : Nat) (rx0 : Nat) (jkx0 : Nat → Value) (gx0q5 : Nat) (gx0q7 : Nat) (Gx0q7v0 : Option Nat) (cx0q7v0 : Nat) (csx0q7v0 : List Value) (gx0q12b0 : Nat) (Ax0q12b0v0 : Option Addr) (cx0q12b0v0 : Nat) (gx0q12b1 : Nat) (Ax0q12b1v0 : Option Addr) (cx0q12b1v0 : Nat) (p0 : Hp nz wz S0 w0 ((some lx0, .obj (lpst 58 (lfr 23 [(5, .pointer (some ⟨gx0q5, 0, none⟩)), (7, .pointer (some ⟨gx0q7, 0, none⟩)), (12, .func (.func 68) #[] #[.pointer (some ⟨gx0q12b0, 0, none⟩), .pointer (some ⟨gx0q12b1, 0, none⟩)])] jkx0) #[13, 14] (rfAssign (sub [1, 1, 0, 1, 0] B58)) (rfBody (sub [1, 1, 0, 1, 0] B58)) rx0 .ready none)) :: (some gx0q5, .row 72 [.func (.func 47) #[] #[]] 1 0) :: (some gx0q7, .row 22 [.slice (Gp Gx0q7v0) x0q7v0.length cx0q7v0] 1 0) :: (Gx0q7v0, .row 35 csx0q7v0 (cx0q7v0 * (kInt .u64).size) 0) :: (some gx0q12b0, .row 22 [.slice Ax0q12b0v0 x0q12b0v0.length cx0q12b0v0] 1 0) :: (some gx0q12b1, .row 22 [.slice Ax0q12b1v0 x0q12b1v0.length cx0q12b1v0] 1 0) :: Lr)) (fx0q7v0 : Els (kInt .u64) S0 w0 csx0q7v0 x0q7v0) (fx0q12b0v0 : Rd (kInt .u64) S0 w0 Ax0q12b0v0 cx0q12b0v0 x0q12b0v0) (fx0q12b1v0 : Rd (kInt .u64) S0 w0 Ax0q12b1v0 cx0q12b1v0 x0q12b1v0) :
    Calls Try.prog 68 #[yieldV lx0, .pointer (some ⟨gx0q12b0, 0, none⟩), .pointer (some ⟨gx0q12b1, 0, none⟩)] w0 (Rets (Post.post_merge_uint64_1_2 nz wz S0 w0 Lr lx0 rx0 jkx0 gx0q5 gx0q7 gx0q12b0 gx0q12b1 r)) := by
  refine calls_of_goes (fn := Try.f68) (c := B68) (by kernel_rfl) (by kernel_rfl) 70 (by kernel_rfl) ?_
  refine Goes.jump 73 [(0, yieldV lx0), (1, .pointer (some ⟨gx0q12b0, 0, none⟩)), (2, .pointer (some ⟨gx0q12b1, 0, none⟩))] (by kernel_rfl) (fun junk => ?_)
  delta M.post_merge_uint64_1_2 at h
  refine Goes.runs 2 [] [.code (sub [0, 0] B68), .inLoop (sub [0, 0] B68), .inBlock 0] (by kernel_rfl) ?_
  have p0 := p0.front 3 _ rfl
  have p0 := p0.front 3 _ rfl
  have p0 := p0.front 3 _ rfl
  have p0 := p0.front 5 _ rfl
  have p0 := p0.front 5 _ rfl
  have p0 := p0.front 5 _ rfl
  exact Goes.jump 73 [(0, yieldV lx0), (1, .pointer (some ⟨gx0q12b0, 0, none⟩)), (2, .pointer (some ⟨gx0q12b1, 0, none⟩))] (by kernel_rfl) (W.post_merge_uint64_1_2_l0 nz wz S0 w0 Lr lx0 rx0 jkx0 gx0q5 gx0q7 gx0q12b0 gx0q12b1 _ _ h _ _ (Ext.refl S0 w0) Ax0q12b0v0 cx0q12b0v0 Ax0q12b1v0 cx0q12b1v0 Gx0q7v0 cx0q7v0 csx0q7v0 p0 fx0q12b0v0 fx0q12b1v0 fx0q7v0)

/-! tidepole/post.those[uint64] -/
def Post.post_those_uint64_2 (nz : Nat) (wz : World) (S0 : Fz) (w0 : World) (Lr : List Ent) (r : List Int) (v : Value) (w' : World) : Prop :=
  ∃ (S' : Fz) (G1 : Option Nat) (c2 : Nat) (cs3 : List Value), v = .slice (Gp G1) r.length c2 ∧ Ext S0 w0 S' w' ∧ Hp nz wz S' w' ((G1, .row 35 cs3 (c2 * (kInt .u64).size) 0) :: Lr) ∧ Els (kInt .u64) S' w' cs3 r

theorem W.post_those_uint64_2 (x0 : List Int) (x1 : List Int) (r : List Int) (h : M.post_those_uint64_2 x0 x1 = some r) (nz : Nat) (wz : World) (S0 : Fz) (w0 : World) (Lr : List Ent) (Ax0 : Option Addr) (cx0 : Nat) (Ax1 : Option Addr) (cx1 : Nat) (p0 : Hp nz wz S0 w0 (Lr)) (fx0 : Rd (kInt .u64) S0 w0 Ax0 cx0 x0) (fx1 : Rd (kInt .u64) S0 w0 Ax1 cx1 x1) :
    Calls Try.prog 58 #[.slice Ax0 x0.length cx0, .slice Ax1 x1.length cx1, .func (.func 47) #[] #[]] w0 (Rets (Post.post_those_uint64_2 nz wz S0 w0 Lr r)) := by
  refine calls_of_goes (fn := Try.f58) (c := B58) (by kernel_rfl) (by kernel_rfl) 20 (by kernel_rfl) ?_
  refine Goes.jump 23 [(0, .slice Ax0 x0.length cx0), (1, .slice Ax1 x1.length cx1), (2, .func (.func 47) #[] #[])] (by kernel_rfl) (fun junk => ?_)
  delta M.post_those_uint64_2 at h
  refine Goes.runs 2 [] [.inRegion (opsOf (sub [0] B58)) [0, 1], .code (sub [1] B58)] (by kernel_rfl) ?_
  refine Op_.box 72 (.tmp 2) 5 0 (.func (.func 47) #[] #[]) [.func (.func 47) #[] #[]] p0 (Goes.vs (by kernel_rfl)) (by kernel_rfl) (by kernel_rfl) ?_
  intro b1 w2 z2 p2
  refine Goes.runs 4 [(6, .slice none 0 0)] [.inRegion (opsOf (sub [1, 0] B58)) [0], .code (sub [1, 1] B58)] (by kernel_rfl) ?_
  refine Op_.alloc 22 7 0 (.slice none 0 0) [.slice none 0 0] p2 (Goes.vs (by kernel_rfl)) (by kernel_rfl) (by kernel_rfl) ?_
  intro b3 w3 z3 p3
  refine Goes.runs 6 [(10, .slice Ax0 x0.length cx0), (11, .slice Ax1 x1.length cx1)] [.inRegion (opsOf (sub [1, 1, 0, 0] B58)) [2], .code (sub [1, 1, 0, 1] B58), .code (sub [1, 1, 1] B58)] (by kernel_rfl) ?_
  obtain ⟨y5, e6, h⟩ := bind_some h
  try dsimp only at h
  refine Op_.call (.call { callee := .value (.func 63), args := #[(.tmp 10), (.tmp 11)], argTypes := #[22, 22] }) 12 88 63 #[.slice Ax0 x0.length cx0, .slice Ax1 x1.length cx1] (Goes.cs (by kernel_rfl)) (by kernel_rfl) (W.post_merge_uint64 x0 x1 y5 e6 nz wz S0 w3 ((some b3, .row 22 [.slice none 0 0] 1 0) :: (some b1, .row 72 [.func (.func 47) #[] #[]] 1 0) :: Lr) Ax0 cx0 Ax1 cx1 p3 ((fx0.ext z2).ext z3) ((fx1.ext z2).ext z3)) ?_
  rintro _ w4 ⟨S4, b8, A9, c10, b13, A14, c15, rfl, z4, p4, f11, f16⟩
  refine Goes.runs 2 [] [.code (sub [1, 1, 0, 1, 0] B58), .inBlock 0, .code (sub [1, 1, 1] B58)] (by kernel_rfl) ?_
  refine Goes.jump 23 [(5, .pointer (some ⟨b1, 0, none⟩)), (7, .pointer (some ⟨b3, 0, none⟩)), (12, .func (.func 68) #[] #[.pointer (some ⟨b8, 0, none⟩), .pointer (some ⟨b13, 0, none⟩)])] (by kernel_rfl) (fun junk17 => ?_)
  refine Goes.rangeF (f := 58) (.tmp 12) #[13, 14] 68 #[] #[.pointer (some ⟨b8, 0, none⟩), .pointer (some ⟨b13, 0, none⟩)] (by kernel_rfl) (by kernel_rfl) (fun _ => by kernel_rfl) p4 ?_
  intro r18 l19 w5 z5 p5
  have p5 : Hp nz wz S4 w5 ((none, .row 35 [] (0 * (kInt .u64).size) 0) :: (some l19, .obj (lpst 58 (lfr 23 [(5, .pointer (some ⟨b1, 0, none⟩)), (7, .pointer (some ⟨b3, 0, none⟩)), (12, .func (.func 68) #[] #[.pointer (some ⟨b8, 0, none⟩), .pointer (some ⟨b13, 0, none⟩)])] junk17) #[13, 14] (rfAssign (sub [1, 1, 0, 1, 0] B58)) (rfBody (sub [1, 1, 0, 1, 0] B58)) r18 .ready none)) :: (some r18, .obj (.deferred (some []))) :: (some b8, .row 22 [.slice A9 y5.1.length c10] 1 0) :: (some b13, .row 22 [.slice A14 y5.2.length c15] 1 0) :: (some b3, .row 22 [.slice none 0 0] 1 0) :: (some b1, .row 72 [.func (.func 47) #[] #[]] 1 0) :: Lr) := p5.nilRow' 35
  have p5 := p5.front 4 _ rfl
  have p5 := p5.front 4 _ rfl
  have p5 := p5.front 2 _ rfl
  have p5 := p5.front 5 _ rfl
  have p5 := p5.front 6 _ rfl
  have p5 := p5.front 5 _ rfl
  obtain ⟨y23, e24, h⟩ := bind_some h
  try dsimp only at h
  refine ⟨_, W.post_merge_uint64_1_2 ([] : List Int) y5.1 y5.2 y23 e24 nz wz S4 w5 ((some r18, .obj (.deferred (some []))) :: Lr) l19 r18 junk17 b1 b3 none 0 [] b8 A9 c10 b13 A14 c15 p5 (Els.nil : Els (kInt .u64) S4 w5 [] []) (f11.ext z5) (f16.ext z5), ?_⟩
  rintro _ w6 ⟨S6, G25, c26, cs27, A31, c32, A34, c35, rfl, z6, p6, f29, f33, f36⟩
  refine Goes.endF 1 p6 rfl rfl ?_
  intro w7 z7 p7
  replace p7 : Hp nz wz S6 w7 ((G25, .row 35 cs27 (c26 * (kInt .u64).size) 0) :: (some b1, .row 72 [.func (.func 47) #[] #[]] 1 0) :: (some b3, .row 22 [.slice (Gp G25) y23.1.length c26] 1 0) :: (some b8, .row 22 [.slice A31 y23.2.1.length c32] 1 0) :: (some b13, .row 22 [.slice A34 y23.2.2.length c35] 1 0) :: (some r18, .obj (.deferred (some []))) :: Lr) := (p7.front 1 _ rfl).drop
  show Goes _ _ [.inBlock 0, .code (sub [1, 1, 1] B58)] _ _ _
  refine Goes.runs 3 [] [.inRegion (opsOf (sub [1, 1, 1, 0] B58)) [0, 1], .code (sub [1, 1, 1, 1] B58)] (by kernel_rfl) ?_
  refine Op_.ld1 22 (.tmp 7) 22 22 ⟨b3, 0, none⟩ (.slice (Gp G25) y23.1.length c26) (Goes.vs (by kernel_rfl)) (by kernel_rfl) (by kernel_rfl) ((p7.mem 2 rfl).cell 0 _ rfl) ?_
  refine Goes.runs 2 [(6, .slice (Gp G25) y23.1.length c26)] [.code (sub [1, 1, 1, 1] B58)] (by kernel_rfl) ?_
  have p7 := (p7.front 1 _ rfl).drop
  have p7 := (p7.front 1 _ rfl).drop
  have p7 := (p7.front 1 _ rfl).drop
  have p7 := (p7.front 1 _ rfl).drop
  have p7 := p7.front 0 _ rfl
  have p7 := p7.front 1 _ rfl
  obtain rfl := Option.some.inj h
  refine Goes.retL ?_
  refine lvs_mark 0 rfl rfl p7 rfl ?_
  intro w8 z8 p8
  replace p8 : Hp nz wz S6 w8 ((G25, .row 35 cs27 (c26 * (kInt .u64).size) 0) :: Lr) := p8.drop
  exact lvs_done (fn := Try.f58) rfl rfl rfl rfl (by kernel_rfl) (v := .slice (Gp G25) y23.1.length c26) (by kernel_rfl) ⟨S6, G25, c26, cs27, rfl, ((((((((Ext.refl S0 w0).trans z2).trans z3).trans z4).trans z5).trans z6).trans z7).trans z8), p8, ((f29.ext z7).ext z8)⟩

/-! tidepole/post.fold -/
def Post.post_fold_2 (nz : Nat) (wz : World) (S0 : Fz) (w0 : World) (Lr : List Ent) (r : (List Int) × Int) (v : Value) (w' : World) : Prop :=
  ∃ (S' : Fz) (G1 : Option Nat) (c2 : Nat) (cs3 : List Value), v = .tuple #[.slice (Gp G1) r.1.length c2, .int .i64 r.2] ∧ Ext S0 w0 S' w' ∧ Hp nz wz S' w' ((G1, .row 35 cs3 (c2 * (kInt .u64).size) 0) :: Lr) ∧ Els (kInt .u64) S' w' cs3 r.1

def L.post_fold_2_l1 (nz : Nat) (wz : World) (S0 : Fz) (w0 : World) (Lr : List Ent) : List Int × List (List Int) × Int × Int → ((List Int) × Int) → Prop := fun ⟨x9, x35, x36, x37⟩ r => ∀ S1 w1, Ext S0 w0 S1 w1 → ∀ (Gx9 : Option Nat) (cx9 : Nat) (csx9 : List Value) (Ax35 : Option Addr) (cx35 : Nat) (_ : Hp nz wz S1 w1 ((Gx9, .row 35 csx9 (cx9 * (kInt .u64).size) 0) :: Lr)) (_ : Els (kInt .u64) S1 w1 csx9 x9) (_ : Rd (kSl (kInt .u64)) S1 w1 Ax35 cx35 x35) (junk : Nat → Value),
  Goes Try.prog (base 43) [.code (sub [1, 1, 1, 1, 1, 0, 1, 0, 0] B43), .inLoop (sub [1, 1, 1, 1, 1, 0, 1, 0, 0] B43), .inBlock 2, .code (sub [1, 1, 1, 1, 1, 1] B43)] ⟨lfr 47 [(1, .func (.func 47) #[] #[]), (9, .slice (Gp Gx9) x9.length cx9), (35, .slice Ax35 x35.length cx35), (36, .int .i64 x36), (37, .int .i64 x37)] junk, []⟩ w1 (Done Try.prog 43 (Rets (Post.post_fold_2 nz wz S0 w0 Lr r)))

theorem W.post_fold_2_l1 (nz : Nat) (wz : World) (S0 : Fz) (w0 : World) (Lr : List Ent) : ∀ a r, M.post_fold_2_l1 a = some r → L.post_fold_2_l1 nz wz S0 w0 Lr a r := by
  refine M.post_fold_2_l1.partial_correctness (motive := L.post_fold_2_l1 nz wz S0 w0 Lr) ?_
  intro rec_post_fold_2_l1 ih_post_fold_2_l1 ⟨x9, x35, x36, x37⟩ r h S1 w1 hx Gx9 cx9 csx9 Ax35 cx35 p1 fx9 fx35 junk
  dsimp only at h
  refine Goes.runs 5 [(38, .bool (decide (x37 < x36)))] [.code (sub [1, 1, 1, 1, 1, 0, 1, 0, 0, 1, 0] B43), .code (sub [1, 1, 1, 1, 1, 0, 1, 0, 0, 1, 1] B43), .inLoop (sub [1, 1, 1, 1, 1, 0, 1, 0, 0] B43), .inBlock 2, .code (sub [1, 1, 1, 1, 1, 1] B43)] (by kernel_rfl) ?_
  by_cases h35 : x37 < x36
  · rw [if_pos h35] at h
    rw [decide_eq_true h35]
    refine Goes.runs 6 [] [.inRegion (opsOf (sub [1, 1, 1, 1, 1, 0, 1, 0, 0, 1, 1, 0, 0, 0] B43)) [0, 1, 2], .code (sub [1, 1, 1, 1, 1, 0, 1, 0, 0, 1, 1, 0, 0, 1] B43), .inBlock 3, .code (sub [1, 1, 1, 1, 1, 0, 1, 0, 0, 1, 1, 1] B43), .inLoop (sub [1, 1, 1, 1, 1, 0, 1, 0, 0] B43), .inBlock 2, .code (sub [1, 1, 1, 1, 1, 1] B43)] (by kernel_rfl) ?_
    obtain ⟨g36, h⟩ := guard_some h
    obtain ⟨g37, h⟩ := guard_some h
    refine Op_.ixR 38 (.tmp 35) (.tmp 37) 39 0 22 .i64 x37 fx35 (Goes.vs (by kernel_rfl)) (by kernel_rfl) (by kernel_rfl) (by kernel_rfl) (by kernel_rfl) g36 g37 ?_
    rintro a38 _ f39 ⟨A40, c41, rfl, f42⟩
    refine Op_.ld1 22 (.tmp 39) 40 22 a38 (.slice A40 (gi x35 x37).length c41) (Goes.vs (by kernel_rfl)) (by kernel_rfl) (by kernel_rfl) (f39.cell 0 _ rfl) ?_
    refine Goes.runs 6 [(11, .slice A40 (gi x35 x37).length c41), (41, .slice (Gp Gx9) x9.length cx9), (42, .slice A40 (gi x35 x37).length c41), (43, .func (.func 47) #[] #[])] [.inRegion (opsOf (sub [1, 1, 1, 1, 1, 0, 1, 0, 0, 1, 1, 0, 0, 1] B43)) [3, 4], .inBlock 3, .code (sub [1, 1, 1, 1, 1, 0, 1, 0, 0, 1, 1, 1] B43), .inLoop (sub [1, 1, 1, 1, 1, 0, 1, 0, 0] B43), .inBlock 2, .code (sub [1, 1, 1, 1, 1, 1] B43)] (by kernel_rfl) ?_
    obtain ⟨S4, z4, p4, f43⟩ := p1.freezeRd 0 rfl fx9 (by decide)
    obtain ⟨y44, e45, h⟩ := bind_some h
    try dsimp only at h
    refine Op_.call (.call { callee := .value (.func 58), args := #[(.tmp 41), (.tmp 42), (.tmp 43)], argTypes := #[22, 22, 72] }) 44 22 58 #[.slice (Gp Gx9) x9.length cx9, .slice A40 (gi x35 x37).length c41, .func (.func 47) #[] #[]] (Goes.cs (by kernel_rfl)) (by kernel_rfl) (W.post_those_uint64_2 x9 (gi x35 x37) y44 e45 nz wz S4 w1 ((Gx9, .row 35 csx9 (cx9 * (kInt .u64).size) csx9.length) :: Lr) (Gp Gx9) cx9 A40 c41 p4 f43 (f42.ext z4)) ?_
    rintro _ w5 ⟨S5, G46, c47, cs48, rfl, z5, p5, f50⟩
    have p5 := (p5.front 1 _ rfl).drop
    refine Goes.runs 8 [(9, .slice (Gp G46) y44.length c47), (45, .int .i64 (wr .i64 (x37 + 1))), (37, .int .i64 (wr .i64 (x37 + 1)))] [.code (sub [1, 1, 1, 1, 1, 0, 1, 0, 0] B43), .inLoop (sub [1, 1, 1, 1, 1, 0, 1, 0, 0] B43), .inBlock 2, .code (sub [1, 1, 1, 1, 1, 1] B43)] (by kernel_rfl) ?_
    exact Goes.jump 47 [(1, .func (.func 47) #[] #[]), (9, .slice (Gp G46) y44.length c47), (35, .slice Ax35 x35.length cx35), (36, .int .i64 x36), (37, .int .i64 (wr .i64 (x37 + 1)))] (by kernel_rfl) (ih_post_fold_2_l1 _ _ h _ _ ((hx.trans z4).trans z5) G46 c47 cs48 Ax35 cx35 p5 f50 ((fx35.ext z4).ext z5))
  · rw [if_neg h35] at h
    rw [decide_eq_false h35]
    refine Goes.runs 8 [(46, .slice (Gp Gx9) x9.length cx9), (4, .slice (Gp Gx9) x9.length cx9), (5, .int .i64 0)] [.code (sub [1, 1, 1, 1, 1, 1, 1] B43)] (by kernel_rfl) ?_
    obtain rfl := Option.some.inj h
    exact Goes.ret (fn := Try.f43) (by kernel_rfl) (v := .tuple #[.slice (Gp Gx9) x9.length cx9, .int .i64 0]) (by kernel_rfl) ⟨S1, Gx9, cx9, csx9, rfl, hx, p1, fx9⟩

def L.post_fold_2_l0 (nz : Nat) (wz : World) (S0 : Fz) (w0 : World) (Lr : List Ent) : List (List Int) × List (List Int) × Int × Int → ((List Int) × Int) → Prop := fun ⟨x0, x15, x16, x17⟩ r => ∀ S1 w1, Ext S0 w0 S1 w1 → ∀ (Ax0 : Option Addr) (cx0 : Nat) (Ax15 : Option Addr) (cx15 : Nat) (_ : Hp nz wz S1 w1 (Lr)) (_ : Rd (kSl (kInt .u64)) S1 w1 Ax0 cx0 x0) (_ : Rd (kSl (kInt .u64)) S1 w1 Ax15 cx15 x15) (junk : Nat → Value),
  Goes Try.prog (base 43) [.code (sub [1, 1, 0, 1, 0, 0] B43), .inLoop (sub [1, 1, 0, 1, 0, 0] B43), .inBlock 0, .code (sub [1, 1, 1] B43)] ⟨lfr 47 [(0, .slice Ax0 x0.length cx0), (1, .func (.func 47) #[] #[]), (15, .slice Ax15 x15.length cx15), (16, .int .i64 x16), (17, .int .i64 x17)] junk, []⟩ w1 (Done Try.prog 43 (Rets (Post.post_fold_2 nz wz S0 w0 Lr r)))

theorem W.post_fold_2_l0 (nz : Nat) (wz : World) (S0 : Fz) (w0 : World) (Lr : List Ent) : ∀ a r, M.post_fold_2_l0 a = some r → L.post_fold_2_l0 nz wz S0 w0 Lr a r := by
  refine M.post_fold_2_l0.partial_correctness (motive := L.post_fold_2_l0 nz wz S0 w0 Lr) ?_
  intro rec_post_fold_2_l0 ih_post_fold_2_l0 ⟨x0, x15, x16, x17⟩ r h S1 w1 hx Ax0 cx0 Ax15 cx15 p1 fx0 fx15 junk
  dsimp only at h
  refine Goes.runs 5 [(18, .bool (decide (x17 < x16)))] [.code (sub [1, 1, 0, 1, 0, 0, 1, 0] B43), .code (sub [1, 1, 0, 1, 0, 0, 1, 1] B43), .inLoop (sub [1, 1, 0, 1, 0, 0] B43), .inBlock 0, .code (sub [1, 1, 1] B43)] (by kernel_rfl) ?_
  by_cases h3 : x17 < x16
  · rw [if_pos h3] at h
    rw [decide_eq_true h3]
    refine Goes.runs 6 [] [.inRegion (opsOf (sub [1, 1, 0, 1, 0, 0, 1, 1, 0, 0, 0] B43)) [0, 1, 2], .code (sub [1, 1, 0, 1, 0, 0, 1, 1, 0, 0, 1] B43), .inBlock 1, .code (sub [1, 1, 0, 1, 0, 0, 1, 1, 1] B43), .inLoop (sub [1, 1, 0, 1, 0, 0] B43), .inBlock 0, .code (sub [1, 1, 1] B43)] (by kernel_rfl) ?_
    obtain ⟨g4, h⟩ := guard_some h
    obtain ⟨g5, h⟩ := guard_some h
    refine Op_.ixR 38 (.tmp 15) (.tmp 17) 19 0 22 .i64 x17 fx15 (Goes.vs (by kernel_rfl)) (by kernel_rfl) (by kernel_rfl) (by kernel_rfl) (by kernel_rfl) g4 g5 ?_
    rintro a6 _ f7 ⟨A8, c9, rfl, f10⟩
    refine Op_.ld1 22 (.tmp 19) 20 22 a6 (.slice A8 (gi x15 x17).length c9) (Goes.vs (by kernel_rfl)) (by kernel_rfl) (by kernel_rfl) (f7.cell 0 _ rfl) ?_
    refine Goes.runs 5 [(7, .slice A8 (gi x15 x17).length c9), (21, .slice A8 (gi x15 x17).length c9)] [.inRegion (opsOf (sub [1, 1, 0, 1, 0, 0, 1, 1, 0, 0, 1, 0] B43)) [1, 2], .code (sub [1, 1, 0, 1, 0, 0, 1, 1, 0, 0, 1, 1] B43), .inBlock 1, .code (sub [1, 1, 0, 1, 0, 0, 1, 1, 1] B43), .inLoop (sub [1, 1, 0, 1, 0, 0] B43), .inBlock 0, .code (sub [1, 1, 1] B43)] (by kernel_rfl) ?_
    obtain ⟨y11, e12, h⟩ := bind_some h
    try dsimp only at h
    refine Op_.call (.call { callee := .value (.func 23), args := #[(.tmp 21)], argTypes := #[22] }) 22 25 23 #[.slice A8 (gi x15 x17).length c9] (Goes.cs (by kernel_rfl)) (by kernel_rfl) (W.post_Check (gi x15 x17) y11 e12 nz wz S1 w1 (Lr) A8 c9 p1 f10) ?_
    rintro _ w2 ⟨S2, rfl, z2, p2⟩
    refine Goes.runs 7 [(8, .int .i64 y11), (23, .int .i64 y11), (24, .bool (!(decide (y11 = 0))))] [.code (sub [1, 1, 0, 1, 0, 0, 1, 1, 0, 0, 1, 1, 1] B43), .inBlock 1, .code (sub [1, 1, 0, 1, 0, 0, 1, 1, 1] B43), .inLoop (sub [1, 1, 0, 1, 0, 0] B43), .inBlock 0, .code (sub [1, 1, 1] B43)] (by kernel_rfl) ?_
    by_cases h13 : y11 = 0
    · rw [if_pos h13] at h
      rw [decide_eq_true h13]
      refine Goes.runs 8 [(26, .int .i64 (wr .i64 (x17 + 1))), (17, .int .i64 (wr .i64 (x17 + 1)))] [.code (sub [1, 1, 0, 1, 0, 0] B43), .inLoop (sub [1, 1, 0, 1, 0, 0] B43), .inBlock 0, .code (sub [1, 1, 1] B43)] (by kernel_rfl) ?_
      exact Goes.jump 47 [(0, .slice Ax0 x0.length cx0), (1, .func (.func 47) #[] #[]), (15, .slice Ax15 x15.length cx15), (16, .int .i64 x16), (17, .int .i64 (wr .i64 (x17 + 1)))] (by kernel_rfl) (ih_post_fold_2_l0 _ _ h _ _ (hx.trans z2) Ax0 cx0 Ax15 cx15 p2 (fx0.ext z2) (fx15.ext z2))
    · rw [if_neg h13] at h
      rw [decide_eq_false h13]
      refine Goes.runs 7 [(25, .int .i64 y11), (4, .slice none 0 0), (5, .int .i64 y11)] [.code (sub [1, 1, 0, 1, 0, 0, 1, 1, 0, 0, 1, 1, 1, 0, 1] B43), .inBlock 1, .code (sub [1, 1, 0, 1, 0, 0, 1, 1, 1] B43), .inLoop (sub [1, 1, 0, 1, 0, 0] B43), .inBlock 0, .code (sub [1, 1, 1] B43)] (by kernel_rfl) ?_
      have p2 : Hp nz wz S2 w2 ((none, .row 35 [] (0 * (kInt .u64).size) 0) :: Lr) := p2.nilRow' 35
      obtain rfl := Option.some.inj h
      exact Goes.ret (fn := Try.f43) (by kernel_rfl) (v := .tuple #[.slice (Gp none) ([] : List Int).length 0, .int .i64 y11]) (by kernel_rfl) ⟨S2, none, 0, [], rfl, (hx.trans z2), p2, (Els.nil : Els (kInt .u64) S2 w2 [] [])⟩
  · rw [if_neg h3] at h
    rw [decide_eq_false h3]
    refine Goes.runs 9 [(27, .slice Ax0 x0.length cx0), (28, .int .i64 (x0.length : Int)), (29, .bool (decide ((x0.length : Int) = 0)))] [.code (sub [1, 1, 1, 0, 1] B43), .code (sub [1, 1, 1, 1] B43)] (by kernel_rfl) ?_
    by_cases h15 : (x0.length : Int) = 0
    · rw [if_pos h15] at h
      rw [decide_eq_true h15]
      refine Goes.runs 6 [(4, .slice none 0 0), (5, .int .i64 0)] [.code (sub [1, 1, 1, 0, 1, 0, 1] B43), .code (sub [1, 1, 1, 1] B43)] (by kernel_rfl) ?_
      have p1 : Hp nz wz S1 w1 ((none, .row 35 [] (0 * (kInt .u64).size) 0) :: Lr) := p1.nilRow' 35
      obtain rfl := Option.some.inj h
      exact Goes.ret (fn := Try.f43) (by kernel_rfl) (v := .tuple #[.slice (Gp none) ([] : List Int).length 0, .int .i64 0]) (by kernel_rfl) ⟨S1, none, 0, [], rfl, hx, p1, (Els.nil : Els (kInt .u64) S1 w1 [] [])⟩
    · rw [if_neg h15] at h
      rw [decide_eq_false h15]
      refine Goes.runs 5 [(30, .slice Ax0 x0.length cx0)] [.inRegion (opsOf (sub [1, 1, 1, 1, 0] B43)) [1, 2, 3, 4], .code (sub [1, 1, 1, 1, 1] B43)] (by kernel_rfl) ?_
      obtain ⟨g17, h⟩ := guard_some h
      refine Op_.ixR 38 (.tmp 30) (.const (.int .i64 0)) 31 0 22 .i64 0 fx0 (Goes.vs (by kernel_rfl)) (by kernel_rfl) (by kernel_rfl) (by kernel_rfl) (by kernel_rfl) (by decide) g17 ?_
      rintro a18 _ f19 ⟨A20, c21, rfl, f22⟩
      refine Op_.ld1 22 (.tmp 31) 32 22 a18 (.slice A20 (gi x0 0).length c21) (Goes.vs (by kernel_rfl)) (by kernel_rfl) (by kernel_rfl) (f19.cell 0 _ rfl) ?_
      obtain ⟨y23, e24, h⟩ := bind_some h
      try dsimp only at h
      refine Op_.call (.call { callee := .value (.func 55), args := #[(.tmp 32)], argTypes := #[22] }) 33 22 55 #[.slice A20 (gi x0 0).length c21] (Goes.cs (by kernel_rfl)) (by kernel_rfl) (W.slices_Clone_uint64_uint64 (gi x0 0) y23 e24 nz wz S1 w1 (Lr) A20 c21 p1 f22) ?_
      rintro _ w3 ⟨S3, G25, c26, cs27, rfl, z3, p3, f29⟩
      refine Goes.runs 6 [(9, .slice (Gp G25) y23.length c26), (34, .slice Ax0 x0.length cx0)] [.inRegion (opsOf (sub [1, 1, 1, 1, 1, 0, 0] B43)) [1, 2, 3], .code (sub [1, 1, 1, 1, 1, 0, 1] B43), .code (sub [1, 1, 1, 1, 1, 1] B43)] (by kernel_rfl) ?_
      obtain ⟨g31, h⟩ := guard_some h
      refine Op_.slR 38 (.tmp 34) (some (.const (.int .i64 1))) none 35 38 22 1 (x0.length : Int) (fx0.ext z3) (Goes.vs (by kernel_rfl)) (by kernel_rfl) (by kernel_rfl) (by kernel_rfl) (Bnd.at_ .i64 (by kernel_rfl)) Bnd.no (by decide) g31 (Int.le_refl _) ?_
      intro A32 c33 f34
      refine Goes.runs 5 [(36, .int .i64 ((sl x0 1 (x0.length : Int)).length : Int)), (37, .int .i64 0)] [.code (sub [1, 1, 1, 1, 1, 0, 1, 0, 0] B43), .inLoop (sub [1, 1, 1, 1, 1, 0, 1, 0, 0] B43), .inBlock 2, .code (sub [1, 1, 1, 1, 1, 1] B43)] (by kernel_rfl) ?_
      exact Goes.jump 47 [(1, .func (.func 47) #[] #[]), (9, .slice (Gp G25) y23.length c26), (35, .slice A32 (sl x0 1 (x0.length : Int)).length c33), (36, .int .i64 ((sl x0 1 (x0.length : Int)).length : Int)), (37, .int .i64 0)] (by kernel_rfl) (W.post_fold_2_l1 nz wz S0 w0 Lr _ _ h _ _ (hx.trans z3) G25 c26 cs27 A32 c33 p3 f29 f34)

theorem W.post_fold_2 (x0 : List (List Int)) (r : (List Int) × Int) (h : M.post_fold_2 x0 = some r) (nz : Nat) (wz : World) (S0 : Fz) (w0 : World) (Lr : List Ent) (Ax0 : Option Addr) (cx0 : Nat) (p0 : Hp nz wz S0 w0 (Lr)) (fx0 : Rd (kSl (kInt .u64)) S0 w0 Ax0 cx0 x0) :
    Calls Try.prog 43 #[.slice Ax0 x0.length cx0, .func (.func 47) #[] #[]] w0 (Rets (Post.post_fold_2 nz wz S0 w0 Lr r)) := by
  refine calls_of_goes (fn := Try.f43) (c := B43) (by kernel_rfl) (by kernel_rfl) 45 (by kernel_rfl) ?_
  refine Goes.jump 47 [(0, .slice Ax0 x0.length cx0), (1, .func (.func 47) #[] #[])] (by kernel_rfl) (fun junk => ?_)
  delta M.post_fold_2 at h
  refine Goes.runs 12 [(4, .slice none 0 0), (5, .int .i64 0), (12, .slice Ax0 x0.length cx0), (13, .int .i64 (x0.length : Int)), (14, .bool (decide ((x0.length : Int) > 4096)))] [.code (sub [1, 0, 1] B43), .code (sub [1, 1] B43)] (by kernel_rfl) ?_
  by_cases h1 : (x0.length : Int) > 4096
  · rw [if_pos h1] at h
    rw [decide_eq_true h1]
    refine Goes.runs 6 [(4, .slice none 0 0), (5, .int .i64 3)] [.code (sub [1, 0, 1, 0, 1] B43), .code (sub [1, 1] B43)] (by kernel_rfl) ?_
    have p0 : Hp nz wz S0 w0 ((none, .row 35 [] (0 * (kInt .u64).size) 0) :: Lr) := p0.nilRow' 35
    obtain rfl := Option.some.inj h
    exact Goes.ret (fn := Try.f43) (by kernel_rfl) (v := .tuple #[.slice (Gp none) ([] : List Int).length 0, .int .i64 3]) (by kernel_rfl) ⟨S0, none, 0, [], rfl, (Ext.refl S0 w0), p0, (Els.nil : Els (kInt .u64) S0 w0 [] [])⟩
  · rw [if_neg h1] at h
    rw [decide_eq_false h1]
    refine Goes.runs 11 [(15, .slice Ax0 x0.length cx0), (16, .int .i64 (x0.length : Int)), (17, .int .i64 0)] [.code (sub [1, 1, 0, 1, 0, 0] B43), .inLoop (sub [1, 1, 0, 1, 0, 0] B43), .inBlock 0, .code (sub [1, 1, 1] B43)] (by kernel_rfl) ?_
    exact Goes.jump 47 [(0, .slice Ax0 x0.length cx0), (1, .func (.func 47) #[] #[]), (15, .slice Ax0 x0.length cx0), (16, .int .i64 (x0.length : Int)), (17, .int .i64 0)] (by kernel_rfl) (W.post_fold_2_l0 nz wz S0 w0 Lr _ _ h _ _ (Ext.refl S0 w0) Ax0 cx0 Ax0 cx0 p0 fx0 fx0)

/-! tidepole/post.Or -/
def Post.post_Or (nz : Nat) (wz : World) (S0 : Fz) (w0 : World) (Lr : List Ent) (r : (List Int) × Int) (v : Value) (w' : World) : Prop :=
  ∃ (S' : Fz) (G1 : Option Nat) (c2 : Nat) (cs3 : List Value), v = .tuple #[.slice (Gp G1) r.1.length c2, .int .i64 r.2] ∧ Ext S0 w0 S' w' ∧ Hp nz wz S' w' ((G1, .row 35 cs3 (c2 * (kInt .u64).size) 0) :: Lr) ∧ Els (kInt .u64) S' w' cs3 r.1

theorem W.post_Or (x0 : List (List Int)) (r : (List Int) × Int) (h : M.post_Or x0 = some r) (nz : Nat) (wz : World) (S0 : Fz) (w0 : World) (Lr : List Ent) (Ax0 : Option Addr) (cx0 : Nat) (p0 : Hp nz wz S0 w0 (Lr)) (fx0 : Rd (kSl (kInt .u64)) S0 w0 Ax0 cx0 x0) :
    Calls Try.prog 20 #[.slice Ax0 x0.length cx0] w0 (Rets (Post.post_Or nz wz S0 w0 Lr r)) := by
  refine calls_of_goes (fn := Try.f20) (c := B20) (by kernel_rfl) (by kernel_rfl) 7 (by kernel_rfl) ?_
  refine Goes.jump 8 [(0, .slice Ax0 x0.length cx0)] (by kernel_rfl) (fun junk => ?_)
  delta M.post_Or at h
  refine Goes.runs 8 [(2, .slice none 0 0), (3, .int .i64 0), (4, .slice Ax0 x0.length cx0)] [.inRegion (opsOf (sub [1, 0] B20)) [1, 2, 3, 4, 5], .code (sub [1, 1] B20)] (by kernel_rfl) ?_
  obtain ⟨y1, e2, h⟩ := bind_some h
  try dsimp only at h
  refine Op_.call (.call { callee := .value (.func 43), args := #[(.tmp 4), (.func 47)], argTypes := #[38, 72] }) 5 26 43 #[.slice Ax0 x0.length cx0, .func (.func 47) #[] #[]] (Goes.cs (by kernel_rfl)) (by kernel_rfl) (W.post_fold_2 x0 y1 e2 nz wz S0 w0 (Lr) Ax0 cx0 p0 fx0) ?_
  rintro _ w2 ⟨S2, G3, c4, cs5, rfl, z2, p2, f7⟩
  refine Goes.runs 5 [(6, .slice (Gp G3) y1.1.length c4), (7, .int .i64 y1.2), (2, .slice (Gp G3) y1.1.length c4), (3, .int .i64 y1.2)] [.code (sub [1, 1] B20)] (by kernel_rfl) ?_
  obtain rfl := Option.some.inj h
  exact Goes.ret (fn := Try.f20) (by kernel_rfl) (v := .tuple #[.slice (Gp G3) y1.1.length c4, .int .i64 y1.2]) (by kernel_rfl) ⟨S2, G3, c4, cs5, rfl, ((Ext.refl S0 w0).trans z2), p2, f7⟩

/-! tidepole/post.first -/
def Post.post_first (nz : Nat) (wz : World) (S0 : Fz) (w0 : World) (Lr : List Ent) (r : Bool) (v : Value) (w' : World) : Prop :=
  ∃ (S' : Fz) , v = .bool r ∧ Ext S0 w0 S' w' ∧ Hp nz wz S' w' (Lr)

theorem W.post_first (x0 : Int) (r : Bool) (h : M.post_first x0 = some r) (nz : Nat) (wz : World) (S0 : Fz) (w0 : World) (Lr : List Ent) (p0 : Hp nz wz S0 w0 (Lr)) :
    Calls Try.prog 44 #[.int .i64 x0] w0 (Rets (Post.post_first nz wz S0 w0 Lr r)) := by
  refine calls_of_goes (fn := Try.f44) (c := B44) (by kernel_rfl) (by kernel_rfl) 4 (by kernel_rfl) ?_
  refine Goes.jump 5 [(0, .int .i64 x0)] (by kernel_rfl) (fun junk => ?_)
  delta M.post_first at h
  refine Goes.runs 10 [(2, .bool (decide (x0 = 1))), (3, .int .i64 x0), (4, .bool (decide (x0 = 1)))] [.code (sub [1, 1] B44)] (by kernel_rfl) ?_
  obtain rfl := Option.some.inj h
  exact Goes.ret (fn := Try.f44) (by kernel_rfl) (v := .bool (decide (x0 = 1))) (by kernel_rfl) ⟨S0, rfl, (Ext.refl S0 w0), p0⟩

/-! tidepole/post.those[uint64] -/
def Post.post_those_uint64__r_3 (nz : Nat) (wz : World) (S0 : Fz) (w0 : World) (Lr : List Ent) (lk : Nat) (rk : Nat) (jkk : Nat → Value) (gkq5 : Nat) (gkq7 : Nat) (gkq12b0 : Nat) (gkq12b1 : Nat) (r : (List Int) × (List Int) × (List Int)) (v : Value) (w' : World) : Prop :=
  ∃ (S' : Fz) (G1 : Option Nat) (c2 : Nat) (cs3 : List Value) (A4 : Option Addr) (c5 : Nat) (A6 : Option Addr) (c7 : Nat), v = .bool true ∧ Ext S0 w0 S' w' ∧ Hp nz wz S' w' ((G1, .row 35 cs3 (c2 * (kInt .u64).size) 0) :: (some lk, .obj (lpst 58 (lfr 23 [(5, .pointer (some ⟨gkq5, 0, none⟩)), (7, .pointer (some ⟨gkq7, 0, none⟩)), (12, .func (.func 68) #[] #[.pointer (some ⟨gkq12b0, 0, none⟩), .pointer (some ⟨gkq12b1, 0, none⟩)])] jkk) #[13, 14] (rfAssign (sub [1, 1, 0, 1, 0] B58)) (rfBody (sub [1, 1, 0, 1, 0] B58)) rk .ready none)) :: (some gkq5, .row 72 [.func (.func 44) #[] #[]] 1 0) :: (some gkq7, .row 22 [.slice (Gp G1) r.1.length c2] 1 0) :: (some gkq12b0, .row 22 [.slice A4 r.2.1.length c5] 1 0) :: (some gkq12b1, .row 22 [.slice A6 r.2.2.length c7] 1 0) :: Lr) ∧ Els (kInt .u64) S' w' cs3 r.1 ∧ Rd (kInt .u64) S' w' A4 c5 r.2.1 ∧ Rd (kInt .u64) S' w' A6 c7 r.2.2

theorem W.post_those_uint64__r_3 (kq7v0 : List Int) (kq12b0v0 : List Int) (kq12b1v0 : List Int) (a0 : Int) (a1 : Int) (r : (List Int) × (List Int) × (List Int)) (h : M.post_those_uint64__r_3 kq7v0 kq12b0v0 kq12b1v0 a0 a1 = some r) (nz : Nat) (wz : World) (S0 : Fz) (w0 : World) (Lr : List Ent) (lk : Nat) (rk : Nat) (jkk : Nat → Value) (gkq5 : Nat) (gkq7 : Nat) (Gkq7v0 : Option Nat) (ckq7v0 : Nat) (cskq7v0 : List Value) (gkq12b0 : Nat) (Akq12b0v0 : Option Addr) (ckq12b0v0 : Nat) (gkq12b1 : Nat) (Akq12b1v0 : Option Addr) (ckq12b1v0 : Nat) (p0 : Hp nz wz S0 w0 ((some lk, .obj (lpst 58 (lfr 23 [(5, .pointer (some ⟨gkq5, 0, none⟩)), (7, .pointer (some ⟨gkq7, 0, none⟩)), (12, .func (.func 68) #[] #[.pointer (some ⟨gkq12b0, 0, none⟩), .pointer (some ⟨gkq12b1, 0, none⟩)])] jkk) #[13, 14] (rfAssign (sub [1, 1, 0, 1, 0] B58)) (rfBody (sub [1, 1, 0, 1, 0] B58)) rk .ready none)) :: (some gkq5, .row 72 [.func (.func 44) #[] #[]] 1 0) :: (some gkq7, .row 22 [.slice (Gp Gkq7v0) kq7v0.length ckq7v0] 1 0) :: (Gkq7v0, .row 35 cskq7v0 (ckq7v0 * (kInt .u64).size) 0) :: (some gkq12b0, .row 22 [.slice Akq12b0v0 kq12b0v0.length ckq12b0v0] 1 0) :: (some gkq12b1, .row 22 [.slice Akq12b1v0 kq12b1v0.length ckq12b1v0] 1 0) :: Lr)) (fkq7v0 : Els (kInt .u64) S0 w0 cskq7v0 kq7v0) (fkq12b0v0 : Rd (kInt .u64) S0 w0 Akq12b0v0 ckq12b0v0 kq12b0v0) (fkq12b1v0 : Rd (kInt .u64) S0 w0 Akq12b1v0 ckq12b1v0 kq12b1v0) :
    Goes Try.prog (rbase 58 lk) [.code (rfAssign (sub [1, 1, 0, 1, 0] B58)), .beginRound, .code (rfBody (sub [1, 1, 0, 1, 0] B58))] ⟨setp (lfr 23 [(5, .pointer (some ⟨gkq5, 0, none⟩)), (7, .pointer (some ⟨gkq7, 0, none⟩)), (12, .func (.func 68) #[] #[.pointer (some ⟨gkq12b0, 0, none⟩), .pointer (some ⟨gkq12b1, 0, none⟩)])] jkk) #[13, 14] #[.int .u64 a0, .int .i64 a1], []⟩ w0 (DoneR (Post.post_those_uint64__r_3 nz wz S0 w0 Lr lk rk jkk gkq5 gkq7 gkq12b0 gkq12b1 r)) := by
  refine Goes.jump 23 [(5, .pointer (some ⟨gkq5, 0, none⟩)), (7, .pointer (some ⟨gkq7, 0, none⟩)), (12, .func (.func 68) #[] #[.pointer (some ⟨gkq12b0, 0, none⟩), .pointer (some ⟨gkq12b1, 0, none⟩)]), (13, .int .u64 a0), (14, .int .i64 a1)] (by kernel_rfl) (fun junk => ?_)
  delta M.post_those_uint64__r_3 at h
  refine Goes.runs 7 [(8, .int .u64 a0), (9, .int .i64 a1)] [.beginRound, .code (sub [1, 1, 0, 1, 0, 1] B58)] (by kernel_rfl) ?_
  refine Goes.beginR 0 rfl p0 rfl ?_
  intro w2 z2 p2
  refine Goes.runs 3 [] [.inRegion (opsOf (sub [1, 1, 0, 1, 0, 1, 0, 0] B58)) [0, 1, 2], .code (sub [1, 1, 0, 1, 0, 1, 0, 1] B58), .inBlock 1] (by kernel_rfl) ?_
  refine Op_.ld1 72 (.tmp 5) 15 72 ⟨gkq5, 0, none⟩ (.func (.func 44) #[] #[]) (Goes.vs (by kernel_rfl)) (by kernel_rfl) (by kernel_rfl) ((p2.mem 1 rfl).cell 0 _ rfl) ?_
  refine Goes.runs 1 [(16, .int .i64 a1)] [.inRegion (opsOf (sub [1, 1, 0, 1, 0, 1, 0, 0] B58)) [2], .code (sub [1, 1, 0, 1, 0, 1, 0, 1] B58), .inBlock 1] (by kernel_rfl) ?_
  obtain ⟨y1, e2, h⟩ := bind_some h
  try dsimp only at h
  refine Op_.call (.call { callee := .value (.tmp 15), args := #[(.tmp 16)], argTypes := #[3] }) 17 4 44 #[.int .i64 a1] (Goes.cs (by kernel_rfl)) (by kernel_rfl) (W.post_first a1 y1 e2 nz wz S0 w2 ((some lk, .obj (lpst 58 (lfr 23 [(5, .pointer (some ⟨gkq5, 0, none⟩)), (7, .pointer (some ⟨gkq7, 0, none⟩)), (12, .func (.func 68) #[] #[.pointer (some ⟨gkq12b0, 0, none⟩), .pointer (some ⟨gkq12b1, 0, none⟩)])] jkk) #[13, 14] (rfAssign (sub [1, 1, 0, 1, 0] B58)) (rfBody (sub [1, 1, 0, 1, 0] B58)) rk .busy none)) :: (some gkq5, .row 72 [.func (.func 44) #[] #[]] 1 0) :: (some gkq7, .row 22 [.slice (Gp Gkq7v0) kq7v0.length ckq7v0] 1 0) :: (Gkq7v0, .row 35 cskq7v0 (ckq7v0 * (kInt .u64).size) 0) :: (some gkq12b0, .row 22 [.slice Akq12b0v0 kq12b0v0.length ckq12b0v0] 1 0) :: (some gkq12b1, .row 22 [.slice Akq12b1v0 kq12b1v0.length ckq12b1v0] 1 0) :: Lr)  p2 ) ?_
  rintro _ w3 ⟨S3, rfl, z3, p3⟩
  refine Goes.runs 1 [] [.code (sub [1, 1, 0, 1, 0, 1, 0, 1] B58), .inBlock 1] (by kernel_rfl) ?_
  by_cases h3 : y1 = true
  · rw [if_pos h3] at h
    rw [h3]
    refine Goes.runs 2 [] [.inRegion (opsOf (sub [1, 1, 0, 1, 0, 1, 0, 1, 0] B58)) [0, 1, 2, 3, 4], .inBlock 1] (by kernel_rfl) ?_
    refine Op_.ld1 22 (.tmp 7) 18 22 ⟨gkq7, 0, none⟩ (.slice (Gp Gkq7v0) kq7v0.length ckq7v0) (Goes.vs (by kernel_rfl)) (by kernel_rfl) (by kernel_rfl) ((p3.mem 2 rfl).cell 0 _ rfl) ?_
    refine Goes.runs 1 [(19, .int .u64 a0)] [.inRegion (opsOf (sub [1, 1, 0, 1, 0, 1, 0, 1, 0] B58)) [2, 3, 4], .inBlock 1] (by kernel_rfl) ?_
    have f5 : Els (kInt .u64) S3 w3 ([.int .u64 a0] : List Value) [a0] := (Els.cons (K := (kInt .u64)) (vs := [.int .u64 a0]) (x := a0) rfl Els.nil)
    refine Op_.made (.buildSlice 22 1 #[(0, (.tmp 19))]) 20 22 (fun b => .slice (Gp (some b)) 1 1) 35 ([.int .u64 a0] : List Value) p3 (Goes.vs (by kernel_rfl)) (by kernel_rfl) ?_
    intro b4 w4 z4 p4
    have p4 : Hp nz wz S3 w4 (((some b4), .row 35 ([.int .u64 a0] : List Value) (1 * (kInt .u64).size) 0) :: (some lk, .obj (lpst 58 (lfr 23 [(5, .pointer (some ⟨gkq5, 0, none⟩)), (7, .pointer (some ⟨gkq7, 0, none⟩)), (12, .func (.func 68) #[] #[.pointer (some ⟨gkq12b0, 0, none⟩), .pointer (some ⟨gkq12b1, 0, none⟩)])] jkk) #[13, 14] (rfAssign (sub [1, 1, 0, 1, 0] B58)) (rfBody (sub [1, 1, 0, 1, 0] B58)) rk .busy none)) :: (some gkq5, .row 72 [.func (.func 44) #[] #[]] 1 0) :: (some gkq7, .row 22 [.slice (Gp Gkq7v0) kq7v0.length ckq7v0] 1 0) :: (Gkq7v0, .row 35 cskq7v0 (ckq7v0 * (kInt .u64).size) 0) :: (some gkq12b0, .row 22 [.slice Akq12b0v0 kq12b0v0.length ckq12b0v0] 1 0) :: (some gkq12b1, .row 22 [.slice Akq12b1v0 kq12b1v0.length ckq12b1v0] 1 0) :: Lr) := p4
    obtain ⟨g10, h⟩ := guard_some h
    refine Op_.ap (K := (kInt .u64)) 22 (.tmp 18) (.tmp 20) 21 22 35 4 (.int .u64 0) 8 ckq7v0 kq7v0 [a0] (Gp (some b4)) 1 p4 rfl (((fkq7v0.ext z2).ext z3).ext z4) (Goes.vs (by kernel_rfl)) (by kernel_rfl) (by kernel_rfl) (by kernel_rfl) (by kernel_rfl) rfl (by decide) (f5.ext z4) (src_own p4 (q := 0) rfl) (by have := g10; omega) (by have := g10; omega) ?_
    intro w5 G11 c12 cs13 z5 p5 f14
    refine Op_.st 22 (.tmp 7) (.tmp 21) 0 3 gkq7 0 (.slice (Gp G11) (kq7v0 ++ [a0]).length c12) [.slice (Gp G11) (kq7v0 ++ [a0]).length c12] p5 rfl (Goes.ss (by kernel_rfl)) (by kernel_rfl) (by kernel_rfl) (by kernel_rfl) (by kernel_rfl) (Nat.zero_le _) (by simp only [List.length_cons, List.length_nil]; omega) (by simp [Value.oneCell']) ?_
    intro w6 z6 p6
    refine Goes.runs 2 [] [] (by kernel_rfl) ?_
    have p6 := (p6.front 0 _ rfl).drop
    have p6 := p6.front 5 _ rfl
    have p6 := p6.front 5 _ rfl
    have p6 := p6.front 4 _ rfl
    have p6 := p6.front 4 _ rfl
    have p6 := p6.front 4 _ rfl
    have p6 := p6.front 5 _ rfl
    obtain rfl := Option.some.inj h
    refine Goes.endR 1 p6 rfl ?_
    intro w7 z7 p7
    exact ⟨S3, G11, c12, cs13, Akq12b0v0, ckq12b0v0, Akq12b1v0, ckq12b1v0, rfl, (((((((Ext.refl S0 w0).trans z2).trans z3).trans z4).trans z5).trans z6).trans z7), p7, ((f14.ext z6).ext z7), ((((((fkq12b0v0.ext z2).ext z3).ext z4).ext z5).ext z6).ext z7), ((((((fkq12b1v0.ext z2).ext z3).ext z4).ext z5).ext z6).ext z7)⟩
  · rw [if_neg h3] at h
    have h3' : y1 = false := by simpa using h3
    rw [h3']
    refine Goes.runs 3 [] [] (by kernel_rfl) ?_
    have p3 := p3.front 5 _ rfl
    have p3 := p3.front 5 _ rfl
    have p3 := p3.front 4 _ rfl
    have p3 := p3.front 4 _ rfl
    have p3 := p3.front 4 _ rfl
    have p3 := p3.front 5 _ rfl
    obtain rfl := Option.some.inj h
    refine Goes.endR 1 p3 rfl ?_
    intro w8 z8 p8
    exact ⟨S3, Gkq7v0, ckq7v0, cskq7v0, Akq12b0v0, ckq12b0v0, Akq12b1v0, ckq12b1v0, rfl, ((((Ext.refl S0 w0).trans z2).trans z3).trans z8), p8, (((fkq7v0.ext z2).ext z3).ext z8), (((fkq12b0v0.ext z2).ext z3).ext z8), (((fkq12b1v0.ext z2).ext z3).ext z8)⟩

end Go.Gx
