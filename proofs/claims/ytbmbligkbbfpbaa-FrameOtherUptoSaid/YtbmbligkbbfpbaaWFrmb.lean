import Derived.Test.YtbmbligkbbfpbaaWFrma

set_option linter.unusedVariables false

set_option maxRecDepth 100000

namespace Go.Gx

open Go.RowKit Go.Proofs

/-! tidepole/frame.First -/
def Post.frame_First (nz : Nat) (wz : World) (S0 : Fz) (w0 : World) (Lr : List Ent) (r : Int × (List Int) × Int × Int) (v : Value) (w' : World) : Prop :=
  ∃ (S' : Fz) (Gq_1 : Option Nat) (nq_1 : Nat) (cq_1 : Nat) (csq_1 : List Value), v = .tuple #[.int .i64 r.1, .slice (Gp Gq_1) nq_1 cq_1, .int .i64 r.2.2.1, .int .i64 r.2.2.2] ∧ Ext S0 w0 S' w' ∧ Hp nz wz S' w' ((Gq_1, .row 5 csq_1 (cq_1 * (kInt .u8).size) 0) :: Lr) ∧ Els (kInt .u8) S' w' csq_1 r.2.1 ∧ r.2.1.length = nq_1

def L.frame_First_l1 (nz : Nat) (wz : World) (S0 : Fz) (w0 : World) (Lr : List Ent) : (List Int) × Int × Int × Int × Bool → (Int × (List Int) × Int × Int) → Prop := fun ⟨x0, x6, x8, x9, x46⟩ r => ∀ S1 w1, Ext S0 w0 S1 w1 → ∀ (Ax0 : Option Addr) (nx0 : Nat) (cx0 : Nat) (_ : Hp nz wz S1 w1 (Lr)) (_ : Rd (kInt .u8) S1 w1 Ax0 cx0 x0) (_ : x0.length = nx0) (junk : Nat → Value),
  Goes Try.prog (base 48) [.code (sub [1, 1, 1, 1, 1, 0, 1] B48), .code (sub [1, 1, 1, 1, 1, 1] B48)] ⟨lfr 65 [(0, .slice Ax0 nx0 cx0), (6, .int .i64 x6), (8, .int .i64 x8), (9, .int .u8 x9), (46, .bool x46)] junk, []⟩ w1 (Done Try.prog 48 (Rets (Post.frame_First nz wz S0 w0 Lr r)))

theorem W.frame_First_l1 (nz : Nat) (wz : World) (S0 : Fz) (w0 : World) (Lr : List Ent) : ∀ a r, M.frame_First_l1 a = some r → L.frame_First_l1 nz wz S0 w0 Lr a r := by
  intro ⟨x0, x6, x8, x9, x46⟩ r h S1 w1 hx Ax0 nx0 cx0 p1 fx0 lx0 junk
  rw [M.frame_First_l1] at h
  try dsimp only at h
  subst lx0
  refine ite_some h (fun h23 h => ?_) (fun h23 h => ?_)
  · rw [h23]
    refine Goes.runs 8 [(2, .int .i64 0), (3, .slice none 0 0), (4, .int .i64 0), (5, .int .i64 30)] [.code (sub [1, 1, 1, 1, 1, 0, 1, 0, 1] B48), .code (sub [1, 1, 1, 1, 1, 1] B48)] (by kernel_rfl) ?_
    have p1 : Hp nz wz S1 w1 ((none, .row 5 [] (0 * (kInt .u8).size) 0) :: Lr) := p1.nilRow' 5
    obtain rfl := Option.some.inj h
    exact Goes.ret (fn := Try.f48) (by kernel_rfl) (v := .tuple #[.int .i64 0, .slice (Gp none) 0 0, .int .i64 0, .int .i64 30]) (by kernel_rfl) ⟨S1, none, 0, 0, [], rfl, hx, p1, (Els.nil (K := (kInt .u8))), rfl⟩
  · have h23' : x46 = false := by simpa using h23
    rw [h23']
    refine Goes.runs 7 [(47, .slice Ax0 x0.length cx0), (48, .int .i64 x8), (49, .int .i64 (wr .i64 (7 + x8)))] [.inRegion (opsOf (sub [1, 1, 1, 1, 1, 1, 0] B48)) [3, 4], .code (sub [1, 1, 1, 1, 1, 1, 1] B48)] (by kernel_rfl) ?_
    refine guard_some' h fun g25 h => ?_
    refine guard_some' h fun g26 h => ?_
    refine Op_.slR_n 23 (.tmp 47) (some (.const (.int .i64 7))) (some (.tmp 49)) 50 23 5 7 (wr .i64 (7 + x8)) (sl x0 7 (wr .i64 (7 + x8))) rfl rfl fx0 (Goes.vs (by kernel_rfl)) (by kernel_rfl) (by kernel_rfl) (by kernel_rfl) (Bnd.at_ .i64 (by kernel_rfl)) (Bnd.at_ .i64 (by kernel_rfl)) (by decide : (0 : Int) ≤ 7) g25 g26 ?_
    intro A27 c28 f29
    refine Goes.runs 4 [(10, .slice A27 ((sl x0 7 (wr .i64 (7 + x8))).length) c28)] [.code (sub [1, 1, 1, 1, 1, 1, 1, 0, 0] B48), .code (sub [1, 1, 1, 1, 1, 1, 1, 0, 1] B48), .code (sub [1, 1, 1, 1, 1, 1, 1, 1] B48)] (by kernel_rfl) ?_
    have z3 : Ext S1 w1 S1 (w1).drew := Ext.draw
    have p3 := p1.draw
    refine Goes.drawn (s := []) (F := Fc S1 (w1).drew []) 13 8 (by kernel_rfl) (by kernel_rfl) (by kernel_rfl) (by kernel_rfl) ?_
    generalize (w1).drew = w3 at z3 p3 ⊢
    refine AnyG.pure (i := 0) (.move (.tmp 6)) 51 3 (.int .i64 x6) (by kernel_rfl) (by kernel_rfl) (by kernel_rfl) (Fc.here trivial) ?_
    refine AnyG.pure (i := 1) (.move (.tmp 10)) 52 23 (.slice A27 ((sl x0 7 (wr .i64 (7 + x8))).length) c28) (by kernel_rfl) (by kernel_rfl) (by kernel_rfl) (Fc.here trivial) ?_
    refine AnyG.pure (i := 2) (.move (.tmp 9)) 53 5 (.int .u8 x9) (by kernel_rfl) (by kernel_rfl) (by kernel_rfl) (Fc.here trivial) ?_
    refine AnyG.pure (i := 4) (.move (.tmp 0)) 55 23 (.slice Ax0 x0.length cx0) (by kernel_rfl) (by kernel_rfl) (by kernel_rfl) (Fc.here trivial) ?_
    refine guard_some' h fun g30 h => ?_
    obtain ⟨a31, rfl⟩ := (fx0.ext z3).some_of (by have h1 : x0.length = x0.length := rfl; have h2 := g30; omega)
    obtain ⟨vs32, f33, l34, f35⟩ := (fx0.ext z3).firstN 256 (by have h1 : x0.length = x0.length := rfl; have h2 := g30; omega) rfl
    refine AnyG.s2a (i := 5) (a := a31) (m := x0.length) (c := cx0) 65 (.tmp 55) 56 0 5 256 (by kernel_rfl) (by kernel_rfl) (Fc.here trivial) (by kernel_rfl) (by kernel_rfl) g30 ?_
    refine AnyG.ldN (i := 6) 65 (.tmp 56) 57 65 a31 vs32 (by kernel_rfl) (by kernel_rfl) (Fc.here trivial) (by kernel_rfl) (by kernel_rfl) (by rw [l34]; kernel_rfl) (fun _ h => f35.fc h) ?_
    refine bind_some' h fun y36 e37 h => ?_
    refine Op_.call (.call { callee := .value (.func 41), args := #[(.tmp 51), (.tmp 52), (.tmp 53)], argTypes := #[3, 23, 5] }) 54 65 41 #[.int .i64 x6, .slice A27 ((sl x0 7 (wr .i64 (7 + x8))).length) c28, .int .u8 x9] (AnyG.cs (i := 3) (by kernel_rfl) (by kernel_rfl)) (by kernel_rfl) (W.frame_sector x6 (sl x0 7 (wr .i64 (7 + x8))) x9 y36 e37 nz wz S1 w3 (Lr) A27 ((sl x0 7 (wr .i64 (7 + x8))).length) c28 p3 (f29.ext z3) rfl) ?_
    rintro _ w4 ⟨S4, vsr_4, rfl, z4, p4, fr_4, lr_4⟩
    refine AnyG.next z4 trivial ?_
    refine AnyG.eqA (i := 7) .neq 65 (.tmp 54) (.tmp 57) 65 58 4 5 256 .u8 (us := vsr_4) (vs := vs32) (.inr rfl) (by kernel_rfl) (by kernel_rfl) (Fc.here trivial) (by kernel_rfl) (by kernel_rfl) (by kernel_rfl) (by kernel_rfl) (by kernel_rfl) (by kernel_rfl) (by kernel_rfl) fr_4 (f33.ext z4) (Els.len1 fr_4 lr_4 rfl) (Els.len1 (f33.ext z4) l34 rfl) ?_
    rw [if_neg (by decide)]
    refine AnyG.done (by kernel_rfl) ?_ _
    refine ite_some h (fun h38 h => ?_) (fun h38 h => ?_)
    · rw [decide_eq_true h38]
      refine Goes.runs 5 [(59, .int .i64 x6)] [.inRegion (opsOf (sub [1, 1, 1, 1, 1, 1, 1, 1, 0] B48)) [1, 2, 3, 4, 5, 6, 7, 8, 9], .code (sub [1, 1, 1, 1, 1, 1, 1, 1, 1] B48)] (by kernel_rfl) ?_
      have f40 : Els (kInt .u8) S4 w4 ([] : List Value) ([] : List Int) := by exact Els.nil
      refine Op_.made (.buildSlice 23 0 #[]) 60 23 (fun b => .slice (Gp (some b)) 0 0) 5 ([] : List Value) p4 (Goes.vs (by kernel_rfl)) (by kernel_rfl) ?_
      intro b39 w5 z5 p5
      have p5 : Hp nz wz S4 w5 (((some b39), .row 5 ([] : List Value) (0 * (kInt .u8).size) 0) :: Lr) := p5
      refine Goes.runs 1 [(61, .slice A27 ((sl x0 7 (wr .i64 (7 + x8))).length) c28)] [.inRegion (opsOf (sub [1, 1, 1, 1, 1, 1, 1, 1, 0] B48)) [3, 4, 5, 6, 7, 8, 9], .code (sub [1, 1, 1, 1, 1, 1, 1, 1, 1] B48)] (by kernel_rfl) ?_
      obtain ⟨ns42, f43, f44⟩ := src_rd (f29.ext ((z3.trans z4).trans z5))
      refine guard_some' h fun g45 h => ?_
      refine Op_.ap_n (K := (kInt .u8)) 23 (.tmp 60) (.tmp 61) 62 23 5 0 (.int .u8 0) 1 0 0 ((sl x0 7 (wr .i64 (7 + x8))).length) ([] : List Int) (sl x0 7 (wr .i64 (7 + x8))) (sl x0 7 (wr .i64 (7 + x8))) A27 c28 rfl rfl (List.nil_append _) p5 rfl (f40.ext z5) (Goes.vs (by kernel_rfl)) (by kernel_rfl) (by kernel_rfl) (by kernel_rfl) (by kernel_rfl) rfl (by decide) f43 f44 (by have := g45; omega) (by have := g45; omega) ?_
      intro w6 G46 c47 cs48 z6 p6 f49
      refine Goes.runs 7 [(63, .int .u8 x9), (64, .int .i64 (wr .i64 x9)), (2, .int .i64 x6), (3, .slice (Gp G46) ((sl x0 7 (wr .i64 (7 + x8))).length) c47), (4, .int .i64 (wr .i64 x9)), (5, .int .i64 0)] [.code (sub [1, 1, 1, 1, 1, 1, 1, 1, 1] B48)] (by kernel_rfl) ?_
      obtain rfl := Option.some.inj h
      exact Goes.ret (fn := Try.f48) (by kernel_rfl) (v := .tuple #[.int .i64 x6, .slice (Gp G46) ((sl x0 7 (wr .i64 (7 + x8))).length) c47, .int .i64 (wr .i64 x9), .int .i64 0]) (by kernel_rfl) ⟨S4, G46, (sl x0 7 (wr .i64 (7 + x8))).length, c47, cs48, rfl, ((((hx.trans z3).trans z4).trans z5).trans z6), p6, f49, rfl⟩
    · rw [decide_eq_false h38]
      refine Goes.runs 8 [(2, .int .i64 0), (3, .slice none 0 0), (4, .int .i64 0), (5, .int .i64 30)] [.code (sub [1, 1, 1, 1, 1, 1, 1, 0, 1, 0, 1] B48), .code (sub [1, 1, 1, 1, 1, 1, 1, 1] B48)] (by kernel_rfl) ?_
      have p4 : Hp nz wz S4 w4 ((none, .row 5 [] (0 * (kInt .u8).size) 0) :: Lr) := p4.nilRow' 5
      obtain rfl := Option.some.inj h
      exact Goes.ret (fn := Try.f48) (by kernel_rfl) (v := .tuple #[.int .i64 0, .slice (Gp none) 0 0, .int .i64 0, .int .i64 30]) (by kernel_rfl) ⟨S4, none, 0, 0, [], rfl, ((hx.trans z3).trans z4), p4, (Els.nil (K := (kInt .u8))), rfl⟩

/-! tidepole/frame.First -/
def L.frame_First_l0 (nz : Nat) (wz : World) (S0 : Fz) (w0 : World) (Lr : List Ent) : (List Int) × Int × Int → (Int × (List Int) × Int × Int) → Prop := fun ⟨x0, x6, x14⟩ r => ∀ S1 w1, Ext S0 w0 S1 w1 → ∀ (Ax0 : Option Addr) (nx0 : Nat) (cx0 : Nat) (_ : Hp nz wz S1 w1 (Lr)) (_ : Rd (kInt .u8) S1 w1 Ax0 cx0 x0) (_ : x0.length = nx0) (junk : Nat → Value),
  Goes Try.prog (base 48) [.code (sub [1, 1, 1, 0, 1, 0, 0] B48), .inLoop (sub [1, 1, 1, 0, 1, 0, 0] B48), .inBlock 0, .code (sub [1, 1, 1, 1] B48)] ⟨lfr 65 [(0, .slice Ax0 nx0 cx0), (6, .int .i64 x6), (14, .int .i64 x14)] junk, []⟩ w1 (Done Try.prog 48 (Rets (Post.frame_First nz wz S0 w0 Lr r)))

theorem W.frame_First_l0 (nz : Nat) (wz : World) (S0 : Fz) (w0 : World) (Lr : List Ent) : ∀ a r, M.frame_First_l0 a = some r → (L.frame_First_l0 nz wz S0 w0 Lr) a r := by
  refine M.frame_First_l0.partial_correctness (motive := (L.frame_First_l0 nz wz S0 w0 Lr)) ?_
  intro rec_frame_First_l0 ih_frame_First_l0 ⟨x0, x6, x14⟩ r h S1 w1 hx Ax0 nx0 cx0 p1 fx0 lx0 junk
  dsimp only at h
  subst lx0
  refine Goes.runs 5 [(15, .bool (decide (x14 < 4)))] [.code (sub [1, 1, 1, 0, 1, 0, 0, 1, 0] B48), .code (sub [1, 1, 1, 0, 1, 0, 0, 1, 1] B48), .inLoop (sub [1, 1, 1, 0, 1, 0, 0] B48), .inBlock 0, .code (sub [1, 1, 1, 1] B48)] (by kernel_rfl) ?_
  refine ite_some h (fun h3 h => ?_) (fun h3 h => ?_)
  · rw [decide_eq_true h3]
    refine Goes.runs 13 [(16, .int .i64 x14), (7, .int .i64 x14), (17, .int .i64 x6), (18, .slice Ax0 x0.length cx0), (19, .int .i64 x14)] [.inRegion (opsOf (sub [1, 1, 1, 0, 1, 0, 0, 1, 1, 0, 0, 1] B48)) [3, 4, 5, 6, 7, 8, 9, 10], .inBlock 1, .code (sub [1, 1, 1, 0, 1, 0, 0, 1, 1, 1] B48), .inLoop (sub [1, 1, 1, 0, 1, 0, 0] B48), .inBlock 0, .code (sub [1, 1, 1, 1] B48)] (by kernel_rfl) ?_
    refine guard_some' h fun g4 h => ?_
    refine guard_some' h fun g5 h => ?_
    refine Op_.ixR_n 23 (.tmp 18) (.tmp 19) 20 0 5 .i64 x14 (gi x0 x14) rfl rfl fx0 (Goes.vs (by kernel_rfl)) (by kernel_rfl) (by kernel_rfl) (by kernel_rfl) (by kernel_rfl) g4 g5 ?_
    intro a6 _ f7 q8
    obtain rfl := q8
    refine Op_.ld1 5 (.tmp 20) 21 5 a6 (.int .u8 (gi x0 x14)) (Goes.vs (by kernel_rfl)) (by kernel_rfl) (by kernel_rfl) (f7.cell 0 _ rfl) ?_
    refine Goes.runs 3 [(22, .int .i64 (wr .i64 (gi x0 x14))), (23, .int .i64 x14), (24, .int .i64 (wr .i64 (8 * x14)))] [.inRegion (opsOf (sub [1, 1, 1, 0, 1, 0, 0, 1, 1, 0, 0, 1] B48)) [8, 9, 10], .inBlock 1, .code (sub [1, 1, 1, 0, 1, 0, 0, 1, 1, 1] B48), .inLoop (sub [1, 1, 1, 0, 1, 0, 0] B48), .inBlock 0, .code (sub [1, 1, 1, 1] B48)] (by kernel_rfl) ?_
    refine guard_some' h fun g9 h => ?_
    refine Op_.binshl 3 (.tmp 22) (.tmp 24) 3 25 3 .i64 .i64 (wr .i64 (gi x0 x14)) (wr .i64 (8 * x14)) (Goes.vs (by kernel_rfl)) (by kernel_rfl) (by kernel_rfl) g9 ?_
    refine Goes.runs 9 [(26, .int .i64 (ior .i64 x6 (ishl .i64 (wr .i64 (gi x0 x14)) (wr .i64 (8 * x14))))), (6, .int .i64 (ior .i64 x6 (ishl .i64 (wr .i64 (gi x0 x14)) (wr .i64 (8 * x14))))), (27, .int .i64 (wr .i64 (x14 + 1))), (14, .int .i64 (wr .i64 (x14 + 1)))] [.code (sub [1, 1, 1, 0, 1, 0, 0] B48), .inLoop (sub [1, 1, 1, 0, 1, 0, 0] B48), .inBlock 0, .code (sub [1, 1, 1, 1] B48)] (by kernel_rfl) ?_
    exact Goes.jump 65 [(0, .slice Ax0 x0.length cx0), (6, .int .i64 (ior .i64 x6 (ishl .i64 (wr .i64 (gi x0 x14)) (wr .i64 (8 * x14))))), (14, .int .i64 (wr .i64 (x14 + 1)))] (by kernel_rfl) (ih_frame_First_l0 _ _ h _ _ hx Ax0 x0.length cx0 p1 fx0 rfl)
  · rw [decide_eq_false h3]
    refine Goes.runs 3 [] [.code (sub [1, 1, 1, 1, 0] B48), .code (sub [1, 1, 1, 1, 1] B48)] (by kernel_rfl) ?_
    have z2 : Ext S1 w1 S1 (w1).drew := Ext.draw
    have p2 := p1.draw
    refine Goes.drawn (s := []) (F := Fc S1 (w1).drew []) 9 15 (by kernel_rfl) (by kernel_rfl) (by kernel_rfl) (by kernel_rfl) ?_
    generalize (w1).drew = w2 at z2 p2 ⊢
    refine AnyG.pure (i := 0) (.move (.tmp 0)) 28 23 (.slice Ax0 x0.length cx0) (by kernel_rfl) (by kernel_rfl) (by kernel_rfl) (Fc.here trivial) ?_
    refine guard_some' h fun g10 h => ?_
    refine AnyG.ixR_n (i := 1) 23 (.tmp 28) (.const (.int .i64 4)) 29 0 5 .i64 4 (gi x0 4) rfl rfl (fx0.ext z2) (by kernel_rfl) (by kernel_rfl) (Fc.here trivial) (by kernel_rfl) (by kernel_rfl) (by kernel_rfl) (by kernel_rfl) (by decide : (0 : Int) ≤ 4) g10 ?_
    intro a11 _ f12 q13
    obtain rfl := q13
    refine AnyG.ld1 (i := 2) 5 (.tmp 29) 30 5 a11 (.int .u8 (gi x0 4)) (by kernel_rfl) (by kernel_rfl) (Fc.here trivial) (by kernel_rfl) (by kernel_rfl) (fun _ h => f12.fc h 0 _ rfl) ?_
    refine AnyG.pure (i := 3) (.convert 5 3 (.tmp 30)) 31 3 (.int .i64 (wr .i64 (gi x0 4))) (by kernel_rfl) (by kernel_rfl) (by kernel_rfl) (Fc.here trivial) ?_
    refine AnyG.pure (i := 4) (.move (.tmp 0)) 32 23 (.slice Ax0 x0.length cx0) (by kernel_rfl) (by kernel_rfl) (by kernel_rfl) (Fc.here trivial) ?_
    refine guard_some' h fun g14 h => ?_
    refine AnyG.ixR_n (i := 5) 23 (.tmp 32) (.const (.int .i64 5)) 33 0 5 .i64 5 (gi x0 5) rfl rfl (fx0.ext z2) (by kernel_rfl) (by kernel_rfl) (Fc.here trivial) (by kernel_rfl) (by kernel_rfl) (by kernel_rfl) (by kernel_rfl) (by decide : (0 : Int) ≤ 5) g14 ?_
    intro a15 _ f16 q17
    obtain rfl := q17
    refine AnyG.ld1 (i := 6) 5 (.tmp 33) 34 5 a15 (.int .u8 (gi x0 5)) (by kernel_rfl) (by kernel_rfl) (Fc.here trivial) (by kernel_rfl) (by kernel_rfl) (fun _ h => f16.fc h 0 _ rfl) ?_
    refine AnyG.pure (i := 7) (.convert 5 3 (.tmp 34)) 35 3 (.int .i64 (wr .i64 (gi x0 5))) (by kernel_rfl) (by kernel_rfl) (by kernel_rfl) (Fc.here trivial) ?_
    refine AnyG.pure (i := 8) (.binOp .shl 3 (.tmp 35) (.const (.int .u64 8)) 38) 36 3 (.int .i64 (ishl .i64 (wr .i64 (gi x0 5)) 8)) (by kernel_rfl) (by kernel_rfl) (by kernel_rfl) (Fc.here trivial) ?_
    refine AnyG.pure (i := 9) (.binOp .or 3 (.tmp 31) (.tmp 36) 3) 37 3 (.int .i64 (ior .i64 (wr .i64 (gi x0 4)) (ishl .i64 (wr .i64 (gi x0 5)) 8))) (by kernel_rfl) (by kernel_rfl) (by kernel_rfl) (Fc.here trivial) ?_
    refine AnyG.pure (i := 10) (.move (.tmp 0)) 38 23 (.slice Ax0 x0.length cx0) (by kernel_rfl) (by kernel_rfl) (by kernel_rfl) (Fc.here trivial) ?_
    refine guard_some' h fun g18 h => ?_
    refine AnyG.ixR_n (i := 11) 23 (.tmp 38) (.const (.int .i64 6)) 39 0 5 .i64 6 (gi x0 6) rfl rfl (fx0.ext z2) (by kernel_rfl) (by kernel_rfl) (Fc.here trivial) (by kernel_rfl) (by kernel_rfl) (by kernel_rfl) (by kernel_rfl) (by decide : (0 : Int) ≤ 6) g18 ?_
    intro a19 _ f20 q21
    obtain rfl := q21
    refine AnyG.ld1 (i := 12) 5 (.tmp 39) 40 5 a19 (.int .u8 (gi x0 6)) (by kernel_rfl) (by kernel_rfl) (Fc.here trivial) (by kernel_rfl) (by kernel_rfl) (fun _ h => f20.fc h 0 _ rfl) ?_
    refine AnyG.pure (i := 13) (.assign (.tmp 37)) 8 3 (.int .i64 (ior .i64 (wr .i64 (gi x0 4)) (ishl .i64 (wr .i64 (gi x0 5)) 8))) (by kernel_rfl) (by kernel_rfl) (by kernel_rfl) (Fc.here trivial) ?_
    refine AnyG.pure (i := 14) (.assign (.tmp 40)) 9 5 (.int .u8 (gi x0 6)) (by kernel_rfl) (by kernel_rfl) (by kernel_rfl) (Fc.here trivial) ?_
    refine AnyG.done (by kernel_rfl) ?_ _
    refine Goes.runs 6 [(41, .int .i64 (ior .i64 (wr .i64 (gi x0 4)) (ishl .i64 (wr .i64 (gi x0 5)) 8))), (42, .bool (decide (ior .i64 (wr .i64 (gi x0 4)) (ishl .i64 (wr .i64 (gi x0 5)) 8) > 244))), (43, .bool (decide (ior .i64 (wr .i64 (gi x0 4)) (ishl .i64 (wr .i64 (gi x0 5)) 8) > 244)))] [.inRegion (opsOf (sub [1, 1, 1, 1, 1, 0, 0] B48)) [3, 4, 5], .code (sub [1, 1, 1, 1, 1, 0, 1] B48), .code (sub [1, 1, 1, 1, 1, 1] B48)] (by kernel_rfl) ?_
    refine ite_some h (fun h22 h => ?_) (fun h22 h => ?_)
    · rw [decide_eq_true h22]
      refine Goes.runs 4 [(44, undef), (45, undef), (46, .bool true)] [.code (sub [1, 1, 1, 1, 1, 0, 1] B48), .code (sub [1, 1, 1, 1, 1, 1] B48)] (by kernel_rfl) ?_
      exact Goes.jump 65 [(0, .slice Ax0 x0.length cx0), (6, .int .i64 x6), (8, .int .i64 (ior .i64 (wr .i64 (gi x0 4)) (ishl .i64 (wr .i64 (gi x0 5)) 8))), (9, .int .u8 (gi x0 6)), (46, .bool true)] (by kernel_rfl) (W.frame_First_l1 nz wz S0 w0 Lr _ _ h _ _ (hx.trans z2) Ax0 x0.length cx0 p2 (fx0.ext z2) rfl)
    · rw [decide_eq_false h22]
      refine Goes.runs 4 [(44, .int .u8 (gi x0 6)), (45, .bool (decide (gi x0 6 > 3))), (46, .bool (decide (gi x0 6 > 3)))] [.code (sub [1, 1, 1, 1, 1, 0, 1] B48), .code (sub [1, 1, 1, 1, 1, 1] B48)] (by kernel_rfl) ?_
      exact Goes.jump 65 [(0, .slice Ax0 x0.length cx0), (6, .int .i64 x6), (8, .int .i64 (ior .i64 (wr .i64 (gi x0 4)) (ishl .i64 (wr .i64 (gi x0 5)) 8))), (9, .int .u8 (gi x0 6)), (46, .bool (decide (gi x0 6 > 3)))] (by kernel_rfl) (W.frame_First_l1 nz wz S0 w0 Lr _ _ h _ _ (hx.trans z2) Ax0 x0.length cx0 p2 (fx0.ext z2) rfl)

/-! tidepole/frame.First -/
theorem W.frame_First (x0 : List Int) (r : Int × (List Int) × Int × Int) (h : M.frame_First x0 = some r) (nz : Nat) (wz : World) (S0 : Fz) (w0 : World) (Lr : List Ent) (Ax0 : Option Addr) (nx0 : Nat) (cx0 : Nat) (p0 : Hp nz wz S0 w0 (Lr)) (fx0 : Rd (kInt .u8) S0 w0 Ax0 cx0 x0) (lx0 : x0.length = nx0) :
    Calls Try.prog 48 #[.slice Ax0 nx0 cx0] w0 (Rets (Post.frame_First nz wz S0 w0 Lr r)) := by
  subst lx0
  refine calls_of_goes (fn := Try.f48) (c := B48) (by kernel_rfl) (by kernel_rfl) 64 (by kernel_rfl) ?_
  refine Goes.jump 65 [(0, .slice Ax0 x0.length cx0)] (by kernel_rfl) (fun junk => ?_)
  delta M.frame_First at h
  refine Goes.runs 14 [(2, .int .i64 0), (3, .slice none 0 0), (4, .int .i64 0), (5, .int .i64 0), (11, .slice Ax0 x0.length cx0), (12, .int .i64 (x0.length : Int)), (13, .bool (decide ((x0.length : Int) < 256)))] [.code (sub [1, 0, 1] B48), .code (sub [1, 1] B48)] (by kernel_rfl) ?_
  refine ite_some h (fun h1 h => ?_) (fun h1 h => ?_)
  · rw [decide_eq_true h1]
    refine Goes.runs 8 [(2, .int .i64 0), (3, .slice none 0 0), (4, .int .i64 0), (5, .int .i64 30)] [.code (sub [1, 0, 1, 0, 1] B48), .code (sub [1, 1] B48)] (by kernel_rfl) ?_
    have p0 : Hp nz wz S0 w0 ((none, .row 5 [] (0 * (kInt .u8).size) 0) :: Lr) := p0.nilRow' 5
    obtain rfl := Option.some.inj h
    exact Goes.ret (fn := Try.f48) (by kernel_rfl) (v := .tuple #[.int .i64 0, .slice (Gp none) 0 0, .int .i64 0, .int .i64 30]) (by kernel_rfl) ⟨S0, none, 0, 0, [], rfl, (Ext.refl S0 w0), p0, (Els.nil (K := (kInt .u8))), rfl⟩
  · rw [decide_eq_false h1]
    refine Goes.runs 13 [(6, .int .i64 0), (14, .int .i64 0)] [.code (sub [1, 1, 1, 0, 1, 0, 0] B48), .inLoop (sub [1, 1, 1, 0, 1, 0, 0] B48), .inBlock 0, .code (sub [1, 1, 1, 1] B48)] (by kernel_rfl) ?_
    exact Goes.jump 65 [(0, .slice Ax0 x0.length cx0), (6, .int .i64 0), (14, .int .i64 0)] (by kernel_rfl) (W.frame_First_l0 nz wz S0 w0 Lr _ _ h _ _ (Ext.refl S0 w0) Ax0 x0.length cx0 p0 fx0 rfl)

/-! tidepole/frame.Read -/
def Post.frame_Read_r (nz : Nat) (wz : World) (S0 : Fz) (w0 : World) (Lr : List Ent) (lk : Nat) (rk : Nat) (jkk : Nat → Value) (gkq7 : Nat) (gkq8 : Nat) (gkq9 : Nat) (gkq10 : Nat) (gkq21b0 : Nat) (gkq21b1 : Nat) (r : Nat × (List (List Int)) × (List Int) × Int × Bool × (List Int) × Int) (v : Value) (w' : World) : Prop :=
  ∃ (S' : Fz) (Ge1v_0 : Option Nat) (ne1v_0 : Nat) (ce1v_0 : Nat) (cse1v_0 : List Value) (Ge2v_0 : Option Nat) (ne2v_0 : Nat) (ce2v_0 : Nat) (cse2v_0 : List Value) (Ae5v_0 : Option Addr) (ne5v_0 : Nat) (ce5v_0 : Nat), v = .bool (decide (r.1 = 0)) ∧ Ext S0 w0 S' w' ∧ Hp nz wz S' w' ((some lk, .obj (lpj 36 (lfr 58 [(7, .pointer (some ⟨gkq7, 0, none⟩)), (8, .pointer (some ⟨gkq8, 0, none⟩)), (9, .pointer (some ⟨gkq9, 0, none⟩)), (10, .pointer (some ⟨gkq10, 0, none⟩)), (21, .func (.func 47) #[] #[.pointer (some ⟨gkq21b0, 0, none⟩), .pointer (some ⟨gkq21b1, 0, none⟩)])] jkk) #[22, 23] (rfAssign (sub [1, 1, 1, 1, 1, 0, 1, 0] B36)) (rfBody (sub [1, 1, 1, 1, 1, 0, 1, 0] B36)) rk pend_36_2 r.1)) :: (some gkq7, .row 41 [.slice (Gp Ge1v_0) ne1v_0 ce1v_0] 1 0) :: (Ge1v_0, .row 23 cse1v_0 (ce1v_0 * (kSl (kInt .u8)).size) 0) :: (some gkq8, .row 23 [.slice (Gp Ge2v_0) ne2v_0 ce2v_0] 1 0) :: (Ge2v_0, .row 5 cse2v_0 (ce2v_0 * (kInt .u8).size) 0) :: (some gkq9, .row 3 [.int .i64 r.2.2.2.1] 1 0) :: (some gkq10, .row 4 [.bool r.2.2.2.2.1] 1 0) :: (some gkq21b0, .row 23 [.slice Ae5v_0 ne5v_0 ce5v_0] 1 0) :: (some gkq21b1, .row 3 [.int .i64 r.2.2.2.2.2.2] 1 0) :: Lr) ∧ Els (kSl (kInt .u8)) S' w' cse1v_0 r.2.1 ∧ r.2.1.length = ne1v_0 ∧ Els (kInt .u8) S' w' cse2v_0 r.2.2.1 ∧ r.2.2.1.length = ne2v_0 ∧ Rd (kInt .u8) S' w' Ae5v_0 ce5v_0 r.2.2.2.2.2.1 ∧ r.2.2.2.2.2.1.length = ne5v_0

def L.frame_Read_r_l0 (nz : Nat) (wz : World) (S0 : Fz) (w0 : World) (Lr : List Ent) (lk : Nat) (rk : Nat) (jkk : Nat → Value) (gkq7 : Nat) (gkq8 : Nat) (gkq9 : Nat) (gkq10 : Nat) (gkq21b0 : Nat) (gkq21b1 : Nat) : Int × T72 × Bool × (List (List Int)) × (List Int) × Int × Bool × (List Int) × Int → (Nat × (List (List Int)) × (List Int) × Int × Bool × (List Int) × Int) → Prop := fun ⟨x11, x12v, x41, e1v_0, e2v_0, e3v_0, e4v_0, e5v_0, e6v_0⟩ r => ∀ S1 w1, Ext S0 w0 S1 w1 → ∀ (gx12 : Nat) (Ax12v_0 : Option Addr) (nx12v_0 : Nat) (cx12v_0 : Nat) (Ge1v_0 : Option Nat) (ne1v_0 : Nat) (ce1v_0 : Nat) (cse1v_0 : List Value) (Ge2v_0 : Option Nat) (ne2v_0 : Nat) (ce2v_0 : Nat) (cse2v_0 : List Value) (Ae5v_0 : Option Addr) (ne5v_0 : Nat) (ce5v_0 : Nat) (_ : Hp nz wz S1 w1 ((some gx12, .row 73 [.slice Ax12v_0 nx12v_0 cx12v_0, .int .i64 x12v.flags] 2 0) :: (some lk, .obj (lpst 36 (lfr 58 [(7, .pointer (some ⟨gkq7, 0, none⟩)), (8, .pointer (some ⟨gkq8, 0, none⟩)), (9, .pointer (some ⟨gkq9, 0, none⟩)), (10, .pointer (some ⟨gkq10, 0, none⟩)), (21, .func (.func 47) #[] #[.pointer (some ⟨gkq21b0, 0, none⟩), .pointer (some ⟨gkq21b1, 0, none⟩)])] jkk) #[22, 23] (rfAssign (sub [1, 1, 1, 1, 1, 0, 1, 0] B36)) (rfBody (sub [1, 1, 1, 1, 1, 0, 1, 0] B36)) rk .busy none)) :: (some gkq7, .row 41 [.slice (Gp Ge1v_0) ne1v_0 ce1v_0] 1 0) :: (Ge1v_0, .row 23 cse1v_0 (ce1v_0 * (kSl (kInt .u8)).size) 0) :: (some gkq8, .row 23 [.slice (Gp Ge2v_0) ne2v_0 ce2v_0] 1 0) :: (Ge2v_0, .row 5 cse2v_0 (ce2v_0 * (kInt .u8).size) 0) :: (some gkq9, .row 3 [.int .i64 e3v_0] 1 0) :: (some gkq10, .row 4 [.bool e4v_0] 1 0) :: (some gkq21b0, .row 23 [.slice Ae5v_0 ne5v_0 ce5v_0] 1 0) :: (some gkq21b1, .row 3 [.int .i64 e6v_0] 1 0) :: Lr)) (_ : Rd (kInt .u8) S1 w1 Ax12v_0 cx12v_0 x12v.b) (_ : x12v.b.length = nx12v_0) (_ : Els (kSl (kInt .u8)) S1 w1 cse1v_0 e1v_0) (_ : e1v_0.length = ne1v_0) (_ : Els (kInt .u8) S1 w1 cse2v_0 e2v_0) (_ : e2v_0.length = ne2v_0) (_ : Rd (kInt .u8) S1 w1 Ae5v_0 ce5v_0 e5v_0) (_ : e5v_0.length = ne5v_0) (junk : Nat → Value),
  Goes Try.prog (rbase 36 lk) [.code (sub [1, 1, 1, 1, 1, 0, 1, 0, 1, 0, 0, 1] B36), .code (sub [1, 1, 1, 1, 1, 0, 1, 0, 1, 0, 1] B36), .inBlock 1] ⟨lfr 58 [(7, .pointer (some ⟨gkq7, 0, none⟩)), (8, .pointer (some ⟨gkq8, 0, none⟩)), (9, .pointer (some ⟨gkq9, 0, none⟩)), (10, .pointer (some ⟨gkq10, 0, none⟩)), (11, .int .i64 x11), (12, .pointer (some ⟨gx12, 0, none⟩)), (41, .bool x41)] junk, []⟩ w1 (DoneR (Post.frame_Read_r nz wz S0 w0 Lr lk rk jkk gkq7 gkq8 gkq9 gkq10 gkq21b0 gkq21b1 r))

theorem W.frame_Read_r_l0 (nz : Nat) (wz : World) (S0 : Fz) (w0 : World) (Lr : List Ent) (lk : Nat) (rk : Nat) (jkk : Nat → Value) (gkq7 : Nat) (gkq8 : Nat) (gkq9 : Nat) (gkq10 : Nat) (gkq21b0 : Nat) (gkq21b1 : Nat) : ∀ a r, M.frame_Read_r_l0 a = some r → L.frame_Read_r_l0 nz wz S0 w0 Lr lk rk jkk gkq7 gkq8 gkq9 gkq10 gkq21b0 gkq21b1 a r := by
  intro ⟨x11, x12v, x41, e1v_0, e2v_0, e3v_0, e4v_0, e5v_0, e6v_0⟩ r h S1 w1 hx gx12 Ax12v_0 nx12v_0 cx12v_0 Ge1v_0 ne1v_0 ce1v_0 cse1v_0 Ge2v_0 ne2v_0 ce2v_0 cse2v_0 Ae5v_0 ne5v_0 ce5v_0 p1 fx12v_0 lx12v_0 fe1v_0 le1v_0 fe2v_0 le2v_0 fe5v_0 le5v_0 junk
  rw [M.frame_Read_r_l0] at h
  try dsimp only at h
  subst lx12v_0
  subst le1v_0
  subst le2v_0
  subst le5v_0
  refine ite_some h (fun h17 h => ?_) (fun h17 h => ?_)
  · rw [h17]
    refine Goes.runs 1 [] [.code (sub [1, 1, 1, 1, 1, 0, 1, 0, 1, 0, 0, 1, 0] B36), .code (sub [1, 1, 1, 1, 1, 0, 1, 0, 1, 0, 1] B36), .inBlock 1] (by kernel_rfl) ?_
    have p1 := (p1.front 0 _ rfl).drop
    obtain rfl := Option.some.inj h
    refine Goes.exitR 0 0 (by kernel_rfl) p1 rfl ?_
    intro w5 z5 p5
    exact ⟨S1, Ge1v_0, e1v_0.length, ce1v_0, cse1v_0, Ge2v_0, e2v_0.length, ce2v_0, cse2v_0, Ae5v_0, e5v_0.length, ce5v_0, rfl, (hx.trans z5), p5, (fe1v_0.ext z5), rfl, (fe2v_0.ext z5), rfl, (fe5v_0.ext z5), rfl⟩
  · have h17' : x41 = false := by simpa using h17
    rw [h17']
    refine Goes.runs 4 [] [.inRegion (opsOf (sub [1, 1, 1, 1, 1, 0, 1, 0, 1, 0, 1, 0] B36)) [0, 1, 2, 3, 4, 5], .code (sub [1, 1, 1, 1, 1, 0, 1, 0, 1, 0, 1, 1] B36), .inBlock 1] (by kernel_rfl) ?_
    refine Op_.ld1 23 (.tmp 8) 42 23 ⟨gkq8, 0, none⟩ (.slice (Gp Ge2v_0) e2v_0.length ce2v_0) (Goes.vs (by kernel_rfl)) (by kernel_rfl) (by kernel_rfl) ((p1.mem 4 rfl).cell 0 _ rfl) ?_
    refine Goes.runs 1 [(43, .pointer (some ⟨gx12, 0, none⟩))] [.inRegion (opsOf (sub [1, 1, 1, 1, 1, 0, 1, 0, 1, 0, 1, 0] B36)) [2, 3, 4, 5], .code (sub [1, 1, 1, 1, 1, 0, 1, 0, 1, 0, 1, 1] B36), .inBlock 1] (by kernel_rfl) ?_
    refine Op_.ld1 23 (.tmp 43) 44 23 ⟨gx12, 0, none⟩ (.slice Ax12v_0 x12v.b.length cx12v_0) (Goes.vs (by kernel_rfl)) (by kernel_rfl) (by kernel_rfl) ((p1.mem 0 rfl).cell 0 _ rfl) ?_
    obtain ⟨ns18, f19, f20⟩ := src_rd fx12v_0
    refine guard_some' h fun g21 h => ?_
    refine Op_.ap_n (K := (kInt .u8)) 23 (.tmp 42) (.tmp 44) 45 23 5 5 (.int .u8 0) 1 e2v_0.length ce2v_0 x12v.b.length e2v_0 x12v.b (e2v_0 ++ x12v.b) Ax12v_0 cx12v_0 rfl rfl rfl p1 rfl fe2v_0 (Goes.vs (by kernel_rfl)) (by kernel_rfl) (by kernel_rfl) (by kernel_rfl) (by kernel_rfl) rfl (by decide) f19 f20 (by have := g21; omega) (by have := g21; omega) ?_
    intro w6 G22 c23 cs24 z6 p6 f25
    refine Op_.st 23 (.tmp 8) (.tmp 45) 0 4 gkq8 0 (.slice (Gp G22) ((e2v_0 ++ x12v.b).length) c23) [.slice (Gp G22) ((e2v_0 ++ x12v.b).length) c23] p6 rfl (Goes.ss (by kernel_rfl)) (by kernel_rfl) (by kernel_rfl) (by kernel_rfl) (by kernel_rfl) (Nat.zero_le _) (by simp only [List.length_cons, List.length_nil]; omega) (by simp [Value.oneCell']) ?_
    intro w7 z7 p7
    refine Op_.st 4 (.tmp 10) (.const (.bool true)) 0 7 gkq10 0 (.bool true) [.bool true] p7 rfl (Goes.ss (by kernel_rfl)) (by kernel_rfl) (by kernel_rfl) (by kernel_rfl) (by kernel_rfl) (Nat.zero_le _) (by simp only [List.length_cons, List.length_nil]; omega) (by simp [Value.oneCell']) ?_
    intro w8 z8 p8
    refine Goes.runs 4 [(46, .pointer (some ⟨gx12, 1, none⟩))] [.inRegion (opsOf (sub [1, 1, 1, 1, 1, 0, 1, 0, 1, 0, 1, 1, 0] B36)) [1, 2, 3], .code (sub [1, 1, 1, 1, 1, 0, 1, 0, 1, 0, 1, 1, 1] B36), .inBlock 1] (by kernel_rfl) ?_
    refine Op_.ld1 3 (.tmp 46) 47 3 ⟨gx12, 1, none⟩ (.int .i64 x12v.flags) (Goes.vs (by kernel_rfl)) (by kernel_rfl) (by kernel_rfl) ((p8.mem 0 rfl).cell 1 _ rfl) ?_
    refine Goes.runs 3 [(48, .int .i64 (iand .i64 x12v.flags 2)), (49, .bool (!(decide (iand .i64 x12v.flags 2 = 0))))] [.code (sub [1, 1, 1, 1, 1, 0, 1, 0, 1, 0, 1, 1, 1] B36), .inBlock 1] (by kernel_rfl) ?_
    refine ite_some h (fun h26 h => ?_) (fun h26 h => ?_)
    · rw [decide_eq_true h26]
      refine Goes.runs 3 [] [] (by kernel_rfl) ?_
      have p8 := (p8.front 0 _ rfl).drop
      obtain rfl := Option.some.inj h
      refine Goes.endR 0 p8 rfl ?_
      intro w9 z9 p9
      exact ⟨S1, Ge1v_0, e1v_0.length, ce1v_0, cse1v_0, G22, (e2v_0 ++ x12v.b).length, c23, cs24, Ae5v_0, e5v_0.length, ce5v_0, rfl, ((((hx.trans z6).trans z7).trans z8).trans z9), p9, (fe1v_0.ext (((z6.trans z7).trans z8).trans z9)), rfl, (f25.ext ((z7.trans z8).trans z9)), rfl, (fe5v_0.ext (((z6.trans z7).trans z8).trans z9)), rfl⟩
    · rw [decide_eq_false h26]
      refine Goes.runs 3 [] [.inRegion (opsOf (sub [1, 1, 1, 1, 1, 0, 1, 0, 1, 0, 1, 1, 1, 0, 0] B36)) [0, 1, 2, 3, 4, 5, 6, 7], .code (sub [1, 1, 1, 1, 1, 0, 1, 0, 1, 0, 1, 1, 1, 0, 1] B36), .inBlock 1] (by kernel_rfl) ?_
      refine Op_.ld1 41 (.tmp 7) 50 41 ⟨gkq7, 0, none⟩ (.slice (Gp Ge1v_0) e1v_0.length ce1v_0) (Goes.vs (by kernel_rfl)) (by kernel_rfl) (by kernel_rfl) ((p8.mem 2 rfl).cell 0 _ rfl) ?_
      refine Op_.ld1 23 (.tmp 8) 51 23 ⟨gkq8, 0, none⟩ (.slice (Gp G22) ((e2v_0 ++ x12v.b).length) c23) (Goes.vs (by kernel_rfl)) (by kernel_rfl) (by kernel_rfl) ((p8.mem 4 rfl).cell 0 _ rfl) ?_
      obtain ⟨S10, z10, p10, f27⟩ := p8.freezeRd 5 rfl (f25.ext (z7.trans z8)) (by decide)
      have f29 : Els (kSl (kInt .u8)) S10 w8 ([.slice (Gp G22) ((e2v_0 ++ x12v.b).length) c23] : List Value) [(e2v_0 ++ x12v.b)] := by exact (Els.cons (K := (kSl (kInt .u8))) (vs := [.slice (Gp G22) ((e2v_0 ++ x12v.b).length) c23]) (x := (e2v_0 ++ x12v.b)) ⟨_, _, rfl, f27⟩ Els.nil)
      refine Op_.made (.buildSlice 41 1 #[(0, (.tmp 51))]) 52 41 (fun b => .slice (Gp (some b)) 1 1) 23 ([.slice (Gp G22) ((e2v_0 ++ x12v.b).length) c23] : List Value) p10 (Goes.vs (by kernel_rfl)) (by kernel_rfl) ?_
      intro b28 w11 z11 p11
      have p11 : Hp nz wz S10 w11 (((some b28), .row 23 ([.slice (Gp G22) ((e2v_0 ++ x12v.b).length) c23] : List Value) (1 * (kSl (kInt .u8)).size) 0) :: (some gx12, .row 73 [.slice Ax12v_0 x12v.b.length cx12v_0, .int .i64 x12v.flags] 2 0) :: (some lk, .obj (lpst 36 (lfr 58 [(7, .pointer (some ⟨gkq7, 0, none⟩)), (8, .pointer (some ⟨gkq8, 0, none⟩)), (9, .pointer (some ⟨gkq9, 0, none⟩)), (10, .pointer (some ⟨gkq10, 0, none⟩)), (21, .func (.func 47) #[] #[.pointer (some ⟨gkq21b0, 0, none⟩), .pointer (some ⟨gkq21b1, 0, none⟩)])] jkk) #[22, 23] (rfAssign (sub [1, 1, 1, 1, 1, 0, 1, 0] B36)) (rfBody (sub [1, 1, 1, 1, 1, 0, 1, 0] B36)) rk .busy none)) :: (some gkq7, .row 41 [.slice (Gp Ge1v_0) e1v_0.length ce1v_0] 1 0) :: (Ge1v_0, .row 23 cse1v_0 (ce1v_0 * (kSl (kInt .u8)).size) 0) :: (some gkq8, .row 23 [.slice (Gp G22) ((e2v_0 ++ x12v.b).length) c23] 1 0) :: (G22, .row 5 cs24 (c23 * (kInt .u8).size) cs24.length) :: (some gkq9, .row 3 [.int .i64 e3v_0] 1 0) :: (some gkq10, .row 4 [.bool true] 1 0) :: (some gkq21b0, .row 23 [.slice Ae5v_0 e5v_0.length ce5v_0] 1 0) :: (some gkq21b1, .row 3 [.int .i64 e6v_0] 1 0) :: Lr) := p11
      refine guard_some' h fun g34 h => ?_
      refine Op_.ap_n (K := (kSl (kInt .u8))) 41 (.tmp 50) (.tmp 52) 53 41 23 4 (.slice none 0 0) 24 e1v_0.length ce1v_0 1 e1v_0 [(e2v_0 ++ x12v.b)] (e1v_0 ++ [(e2v_0 ++ x12v.b)]) (Gp (some b28)) 1 rfl rfl rfl p11 rfl (fe1v_0.ext ((((z6.trans z7).trans z8).trans z10).trans z11)) (Goes.vs (by kernel_rfl)) (by kernel_rfl) (by kernel_rfl) (by kernel_rfl) (by kernel_rfl) rfl (by decide) (f29.ext z11) (src_own p11 (q := 0) rfl) (by have := g34; omega) (by have := g34; omega) ?_
      intro w12 G35 c36 cs37 z12 p12 f38
      refine Goes.runs 2 [(54, .int .i64 x11), (55, .int .i64 (wr .i64 (x11 + 1)))] [.inRegion (opsOf (sub [1, 1, 1, 1, 1, 0, 1, 0, 1, 0, 1, 1, 1, 0, 0] B36)) [6, 7], .code (sub [1, 1, 1, 1, 1, 0, 1, 0, 1, 0, 1, 1, 1, 0, 1] B36), .inBlock 1] (by kernel_rfl) ?_
      refine Op_.st 41 (.tmp 7) (.tmp 53) 0 3 gkq7 0 (.slice (Gp G35) ((e1v_0 ++ [(e2v_0 ++ x12v.b)]).length) c36) [.slice (Gp G35) ((e1v_0 ++ [(e2v_0 ++ x12v.b)]).length) c36] p12 rfl (Goes.ss (by kernel_rfl)) (by kernel_rfl) (by kernel_rfl) (by kernel_rfl) (by kernel_rfl) (Nat.zero_le _) (by simp only [List.length_cons, List.length_nil]; omega) (by simp [Value.oneCell']) ?_
      intro w13 z13 p13
      refine Op_.st 3 (.tmp 9) (.tmp 55) 0 7 gkq9 0 (.int .i64 (wr .i64 (x11 + 1))) [.int .i64 (wr .i64 (x11 + 1))] p13 rfl (Goes.ss (by kernel_rfl)) (by kernel_rfl) (by kernel_rfl) (by kernel_rfl) (by kernel_rfl) (Nat.zero_le _) (by simp only [List.length_cons, List.length_nil]; omega) (by simp [Value.oneCell']) ?_
      intro w14 z14 p14
      refine Goes.runs 2 [] [.inRegion (opsOf (sub [1, 1, 1, 1, 1, 0, 1, 0, 1, 0, 1, 1, 1, 0, 1] B36)) [0, 1], .inBlock 1] (by kernel_rfl) ?_
      refine Op_.st 23 (.tmp 8) (.const (.slice none 0 0)) 0 5 gkq8 0 (.slice none 0 0) [.slice none 0 0] p14 rfl (Goes.ss (by kernel_rfl)) (by kernel_rfl) (by kernel_rfl) (by kernel_rfl) (by kernel_rfl) (Nat.zero_le _) (by simp only [List.length_cons, List.length_nil]; omega) (by simp [Value.oneCell']) ?_
      intro w15 z15 p15
      refine Op_.st 4 (.tmp 10) (.const (.bool false)) 0 8 gkq10 0 (.bool false) [.bool false] p15 rfl (Goes.ss (by kernel_rfl)) (by kernel_rfl) (by kernel_rfl) (by kernel_rfl) (by kernel_rfl) (Nat.zero_le _) (by simp only [List.length_cons, List.length_nil]; omega) (by simp [Value.oneCell']) ?_
      intro w16 z16 p16
      refine Goes.runs 2 [] [] (by kernel_rfl) ?_
      have p16 : Hp nz wz S10 w16 ((none, .row 5 [] (0 * (kInt .u8).size) 0) :: ((some b28), .row 23 ([.slice (Gp G22) ((e2v_0 ++ x12v.b).length) c23] : List Value) (1 * (kSl (kInt .u8)).size) 0) :: (some gx12, .row 73 [.slice Ax12v_0 x12v.b.length cx12v_0, .int .i64 x12v.flags] 2 0) :: (some lk, .obj (lpst 36 (lfr 58 [(7, .pointer (some ⟨gkq7, 0, none⟩)), (8, .pointer (some ⟨gkq8, 0, none⟩)), (9, .pointer (some ⟨gkq9, 0, none⟩)), (10, .pointer (some ⟨gkq10, 0, none⟩)), (21, .func (.func 47) #[] #[.pointer (some ⟨gkq21b0, 0, none⟩), .pointer (some ⟨gkq21b1, 0, none⟩)])] jkk) #[22, 23] (rfAssign (sub [1, 1, 1, 1, 1, 0, 1, 0] B36)) (rfBody (sub [1, 1, 1, 1, 1, 0, 1, 0] B36)) rk .busy none)) :: (some gkq7, .row 41 [.slice (Gp G35) ((e1v_0 ++ [(e2v_0 ++ x12v.b)]).length) c36] 1 0) :: (G35, .row 23 cs37 (c36 * (kSl (kInt .u8)).size) 0) :: (some gkq8, .row 23 [.slice none 0 0] 1 0) :: (G22, .row 5 cs24 (c23 * (kInt .u8).size) cs24.length) :: (some gkq9, .row 3 [.int .i64 (wr .i64 (x11 + 1))] 1 0) :: (some gkq10, .row 4 [.bool false] 1 0) :: (some gkq21b0, .row 23 [.slice Ae5v_0 e5v_0.length ce5v_0] 1 0) :: (some gkq21b1, .row 3 [.int .i64 e6v_0] 1 0) :: Lr) := p16.nilRow' 5
      have p16 := (p16.front 1 _ rfl).drop
      have p16 := (p16.front 1 _ rfl).drop
      have p16 := (p16.front 5 _ rfl).drop
      have p16 := p16.front 8 _ rfl
      have p16 := p16.front 8 _ rfl
      have p16 := p16.front 8 _ rfl
      have p16 := p16.front 8 _ rfl
      have p16 := p16.front 4 _ rfl
      have p16 := p16.front 8 _ rfl
      have p16 := p16.front 8 _ rfl
      have p16 := p16.front 8 _ rfl
      have p16 := p16.front 8 _ rfl
      obtain rfl := Option.some.inj h
      refine Goes.endR 0 p16 rfl ?_
      intro w17 z17 p17
      exact ⟨S10, G35, (e1v_0 ++ [(e2v_0 ++ x12v.b)]).length, c36, cs37, none, 0, 0, [], Ae5v_0, e5v_0.length, ce5v_0, rfl, (((((((((((hx.trans z6).trans z7).trans z8).trans z10).trans z11).trans z12).trans z13).trans z14).trans z15).trans z16).trans z17), p17, (f38.ext ((((z13.trans z14).trans z15).trans z16).trans z17)), rfl, (Els.nil (K := (kInt .u8))), rfl, (fe5v_0.ext ((((((((((z6.trans z7).trans z8).trans z10).trans z11).trans z12).trans z13).trans z14).trans z15).trans z16).trans z17)), rfl⟩

/-! tidepole/frame.Read -/
theorem W.frame_Read_r (kq7v_0 : List (List Int)) (kq8v_0 : List Int) (kq9v_0 : Int) (kq10v_0 : Bool) (kq21b0v_0 : List Int) (kq21b1v_0 : Int) (a0 : Int) (a1 : T72) (r : Nat × (List (List Int)) × (List Int) × Int × Bool × (List Int) × Int) (h : M.frame_Read_r kq7v_0 kq8v_0 kq9v_0 kq10v_0 kq21b0v_0 kq21b1v_0 a0 a1 = some r) (nz : Nat) (wz : World) (S0 : Fz) (w0 : World) (Lr : List Ent) (lk : Nat) (rk : Nat) (jkk : Nat → Value) (gkq7 : Nat) (Gkq7v_0 : Option Nat) (nkq7v_0 : Nat) (ckq7v_0 : Nat) (cskq7v_0 : List Value) (gkq8 : Nat) (Gkq8v_0 : Option Nat) (nkq8v_0 : Nat) (ckq8v_0 : Nat) (cskq8v_0 : List Value) (gkq9 : Nat) (gkq10 : Nat) (gkq21b0 : Nat) (Akq21b0v_0 : Option Addr) (nkq21b0v_0 : Nat) (ckq21b0v_0 : Nat) (gkq21b1 : Nat) (Aa1_0 : Option Addr) (na1_0 : Nat) (ca1_0 : Nat) (p0 : Hp nz wz S0 w0 ((some lk, .obj (lpst 36 (lfr 58 [(7, .pointer (some ⟨gkq7, 0, none⟩)), (8, .pointer (some ⟨gkq8, 0, none⟩)), (9, .pointer (some ⟨gkq9, 0, none⟩)), (10, .pointer (some ⟨gkq10, 0, none⟩)), (21, .func (.func 47) #[] #[.pointer (some ⟨gkq21b0, 0, none⟩), .pointer (some ⟨gkq21b1, 0, none⟩)])] jkk) #[22, 23] (rfAssign (sub [1, 1, 1, 1, 1, 0, 1, 0] B36)) (rfBody (sub [1, 1, 1, 1, 1, 0, 1, 0] B36)) rk .ready none)) :: (some gkq7, .row 41 [.slice (Gp Gkq7v_0) nkq7v_0 ckq7v_0] 1 0) :: (Gkq7v_0, .row 23 cskq7v_0 (ckq7v_0 * (kSl (kInt .u8)).size) 0) :: (some gkq8, .row 23 [.slice (Gp Gkq8v_0) nkq8v_0 ckq8v_0] 1 0) :: (Gkq8v_0, .row 5 cskq8v_0 (ckq8v_0 * (kInt .u8).size) 0) :: (some gkq9, .row 3 [.int .i64 kq9v_0] 1 0) :: (some gkq10, .row 4 [.bool kq10v_0] 1 0) :: (some gkq21b0, .row 23 [.slice Akq21b0v_0 nkq21b0v_0 ckq21b0v_0] 1 0) :: (some gkq21b1, .row 3 [.int .i64 kq21b1v_0] 1 0) :: Lr)) (fkq7v_0 : Els (kSl (kInt .u8)) S0 w0 cskq7v_0 kq7v_0) (lkq7v_0 : kq7v_0.length = nkq7v_0) (fkq8v_0 : Els (kInt .u8) S0 w0 cskq8v_0 kq8v_0) (lkq8v_0 : kq8v_0.length = nkq8v_0) (fkq21b0v_0 : Rd (kInt .u8) S0 w0 Akq21b0v_0 ckq21b0v_0 kq21b0v_0) (lkq21b0v_0 : kq21b0v_0.length = nkq21b0v_0) (fa1_0 : Rd (kInt .u8) S0 w0 Aa1_0 ca1_0 a1.b) (la1_0 : a1.b.length = na1_0) :
    Goes Try.prog (rbase 36 lk) [.code (rfAssign (sub [1, 1, 1, 1, 1, 0, 1, 0] B36)), .beginRound, .code (rfBody (sub [1, 1, 1, 1, 1, 0, 1, 0] B36))] ⟨setp (lfr 58 [(7, .pointer (some ⟨gkq7, 0, none⟩)), (8, .pointer (some ⟨gkq8, 0, none⟩)), (9, .pointer (some ⟨gkq9, 0, none⟩)), (10, .pointer (some ⟨gkq10, 0, none⟩)), (21, .func (.func 47) #[] #[.pointer (some ⟨gkq21b0, 0, none⟩), .pointer (some ⟨gkq21b1, 0, none⟩)])] jkk) #[22, 23] #[.int .i64 a0, .agg #[.slice Aa1_0 na1_0 ca1_0, .int .i64 a1.flags]], []⟩ w0 (DoneR (Post.frame_Read_r nz wz S0 w0 Lr lk rk jkk gkq7 gkq8 gkq9 gkq10 gkq21b0 gkq21b1 r)) := by
  subst lkq7v_0
  subst lkq8v_0
  subst lkq21b0v_0
  subst la1_0
  refine Goes.jump 58 [(7, .pointer (some ⟨gkq7, 0, none⟩)), (8, .pointer (some ⟨gkq8, 0, none⟩)), (9, .pointer (some ⟨gkq9, 0, none⟩)), (10, .pointer (some ⟨gkq10, 0, none⟩)), (21, .func (.func 47) #[] #[.pointer (some ⟨gkq21b0, 0, none⟩), .pointer (some ⟨gkq21b1, 0, none⟩)]), (22, .int .i64 a0), (23, .agg #[.slice Aa1_0 a1.b.length ca1_0, .int .i64 a1.flags])] (by kernel_rfl) (fun junk => ?_)
  delta M.frame_Read_r at h
  refine Goes.runs 5 [(11, .int .i64 a0)] [.inRegion (opsOf (sub [1, 1, 1, 1, 1, 0, 1, 0, 0, 1] B36)) [0, 1], .beginRound, .code (sub [1, 1, 1, 1, 1, 0, 1, 0, 1] B36)] (by kernel_rfl) ?_
  refine Op_.alloc 73 12 0 (.agg #[.slice none 0 0, .int .i64 0]) [.slice none 0 0, .int .i64 0] p0 (Goes.vs (by kernel_rfl)) (by kernel_rfl) (by kernel_rfl) ?_
  intro b10 w2 z2 p2
  refine Op_.st 73 (.tmp 12) (.tmp 23) 0 0 b10 0 (.agg #[.slice Aa1_0 a1.b.length ca1_0, .int .i64 a1.flags]) [.slice Aa1_0 a1.b.length ca1_0, .int .i64 a1.flags] p2 rfl (Goes.ss (by kernel_rfl)) (by kernel_rfl) (by kernel_rfl) (by kernel_rfl) (by kernel_rfl) (Nat.zero_le _) (by simp only [List.length_cons, List.length_nil]; omega) (by simp [Value.oneCell']) ?_
  intro w3 z3 p3
  refine Goes.runs 1 [] [.beginRound, .code (sub [1, 1, 1, 1, 1, 0, 1, 0, 1] B36)] (by kernel_rfl) ?_
  refine Goes.beginR 1 rfl p3 rfl ?_
  intro w4 z4 p4
  refine Goes.runs 5 [(24, .pointer (some ⟨b10, 1, none⟩))] [.inRegion (opsOf (sub [1, 1, 1, 1, 1, 0, 1, 0, 1, 0, 0, 0] B36)) [1, 2, 3, 4, 5, 6, 7, 8, 9, 10, 11, 12, 13, 14, 15, 16, 17], .code (sub [1, 1, 1, 1, 1, 0, 1, 0, 1, 0, 0, 1] B36), .code (sub [1, 1, 1, 1, 1, 0, 1, 0, 1, 0, 1] B36), .inBlock 1] (by kernel_rfl) ?_
  refine Op_.ld1 3 (.tmp 24) 25 3 ⟨b10, 1, none⟩ (.int .i64 a1.flags) (Goes.vs (by kernel_rfl)) (by kernel_rfl) (by kernel_rfl) ((p4.mem 0 rfl).cell 1 _ rfl) ?_
  refine Goes.runs 2 [(26, .int .i64 (iand .i64 a1.flags 1)), (27, .bool (!(decide (iand .i64 a1.flags 1 = 0))))] [.inRegion (opsOf (sub [1, 1, 1, 1, 1, 0, 1, 0, 1, 0, 0, 0] B36)) [4, 5, 6, 7, 8, 9, 10, 11, 12, 13, 14, 15, 16, 17], .code (sub [1, 1, 1, 1, 1, 0, 1, 0, 1, 0, 0, 1] B36), .code (sub [1, 1, 1, 1, 1, 0, 1, 0, 1, 0, 1] B36), .inBlock 1] (by kernel_rfl) ?_
  refine Op_.ld1 4 (.tmp 10) 28 4 ⟨gkq10, 0, none⟩ (.bool kq10v_0) (Goes.vs (by kernel_rfl)) (by kernel_rfl) (by kernel_rfl) ((p4.mem 7 rfl).cell 0 _ rfl) ?_
  refine Goes.runs 2 [(29, .bool ((!(decide (iand .i64 a1.flags 1 = 0))) == kq10v_0)), (30, .bool ((!(decide (iand .i64 a1.flags 1 = 0))) == kq10v_0))] [.inRegion (opsOf (sub [1, 1, 1, 1, 1, 0, 1, 0, 1, 0, 0, 0] B36)) [7, 8, 9, 10, 11, 12, 13, 14, 15, 16, 17], .code (sub [1, 1, 1, 1, 1, 0, 1, 0, 1, 0, 0, 1] B36), .code (sub [1, 1, 1, 1, 1, 0, 1, 0, 1, 0, 1] B36), .inBlock 1] (by kernel_rfl) ?_
  refine ite_some h (fun h12 h => ?_) (fun h12 h => ?_)
  · rw [h12]
    refine Goes.runs 12 [(31, undef), (32, undef), (33, undef), (34, undef), (35, undef), (36, undef), (37, undef), (38, undef), (39, undef), (40, undef), (41, .bool true)] [.code (sub [1, 1, 1, 1, 1, 0, 1, 0, 1, 0, 0, 1] B36), .code (sub [1, 1, 1, 1, 1, 0, 1, 0, 1, 0, 1] B36), .inBlock 1] (by kernel_rfl) ?_
    exact Goes.jump 58 [(7, .pointer (some ⟨gkq7, 0, none⟩)), (8, .pointer (some ⟨gkq8, 0, none⟩)), (9, .pointer (some ⟨gkq9, 0, none⟩)), (10, .pointer (some ⟨gkq10, 0, none⟩)), (11, .int .i64 a0), (12, .pointer (some ⟨b10, 0, none⟩)), (41, .bool true)] (by kernel_rfl) (W.frame_Read_r_l0 nz wz S0 w0 Lr lk rk jkk gkq7 gkq8 gkq9 gkq10 gkq21b0 gkq21b1 _ _ h _ _ ((((Ext.refl S0 w0).trans z2).trans z3).trans z4) b10 Aa1_0 a1.b.length ca1_0 Gkq7v_0 kq7v_0.length ckq7v_0 cskq7v_0 Gkq8v_0 kq8v_0.length ckq8v_0 cskq8v_0 Akq21b0v_0 kq21b0v_0.length ckq21b0v_0 p4 (fa1_0.ext ((z2.trans z3).trans z4)) rfl (fkq7v_0.ext ((z2.trans z3).trans z4)) rfl (fkq8v_0.ext ((z2.trans z3).trans z4)) rfl (fkq21b0v_0.ext ((z2.trans z3).trans z4)) rfl)
  · have h12' : ((!(decide (iand .i64 a1.flags 1 = 0))) == kq10v_0) = false := by simpa using h12
    rw [h12']
    refine Goes.runs 1 [(31, .pointer (some ⟨b10, 0, none⟩))] [.inRegion (opsOf (sub [1, 1, 1, 1, 1, 0, 1, 0, 1, 0, 0, 0] B36)) [8, 9, 10, 11, 12, 13, 14, 15, 16, 17], .code (sub [1, 1, 1, 1, 1, 0, 1, 0, 1, 0, 0, 1] B36), .code (sub [1, 1, 1, 1, 1, 0, 1, 0, 1, 0, 1] B36), .inBlock 1] (by kernel_rfl) ?_
    refine Op_.ld1 23 (.tmp 31) 32 23 ⟨b10, 0, none⟩ (.slice Aa1_0 a1.b.length ca1_0) (Goes.vs (by kernel_rfl)) (by kernel_rfl) (by kernel_rfl) ((p4.mem 0 rfl).cell 0 _ rfl) ?_
    refine Goes.runs 3 [(33, .int .i64 (a1.b.length : Int)), (34, .bool (decide ((a1.b.length : Int) < 244))), (35, .bool (decide ((a1.b.length : Int) < 244)))] [.inRegion (opsOf (sub [1, 1, 1, 1, 1, 0, 1, 0, 1, 0, 0, 0] B36)) [12, 13, 14, 15, 16, 17], .code (sub [1, 1, 1, 1, 1, 0, 1, 0, 1, 0, 0, 1] B36), .code (sub [1, 1, 1, 1, 1, 0, 1, 0, 1, 0, 1] B36), .inBlock 1] (by kernel_rfl) ?_
    refine ite_some h (fun h16 h => ?_) (fun h16 h => ?_)
    · rw [decide_eq_true h16]
      refine Goes.runs 1 [(36, .pointer (some ⟨b10, 1, none⟩))] [.inRegion (opsOf (sub [1, 1, 1, 1, 1, 0, 1, 0, 1, 0, 0, 0] B36)) [13, 14, 15, 16, 17], .code (sub [1, 1, 1, 1, 1, 0, 1, 0, 1, 0, 0, 1] B36), .code (sub [1, 1, 1, 1, 1, 0, 1, 0, 1, 0, 1] B36), .inBlock 1] (by kernel_rfl) ?_
      refine Op_.ld1 3 (.tmp 36) 37 3 ⟨b10, 1, none⟩ (.int .i64 a1.flags) (Goes.vs (by kernel_rfl)) (by kernel_rfl) (by kernel_rfl) ((p4.mem 0 rfl).cell 1 _ rfl) ?_
      refine Goes.runs 5 [(38, .int .i64 (iand .i64 a1.flags 2)), (39, .bool (decide (iand .i64 a1.flags 2 = 0))), (40, .bool (decide (iand .i64 a1.flags 2 = 0))), (41, .bool (decide (iand .i64 a1.flags 2 = 0)))] [.code (sub [1, 1, 1, 1, 1, 0, 1, 0, 1, 0, 0, 1] B36), .code (sub [1, 1, 1, 1, 1, 0, 1, 0, 1, 0, 1] B36), .inBlock 1] (by kernel_rfl) ?_
      exact Goes.jump 58 [(7, .pointer (some ⟨gkq7, 0, none⟩)), (8, .pointer (some ⟨gkq8, 0, none⟩)), (9, .pointer (some ⟨gkq9, 0, none⟩)), (10, .pointer (some ⟨gkq10, 0, none⟩)), (11, .int .i64 a0), (12, .pointer (some ⟨b10, 0, none⟩)), (41, .bool (decide (iand .i64 a1.flags 2 = 0)))] (by kernel_rfl) (W.frame_Read_r_l0 nz wz S0 w0 Lr lk rk jkk gkq7 gkq8 gkq9 gkq10 gkq21b0 gkq21b1 _ _ h _ _ ((((Ext.refl S0 w0).trans z2).trans z3).trans z4) b10 Aa1_0 a1.b.length ca1_0 Gkq7v_0 kq7v_0.length ckq7v_0 cskq7v_0 Gkq8v_0 kq8v_0.length ckq8v_0 cskq8v_0 Akq21b0v_0 kq21b0v_0.length ckq21b0v_0 p4 (fa1_0.ext ((z2.trans z3).trans z4)) rfl (fkq7v_0.ext ((z2.trans z3).trans z4)) rfl (fkq8v_0.ext ((z2.trans z3).trans z4)) rfl (fkq21b0v_0.ext ((z2.trans z3).trans z4)) rfl)
    · rw [decide_eq_false h16]
      refine Goes.runs 7 [(36, undef), (37, undef), (38, undef), (39, undef), (40, .bool false), (41, .bool false)] [.code (sub [1, 1, 1, 1, 1, 0, 1, 0, 1, 0, 0, 1] B36), .code (sub [1, 1, 1, 1, 1, 0, 1, 0, 1, 0, 1] B36), .inBlock 1] (by kernel_rfl) ?_
      exact Goes.jump 58 [(7, .pointer (some ⟨gkq7, 0, none⟩)), (8, .pointer (some ⟨gkq8, 0, none⟩)), (9, .pointer (some ⟨gkq9, 0, none⟩)), (10, .pointer (some ⟨gkq10, 0, none⟩)), (11, .int .i64 a0), (12, .pointer (some ⟨b10, 0, none⟩)), (41, .bool false)] (by kernel_rfl) (W.frame_Read_r_l0 nz wz S0 w0 Lr lk rk jkk gkq7 gkq8 gkq9 gkq10 gkq21b0 gkq21b1 _ _ h _ _ ((((Ext.refl S0 w0).trans z2).trans z3).trans z4) b10 Aa1_0 a1.b.length ca1_0 Gkq7v_0 kq7v_0.length ckq7v_0 cskq7v_0 Gkq8v_0 kq8v_0.length ckq8v_0 cskq8v_0 Akq21b0v_0 kq21b0v_0.length ckq21b0v_0 p4 (fa1_0.ext ((z2.trans z3).trans z4)) rfl (fkq7v_0.ext ((z2.trans z3).trans z4)) rfl (fkq8v_0.ext ((z2.trans z3).trans z4)) rfl (fkq21b0v_0.ext ((z2.trans z3).trans z4)) rfl)

/-! tidepole/frame.sectors$1 -/
def Post.frame_sectors_1 (nz : Nat) (wz : World) (S0 : Fz) (w0 : World) (Lr : List Ent) (lx0 : Nat) (rx0 : Nat) (jkx0 : Nat → Value) (gx0q7 : Nat) (gx0q8 : Nat) (gx0q9 : Nat) (gx0q10 : Nat) (gx0q21b0 : Nat) (gx0q21b1 : Nat) (r : Nat × (List (List Int)) × (List Int) × Int × Bool × (List Int) × Int) (v : Value) (w' : World) : Prop :=
  ∃ (S' : Fz) (Ge1v_0 : Option Nat) (ne1v_0 : Nat) (ce1v_0 : Nat) (cse1v_0 : List Value) (Ge2v_0 : Option Nat) (ne2v_0 : Nat) (ce2v_0 : Nat) (cse2v_0 : List Value) (Ae5v_0 : Option Addr) (ne5v_0 : Nat) (ce5v_0 : Nat), v = .tuple #[] ∧ Ext S0 w0 S' w' ∧ Hp nz wz S' w' ((some lx0, .obj (lpj 36 (lfr 58 [(7, .pointer (some ⟨gx0q7, 0, none⟩)), (8, .pointer (some ⟨gx0q8, 0, none⟩)), (9, .pointer (some ⟨gx0q9, 0, none⟩)), (10, .pointer (some ⟨gx0q10, 0, none⟩)), (21, .func (.func 47) #[] #[.pointer (some ⟨gx0q21b0, 0, none⟩), .pointer (some ⟨gx0q21b1, 0, none⟩)])] jkx0) #[22, 23] (rfAssign (sub [1, 1, 1, 1, 1, 0, 1, 0] B36)) (rfBody (sub [1, 1, 1, 1, 1, 0, 1, 0] B36)) rx0 pend_36_2 r.1)) :: (some gx0q7, .row 41 [.slice (Gp Ge1v_0) ne1v_0 ce1v_0] 1 0) :: (Ge1v_0, .row 23 cse1v_0 (ce1v_0 * (kSl (kInt .u8)).size) 0) :: (some gx0q8, .row 23 [.slice (Gp Ge2v_0) ne2v_0 ce2v_0] 1 0) :: (Ge2v_0, .row 5 cse2v_0 (ce2v_0 * (kInt .u8).size) 0) :: (some gx0q9, .row 3 [.int .i64 r.2.2.2.1] 1 0) :: (some gx0q10, .row 4 [.bool r.2.2.2.2.1] 1 0) :: (some gx0q21b0, .row 23 [.slice Ae5v_0 ne5v_0 ce5v_0] 1 0) :: (some gx0q21b1, .row 3 [.int .i64 r.2.2.2.2.2.2] 1 0) :: Lr) ∧ Els (kSl (kInt .u8)) S' w' cse1v_0 r.2.1 ∧ r.2.1.length = ne1v_0 ∧ Els (kInt .u8) S' w' cse2v_0 r.2.2.1 ∧ r.2.2.1.length = ne2v_0 ∧ Rd (kInt .u8) S' w' Ae5v_0 ce5v_0 r.2.2.2.2.2.1 ∧ r.2.2.2.2.2.1.length = ne5v_0

def L.frame_sectors_1_l0 (nz : Nat) (wz : World) (S0 : Fz) (w0 : World) (Lr : List Ent) (lx0 : Nat) (rx0 : Nat) (jkx0 : Nat → Value) (gx0q7 : Nat) (gx0q8 : Nat) (gx0q9 : Nat) (gx0q10 : Nat) (gx0q21b0 : Nat) (gx0q21b1 : Nat) : Int × (List (List Int)) × (List Int) × Int × Bool × (List Int) × Int → (Nat × (List (List Int)) × (List Int) × Int × Bool × (List Int) × Int) → Prop := fun ⟨x4, e1v_0, e2v_0, e3v_0, e4v_0, e5v_0, e6v_0⟩ r => ∀ S1 w1, Ext S0 w0 S1 w1 → ∀ (Ge1v_0 : Option Nat) (ne1v_0 : Nat) (ce1v_0 : Nat) (cse1v_0 : List Value) (Ge2v_0 : Option Nat) (ne2v_0 : Nat) (ce2v_0 : Nat) (cse2v_0 : List Value) (Ae5v_0 : Option Addr) (ne5v_0 : Nat) (ce5v_0 : Nat) (_ : Hp nz wz S1 w1 ((some lx0, .obj (lpst 36 (lfr 58 [(7, .pointer (some ⟨gx0q7, 0, none⟩)), (8, .pointer (some ⟨gx0q8, 0, none⟩)), (9, .pointer (some ⟨gx0q9, 0, none⟩)), (10, .pointer (some ⟨gx0q10, 0, none⟩)), (21, .func (.func 47) #[] #[.pointer (some ⟨gx0q21b0, 0, none⟩), .pointer (some ⟨gx0q21b1, 0, none⟩)])] jkx0) #[22, 23] (rfAssign (sub [1, 1, 1, 1, 1, 0, 1, 0] B36)) (rfBody (sub [1, 1, 1, 1, 1, 0, 1, 0] B36)) rx0 .ready none)) :: (some gx0q7, .row 41 [.slice (Gp Ge1v_0) ne1v_0 ce1v_0] 1 0) :: (Ge1v_0, .row 23 cse1v_0 (ce1v_0 * (kSl (kInt .u8)).size) 0) :: (some gx0q8, .row 23 [.slice (Gp Ge2v_0) ne2v_0 ce2v_0] 1 0) :: (Ge2v_0, .row 5 cse2v_0 (ce2v_0 * (kInt .u8).size) 0) :: (some gx0q9, .row 3 [.int .i64 e3v_0] 1 0) :: (some gx0q10, .row 4 [.bool e4v_0] 1 0) :: (some gx0q21b0, .row 23 [.slice Ae5v_0 ne5v_0 ce5v_0] 1 0) :: (some gx0q21b1, .row 3 [.int .i64 e6v_0] 1 0) :: Lr)) (_ : Els (kSl (kInt .u8)) S1 w1 cse1v_0 e1v_0) (_ : e1v_0.length = ne1v_0) (_ : Els (kInt .u8) S1 w1 cse2v_0 e2v_0) (_ : e2v_0.length = ne2v_0) (_ : Rd (kInt .u8) S1 w1 Ae5v_0 ce5v_0 e5v_0) (_ : e5v_0.length = ne5v_0) (junk : Nat → Value),
  Goes Try.prog (base 47) [.code (sub [1, 0, 0] B47), .inLoop (sub [1, 0, 0] B47), .inBlock 0] ⟨lfr 42 [(0, yieldV lx0), (1, .pointer (some ⟨gx0q21b0, 0, none⟩)), (2, .pointer (some ⟨gx0q21b1, 0, none⟩)), (4, .int .i64 x4)] junk, []⟩ w1 (Done Try.prog 47 (Rets (Post.frame_sectors_1 nz wz S0 w0 Lr lx0 rx0 jkx0 gx0q7 gx0q8 gx0q9 gx0q10 gx0q21b0 gx0q21b1 r)))

def L.frame_sectors_1_l1 (nz : Nat) (wz : World) (S0 : Fz) (w0 : World) (Lr : List Ent) (lx0 : Nat) (rx0 : Nat) (jkx0 : Nat → Value) (gx0q7 : Nat) (gx0q8 : Nat) (gx0q9 : Nat) (gx0q10 : Nat) (gx0q21b0 : Nat) (gx0q21b1 : Nat) : Int × Bool × (List (List Int)) × (List Int) × Int × Bool × (List Int) × Int → (Nat × (List (List Int)) × (List Int) × Int × Bool × (List Int) × Int) → Prop := fun ⟨x4, x41, e1v_0, e2v_0, e3v_0, e4v_0, e5v_0, e6v_0⟩ r => ∀ S1 w1, Ext S0 w0 S1 w1 → ∀ (Ge1v_0 : Option Nat) (ne1v_0 : Nat) (ce1v_0 : Nat) (cse1v_0 : List Value) (Ge2v_0 : Option Nat) (ne2v_0 : Nat) (ce2v_0 : Nat) (cse2v_0 : List Value) (Ae5v_0 : Option Addr) (ne5v_0 : Nat) (ce5v_0 : Nat) (_ : Hp nz wz S1 w1 ((some lx0, .obj (lpst 36 (lfr 58 [(7, .pointer (some ⟨gx0q7, 0, none⟩)), (8, .pointer (some ⟨gx0q8, 0, none⟩)), (9, .pointer (some ⟨gx0q9, 0, none⟩)), (10, .pointer (some ⟨gx0q10, 0, none⟩)), (21, .func (.func 47) #[] #[.pointer (some ⟨gx0q21b0, 0, none⟩), .pointer (some ⟨gx0q21b1, 0, none⟩)])] jkx0) #[22, 23] (rfAssign (sub [1, 1, 1, 1, 1, 0, 1, 0] B36)) (rfBody (sub [1, 1, 1, 1, 1, 0, 1, 0] B36)) rx0 .ready none)) :: (some gx0q7, .row 41 [.slice (Gp Ge1v_0) ne1v_0 ce1v_0] 1 0) :: (Ge1v_0, .row 23 cse1v_0 (ce1v_0 * (kSl (kInt .u8)).size) 0) :: (some gx0q8, .row 23 [.slice (Gp Ge2v_0) ne2v_0 ce2v_0] 1 0) :: (Ge2v_0, .row 5 cse2v_0 (ce2v_0 * (kInt .u8).size) 0) :: (some gx0q9, .row 3 [.int .i64 e3v_0] 1 0) :: (some gx0q10, .row 4 [.bool e4v_0] 1 0) :: (some gx0q21b0, .row 23 [.slice Ae5v_0 ne5v_0 ce5v_0] 1 0) :: (some gx0q21b1, .row 3 [.int .i64 e6v_0] 1 0) :: Lr)) (_ : Els (kSl (kInt .u8)) S1 w1 cse1v_0 e1v_0) (_ : e1v_0.length = ne1v_0) (_ : Els (kInt .u8) S1 w1 cse2v_0 e2v_0) (_ : e2v_0.length = ne2v_0) (_ : Rd (kInt .u8) S1 w1 Ae5v_0 ce5v_0 e5v_0) (_ : e5v_0.length = ne5v_0) (junk : Nat → Value),
  Goes Try.prog (base 47) [.code (sub [1, 0, 0, 0, 0, 1, 1] B47), .inBlock 1, .code (sub [1, 0, 0, 1] B47), .inLoop (sub [1, 0, 0] B47), .inBlock 0] ⟨lfr 42 [(0, yieldV lx0), (1, .pointer (some ⟨gx0q21b0, 0, none⟩)), (2, .pointer (some ⟨gx0q21b1, 0, none⟩)), (4, .int .i64 x4), (41, .bool x41)] junk, []⟩ w1 (Done Try.prog 47 (Rets (Post.frame_sectors_1 nz wz S0 w0 Lr lx0 rx0 jkx0 gx0q7 gx0q8 gx0q9 gx0q10 gx0q21b0 gx0q21b1 r)))

theorem W.frame_sectors_1_l0_all (nz : Nat) (wz : World) (S0 : Fz) (w0 : World) (Lr : List Ent) (lx0 : Nat) (rx0 : Nat) (jkx0 : Nat → Value) (gx0q7 : Nat) (gx0q8 : Nat) (gx0q9 : Nat) (gx0q10 : Nat) (gx0q21b0 : Nat) (gx0q21b1 : Nat) : (∀ a r, M.frame_sectors_1_l0 a = some r → (L.frame_sectors_1_l0 nz wz S0 w0 Lr lx0 rx0 jkx0 gx0q7 gx0q8 gx0q9 gx0q10 gx0q21b0 gx0q21b1) a r) ∧ (∀ a r, M.frame_sectors_1_l1 a = some r → (L.frame_sectors_1_l1 nz wz S0 w0 Lr lx0 rx0 jkx0 gx0q7 gx0q8 gx0q9 gx0q10 gx0q21b0 gx0q21b1) a r) := by
  refine M.frame_sectors_1_l0.mutual_partial_correctness (L.frame_sectors_1_l0 nz wz S0 w0 Lr lx0 rx0 jkx0 gx0q7 gx0q8 gx0q9 gx0q10 gx0q21b0 gx0q21b1) (L.frame_sectors_1_l1 nz wz S0 w0 Lr lx0 rx0 jkx0 gx0q7 gx0q8 gx0q9 gx0q10 gx0q21b0 gx0q21b1) ?_ ?_
  · intro rec_frame_sectors_1_l1 ih_frame_sectors_1_l1 ⟨x4, e1v_0, e2v_0, e3v_0, e4v_0, e5v_0, e6v_0⟩ r h S1 w1 hx Ge1v_0 ne1v_0 ce1v_0 cse1v_0 Ge2v_0 ne2v_0 ce2v_0 cse2v_0 Ae5v_0 ne5v_0 ce5v_0 p1 fe1v_0 le1v_0 fe2v_0 le2v_0 fe5v_0 le5v_0 junk
    dsimp only at h
    subst le1v_0
    subst le2v_0
    subst le5v_0
    refine Goes.runs 4 [] [.inRegion (opsOf (sub [1, 0, 0, 0, 0, 0] B47)) [0, 1, 2, 3, 4, 5, 6, 7, 8, 9, 10, 11, 12, 13, 14, 15, 16], .code (sub [1, 0, 0, 0, 0, 1] B47), .inBlock 1, .code (sub [1, 0, 0, 1] B47), .inLoop (sub [1, 0, 0] B47), .inBlock 0] (by kernel_rfl) ?_
    refine Op_.ld1 23 (.tmp 1) 12 23 ⟨gx0q21b0, 0, none⟩ (.slice Ae5v_0 e5v_0.length ce5v_0) (Goes.vs (by kernel_rfl)) (by kernel_rfl) (by kernel_rfl) ((p1.mem 7 rfl).cell 0 _ rfl) ?_
    refine Op_.ld1 23 (.tmp 1) 13 23 ⟨gx0q21b0, 0, none⟩ (.slice Ae5v_0 e5v_0.length ce5v_0) (Goes.vs (by kernel_rfl)) (by kernel_rfl) (by kernel_rfl) ((p1.mem 7 rfl).cell 0 _ rfl) ?_
    refine Goes.runs 4 [(14, .int .i64 (e5v_0.length : Int)), (15, .int .i64 x4), (16, .int .i64 (wr .i64 (x4 * 256))), (17, .int .i64 (imn (e5v_0.length : Int) (wr .i64 (x4 * 256))))] [.inRegion (opsOf (sub [1, 0, 0, 0, 0, 0] B47)) [6, 7, 8, 9, 10, 11, 12, 13, 14, 15, 16], .code (sub [1, 0, 0, 0, 0, 1] B47), .inBlock 1, .code (sub [1, 0, 0, 1] B47), .inLoop (sub [1, 0, 0] B47), .inBlock 0] (by kernel_rfl) ?_
    refine guard_some' h fun g12 h => ?_
    refine guard_some' h fun g13 h => ?_
    refine let_some h fun v17 e18 h => ?_
    refine Op_.slR_n 23 (.tmp 12) (some (.tmp 17)) none 18 23 5 (imn (e5v_0.length : Int) (wr .i64 (x4 * 256))) (e5v_0.length : Int) v17 rfl e18 fe5v_0 (Goes.vs (by kernel_rfl)) (by kernel_rfl) (by kernel_rfl) (by kernel_rfl) (Bnd.at_ .i64 (by kernel_rfl)) Bnd.no g12 g13 (Int.le_refl _) ?_
    intro A14 c15 f16
    refine bind_some' h fun y19 e20 h => ?_
    refine Op_.call (.call { callee := .value (.func 48), args := #[(.tmp 18)], argTypes := #[23] }) 19 52 48 #[.slice A14 v17.length c15] (Goes.cs (by kernel_rfl)) (by kernel_rfl) (W.frame_First v17 y19 e20 nz wz S1 w1 ((some lx0, .obj (lpst 36 (lfr 58 [(7, .pointer (some ⟨gx0q7, 0, none⟩)), (8, .pointer (some ⟨gx0q8, 0, none⟩)), (9, .pointer (some ⟨gx0q9, 0, none⟩)), (10, .pointer (some ⟨gx0q10, 0, none⟩)), (21, .func (.func 47) #[] #[.pointer (some ⟨gx0q21b0, 0, none⟩), .pointer (some ⟨gx0q21b1, 0, none⟩)])] jkx0) #[22, 23] (rfAssign (sub [1, 1, 1, 1, 1, 0, 1, 0] B36)) (rfBody (sub [1, 1, 1, 1, 1, 0, 1, 0] B36)) rx0 .ready none)) :: (some gx0q7, .row 41 [.slice (Gp Ge1v_0) e1v_0.length ce1v_0] 1 0) :: (Ge1v_0, .row 23 cse1v_0 (ce1v_0 * (kSl (kInt .u8)).size) 0) :: (some gx0q8, .row 23 [.slice (Gp Ge2v_0) e2v_0.length ce2v_0] 1 0) :: (Ge2v_0, .row 5 cse2v_0 (ce2v_0 * (kInt .u8).size) 0) :: (some gx0q9, .row 3 [.int .i64 e3v_0] 1 0) :: (some gx0q10, .row 4 [.bool e4v_0] 1 0) :: (some gx0q21b0, .row 23 [.slice Ae5v_0 e5v_0.length ce5v_0] 1 0) :: (some gx0q21b1, .row 3 [.int .i64 e6v_0] 1 0) :: Lr) A14 v17.length c15 p1 f16 rfl) ?_
    rintro _ w2 ⟨S2, Gr_2_1, nr_2_1, cr_2_1, csr_2_1, rfl, z2, p2, fr_2_1, rfl⟩
    refine Goes.runs 14 [(11, .tuple #[.int .i64 y19.1, .slice (Gp Gr_2_1) y19.2.1.length cr_2_1, .int .i64 y19.2.2.1, .int .i64 y19.2.2.2]), (20, .int .i64 y19.1), (21, .slice (Gp Gr_2_1) y19.2.1.length cr_2_1), (22, .int .i64 y19.2.2.1), (23, .int .i64 y19.2.2.2), (5, .int .i64 y19.1), (6, .slice (Gp Gr_2_1) y19.2.1.length cr_2_1), (7, .int .i64 y19.2.2.1), (8, .int .i64 y19.2.2.2), (24, .int .i64 y19.2.2.2), (25, .bool (!(decide (y19.2.2.2 = 0))))] [.inRegion (opsOf (sub [1, 0, 0, 0, 0, 1, 0] B47)) [2, 3, 4, 5, 6, 7, 8, 9, 10, 11, 12, 13, 14, 15, 16, 17], .code (sub [1, 0, 0, 0, 0, 1, 1] B47), .inBlock 1, .code (sub [1, 0, 0, 1] B47), .inLoop (sub [1, 0, 0] B47), .inBlock 0] (by kernel_rfl) ?_
    refine Goes.runs 1 [(26, .bool (!(decide (y19.2.2.2 = 0))))] [.inRegion (opsOf (sub [1, 0, 0, 0, 0, 1, 0] B47)) [3, 4, 5, 6, 7, 8, 9, 10, 11, 12, 13, 14, 15, 16, 17], .code (sub [1, 0, 0, 0, 0, 1, 1] B47), .inBlock 1, .code (sub [1, 0, 0, 1] B47), .inLoop (sub [1, 0, 0] B47), .inBlock 0] (by kernel_rfl) ?_
    refine ite_some h (fun h22 h => ?_) (fun h22 h => ?_)
    · rw [decide_eq_true h22]
      refine Goes.runs 1 [(27, .int .i64 y19.1)] [.inRegion (opsOf (sub [1, 0, 0, 0, 0, 1, 0] B47)) [4, 5, 6, 7, 8, 9, 10, 11, 12, 13, 14, 15, 16, 17], .code (sub [1, 0, 0, 0, 0, 1, 1] B47), .inBlock 1, .code (sub [1, 0, 0, 1] B47), .inLoop (sub [1, 0, 0] B47), .inBlock 0] (by kernel_rfl) ?_
      refine Op_.ld1 3 (.tmp 2) 28 3 ⟨gx0q21b1, 0, none⟩ (.int .i64 e6v_0) (Goes.vs (by kernel_rfl)) (by kernel_rfl) (by kernel_rfl) ((p2.mem 9 rfl).cell 0 _ rfl) ?_
      refine Goes.runs 5 [(29, .int .i64 x4), (30, .int .i64 (wr .i64 (e6v_0 + x4))), (31, .bool (!(decide (y19.1 = wr .i64 (e6v_0 + x4))))), (32, .bool (!(decide (y19.1 = wr .i64 (e6v_0 + x4))))), (33, .bool (!(decide (y19.1 = wr .i64 (e6v_0 + x4)))))] [.inRegion (opsOf (sub [1, 0, 0, 0, 0, 1, 0] B47)) [10, 11, 12, 13, 14, 15, 16, 17], .code (sub [1, 0, 0, 0, 0, 1, 1] B47), .inBlock 1, .code (sub [1, 0, 0, 1] B47), .inLoop (sub [1, 0, 0] B47), .inBlock 0] (by kernel_rfl) ?_
      refine ite_some h (fun h23 h => ?_) (fun h23 h => ?_)
      · rw [decide_eq_true h23]
        refine Goes.runs 5 [(34, yieldV lx0), (35, .int .i64 x4), (36, .slice (Gp Gr_2_1) y19.2.1.length cr_2_1), (37, .int .i64 y19.2.2.1), (38, .agg #[.slice (Gp Gr_2_1) y19.2.1.length cr_2_1, .int .i64 y19.2.2.1])] [.inRegion (opsOf (sub [1, 0, 0, 0, 0, 1, 0] B47)) [15, 16, 17], .code (sub [1, 0, 0, 0, 0, 1, 1] B47), .inBlock 1, .code (sub [1, 0, 0, 1] B47), .inLoop (sub [1, 0, 0] B47), .inBlock 0] (by kernel_rfl) ?_
        obtain ⟨S3, z3, p3, f24⟩ := p2.freezeRd 0 rfl fr_2_1 (by decide)
        have p3 := p3.front 9 _ rfl
        have p3 := p3.front 9 _ rfl
        have p3 := p3.front 9 _ rfl
        have p3 := p3.front 9 _ rfl
        have p3 := p3.front 9 _ rfl
        have p3 := p3.front 9 _ rfl
        have p3 := p3.front 9 _ rfl
        have p3 := p3.front 9 _ rfl
        have p3 := p3.front 9 _ rfl
        refine bind_some' h fun y25 e26 h => ?_
        refine Goes.yieldAt (.call { callee := .value (.tmp 34), args := #[(.tmp 35), (.tmp 38)], argTypes := #[3, 73] }) 39 4 0 lx0 #[.int .i64 x4, .agg #[.slice (Gp Gr_2_1) y19.2.1.length cr_2_1, .int .i64 y19.2.2.1]] p3 rfl (by kernel_rfl) rfl (fun _ => by kernel_rfl) rfl (W.frame_Read_r e1v_0 e2v_0 e3v_0 e4v_0 e5v_0 e6v_0 x4 (⟨y19.2.1, y19.2.2.1⟩ : T72) y25 e26 nz wz S3 w2 ((Gr_2_1, .row 5 csr_2_1 (cr_2_1 * (kInt .u8).size) csr_2_1.length) :: Lr) lx0 rx0 jkx0 gx0q7 Ge1v_0 e1v_0.length ce1v_0 cse1v_0 gx0q8 Ge2v_0 e2v_0.length ce2v_0 cse2v_0 gx0q9 gx0q10 gx0q21b0 Ae5v_0 e5v_0.length ce5v_0 gx0q21b1 (Gp Gr_2_1) y19.2.1.length cr_2_1 p3 (fe1v_0.ext (z2.trans z3)) rfl (fe2v_0.ext (z2.trans z3)) rfl (fe5v_0.ext (z2.trans z3)) rfl f24 rfl) ?_
        rintro _ w4 ⟨S4, Ge1_4v_0, ne1_4v_0, ce1_4v_0, cse1_4v_0, Ge2_4v_0, ne2_4v_0, ce2_4v_0, cse2_4v_0, Ae5_4v_0, ne5_4v_0, ce5_4v_0, rfl, z4, p4, fe1_4v_0, rfl, fe2_4v_0, rfl, fe5_4v_0, rfl⟩
        refine Goes.runs 3 [(40, .bool (!(decide (y25.1 = 0)))), (41, .bool (!(decide (y25.1 = 0))))] [.code (sub [1, 0, 0, 0, 0, 1, 1] B47), .inBlock 1, .code (sub [1, 0, 0, 1] B47), .inLoop (sub [1, 0, 0] B47), .inBlock 0] (by kernel_rfl) ?_
        refine ite_some h (fun h29 h => ?_) (fun h29 h => ?_)
        · rw [decide_eq_true h29]
          have p4 : Hp nz wz S4 w4 ((some lx0, .obj (lpst 36 (lfr 58 [(7, .pointer (some ⟨gx0q7, 0, none⟩)), (8, .pointer (some ⟨gx0q8, 0, none⟩)), (9, .pointer (some ⟨gx0q9, 0, none⟩)), (10, .pointer (some ⟨gx0q10, 0, none⟩)), (21, .func (.func 47) #[] #[.pointer (some ⟨gx0q21b0, 0, none⟩), .pointer (some ⟨gx0q21b1, 0, none⟩)])] jkx0) #[22, 23] (rfAssign (sub [1, 1, 1, 1, 1, 0, 1, 0] B36)) (rfBody (sub [1, 1, 1, 1, 1, 0, 1, 0] B36)) rx0 .ready none)) :: (some gx0q7, .row 41 [.slice (Gp Ge1_4v_0) y25.2.1.length ce1_4v_0] 1 0) :: (Ge1_4v_0, .row 23 cse1_4v_0 (ce1_4v_0 * (kSl (kInt .u8)).size) 0) :: (some gx0q8, .row 23 [.slice (Gp Ge2_4v_0) y25.2.2.1.length ce2_4v_0] 1 0) :: (Ge2_4v_0, .row 5 cse2_4v_0 (ce2_4v_0 * (kInt .u8).size) 0) :: (some gx0q9, .row 3 [.int .i64 y25.2.2.2.1] 1 0) :: (some gx0q10, .row 4 [.bool y25.2.2.2.2.1] 1 0) :: (some gx0q21b0, .row 23 [.slice Ae5_4v_0 y25.2.2.2.2.2.1.length ce5_4v_0] 1 0) :: (some gx0q21b1, .row 3 [.int .i64 y25.2.2.2.2.2.2] 1 0) :: (Gr_2_1, .row 5 csr_2_1 (cr_2_1 * (kInt .u8).size) csr_2_1.length) :: Lr) := by have hh := p4; rw [h29] at hh; exact hh
          have p4 := (p4.front 9 _ rfl).drop
          exact Goes.jump 42 [(0, yieldV lx0), (1, .pointer (some ⟨gx0q21b0, 0, none⟩)), (2, .pointer (some ⟨gx0q21b1, 0, none⟩)), (4, .int .i64 x4), (41, .bool (!true))] (by kernel_rfl) (ih_frame_sectors_1_l1 _ _ h _ _ (((hx.trans z2).trans z3).trans z4) Ge1_4v_0 y25.2.1.length ce1_4v_0 cse1_4v_0 Ge2_4v_0 y25.2.2.1.length ce2_4v_0 cse2_4v_0 Ae5_4v_0 y25.2.2.2.2.2.1.length ce5_4v_0 p4 fe1_4v_0 rfl fe2_4v_0 rfl fe5_4v_0 rfl)
        · rw [decide_eq_false h29]
          refine Goes.runs 1 [] [.code (sub [1, 0, 0, 0, 0, 1, 1, 0] B47), .inBlock 1, .code (sub [1, 0, 0, 1] B47), .inLoop (sub [1, 0, 0] B47), .inBlock 0] (by kernel_rfl) ?_
          obtain rfl := Option.some.inj h
          have p4 := (p4.front 9 _ rfl).drop
          exact Goes.ret (fn := Try.f47) (by kernel_rfl) (v := .tuple #[]) (by kernel_rfl) ⟨S4, Ge1_4v_0, y25.2.1.length, ce1_4v_0, cse1_4v_0, Ge2_4v_0, y25.2.2.1.length, ce2_4v_0, cse2_4v_0, Ae5_4v_0, y25.2.2.2.2.2.1.length, ce5_4v_0, rfl, (((hx.trans z2).trans z3).trans z4), p4, fe1_4v_0, rfl, fe2_4v_0, rfl, fe5_4v_0, rfl⟩
      · rw [decide_eq_false h23]
        refine Goes.runs 9 [(34, undef), (35, undef), (36, undef), (37, undef), (38, undef), (39, undef), (40, undef), (41, .bool true)] [.code (sub [1, 0, 0, 0, 0, 1, 1] B47), .inBlock 1, .code (sub [1, 0, 0, 1] B47), .inLoop (sub [1, 0, 0] B47), .inBlock 0] (by kernel_rfl) ?_
        have p2 := (p2.front 0 _ rfl).drop
        exact Goes.jump 42 [(0, yieldV lx0), (1, .pointer (some ⟨gx0q21b0, 0, none⟩)), (2, .pointer (some ⟨gx0q21b1, 0, none⟩)), (4, .int .i64 x4), (41, .bool true)] (by kernel_rfl) (ih_frame_sectors_1_l1 _ _ h _ _ (hx.trans z2) Ge1v_0 e1v_0.length ce1v_0 cse1v_0 Ge2v_0 e2v_0.length ce2v_0 cse2v_0 Ae5v_0 e5v_0.length ce5v_0 p2 (fe1v_0.ext z2) rfl (fe2v_0.ext z2) rfl (fe5v_0.ext z2) rfl)
    · rw [decide_eq_false h22]
      refine Goes.runs 14 [(27, undef), (28, undef), (29, undef), (30, undef), (31, undef), (32, .bool true), (33, .bool true), (34, undef), (35, undef), (36, undef), (37, undef), (38, undef), (39, undef), (40, undef)] [.inRegion (opsOf (sub [1, 0, 0, 0, 0, 1, 0] B47)) [17], .code (sub [1, 0, 0, 0, 0, 1, 1] B47), .inBlock 1, .code (sub [1, 0, 0, 1] B47), .inLoop (sub [1, 0, 0] B47), .inBlock 0] (by kernel_rfl) ?_
      refine Goes.runs 2 [(41, .bool true)] [.code (sub [1, 0, 0, 0, 0, 1, 1] B47), .inBlock 1, .code (sub [1, 0, 0, 1] B47), .inLoop (sub [1, 0, 0] B47), .inBlock 0] (by kernel_rfl) ?_
      have p2 := (p2.front 0 _ rfl).drop
      exact Goes.jump 42 [(0, yieldV lx0), (1, .pointer (some ⟨gx0q21b0, 0, none⟩)), (2, .pointer (some ⟨gx0q21b1, 0, none⟩)), (4, .int .i64 x4), (41, .bool true)] (by kernel_rfl) (ih_frame_sectors_1_l1 _ _ h _ _ (hx.trans z2) Ge1v_0 e1v_0.length ce1v_0 cse1v_0 Ge2v_0 e2v_0.length ce2v_0 cse2v_0 Ae5v_0 e5v_0.length ce5v_0 p2 (fe1v_0.ext z2) rfl (fe2v_0.ext z2) rfl (fe5v_0.ext z2) rfl)
  · intro rec_frame_sectors_1_l0 ih_frame_sectors_1_l0 ⟨x4, x41, e1v_0, e2v_0, e3v_0, e4v_0, e5v_0, e6v_0⟩ r h S1 w1 hx Ge1v_0 ne1v_0 ce1v_0 cse1v_0 Ge2v_0 ne2v_0 ce2v_0 cse2v_0 Ae5v_0 ne5v_0 ce5v_0 p1 fe1v_0 le1v_0 fe2v_0 le2v_0 fe5v_0 le5v_0 junk
    dsimp only at h
    subst le1v_0
    subst le2v_0
    subst le5v_0
    refine ite_some h (fun h32 h => ?_) (fun h32 h => ?_)
    · rw [h32]
      refine Goes.runs 1 [] [.code (sub [1, 0, 0, 0, 0, 1, 1, 0] B47), .inBlock 1, .code (sub [1, 0, 0, 1] B47), .inLoop (sub [1, 0, 0] B47), .inBlock 0] (by kernel_rfl) ?_
      obtain rfl := Option.some.inj h
      exact Goes.ret (fn := Try.f47) (by kernel_rfl) (v := .tuple #[]) (by kernel_rfl) ⟨S1, Ge1v_0, e1v_0.length, ce1v_0, cse1v_0, Ge2v_0, e2v_0.length, ce2v_0, cse2v_0, Ae5v_0, e5v_0.length, ce5v_0, rfl, hx, p1, fe1v_0, rfl, fe2v_0, rfl, fe5v_0, rfl⟩
    · have h32' : x41 = false := by simpa using h32
      rw [h32']
      refine Goes.runs 9 [(9, .int .i64 x4), (10, .int .i64 (wr .i64 (x4 + 1))), (4, .int .i64 (wr .i64 (x4 + 1)))] [.code (sub [1, 0, 0] B47), .inLoop (sub [1, 0, 0] B47), .inBlock 0] (by kernel_rfl) ?_
      exact Goes.jump 42 [(0, yieldV lx0), (1, .pointer (some ⟨gx0q21b0, 0, none⟩)), (2, .pointer (some ⟨gx0q21b1, 0, none⟩)), (4, .int .i64 (wr .i64 (x4 + 1)))] (by kernel_rfl) (ih_frame_sectors_1_l0 _ _ h _ _ hx Ge1v_0 e1v_0.length ce1v_0 cse1v_0 Ge2v_0 e2v_0.length ce2v_0 cse2v_0 Ae5v_0 e5v_0.length ce5v_0 p1 fe1v_0 rfl fe2v_0 rfl fe5v_0 rfl)

theorem W.frame_sectors_1_l0 (nz : Nat) (wz : World) (S0 : Fz) (w0 : World) (Lr : List Ent) (lx0 : Nat) (rx0 : Nat) (jkx0 : Nat → Value) (gx0q7 : Nat) (gx0q8 : Nat) (gx0q9 : Nat) (gx0q10 : Nat) (gx0q21b0 : Nat) (gx0q21b1 : Nat) : ∀ a r, M.frame_sectors_1_l0 a = some r → (L.frame_sectors_1_l0 nz wz S0 w0 Lr lx0 rx0 jkx0 gx0q7 gx0q8 gx0q9 gx0q10 gx0q21b0 gx0q21b1) a r := (W.frame_sectors_1_l0_all nz wz S0 w0 Lr lx0 rx0 jkx0 gx0q7 gx0q8 gx0q9 gx0q10 gx0q21b0 gx0q21b1).1

theorem W.frame_sectors_1_l1 (nz : Nat) (wz : World) (S0 : Fz) (w0 : World) (Lr : List Ent) (lx0 : Nat) (rx0 : Nat) (jkx0 : Nat → Value) (gx0q7 : Nat) (gx0q8 : Nat) (gx0q9 : Nat) (gx0q10 : Nat) (gx0q21b0 : Nat) (gx0q21b1 : Nat) : ∀ a r, M.frame_sectors_1_l1 a = some r → (L.frame_sectors_1_l1 nz wz S0 w0 Lr lx0 rx0 jkx0 gx0q7 gx0q8 gx0q9 gx0q10 gx0q21b0 gx0q21b1) a r := (W.frame_sectors_1_l0_all nz wz S0 w0 Lr lx0 rx0 jkx0 gx0q7 gx0q8 gx0q9 gx0q10 gx0q21b0 gx0q21b1).2

/-! tidepole/frame.sectors$1 -/
theorem W.frame_sectors_1 (x0q7v_0 : List (List Int)) (x0q8v_0 : List Int) (x0q9v_0 : Int) (x0q10v_0 : Bool) (x0q21b0v_0 : List Int) (x0q21b1v_0 : Int) (r : Nat × (List (List Int)) × (List Int) × Int × Bool × (List Int) × Int) (h : M.frame_sectors_1 x0q7v_0 x0q8v_0 x0q9v_0 x0q10v_0 x0q21b0v_0 x0q21b1v_0 = some r) (nz : Nat) (wz : World) (S0 : Fz) (w0 : World) (Lr : List Ent) (lx0 : Nat) (rx0 : Nat) (jkx0 : Nat → Value) (gx0q7 : Nat) (Gx0q7v_0 : Option Nat) (nx0q7v_0 : Nat) (cx0q7v_0 : Nat) (csx0q7v_0 : List Value) (gx0q8 : Nat) (Gx0q8v_0 : Option Nat) (nx0q8v_0 : Nat) (cx0q8v_0 : Nat) (csx0q8v_0 : List Value) (gx0q9 : Nat) (gx0q10 : Nat) (gx0q21b0 : Nat) (Ax0q21b0v_0 : Option Addr) (nx0q21b0v_0 : Nat) (cx0q21b0v_0 : Nat) (gx0q21b1 : Nat) (p0 : Hp nz wz S0 w0 ((some lx0, .obj (lpst 36 (lfr 58 [(7, .pointer (some ⟨gx0q7, 0, none⟩)), (8, .pointer (some ⟨gx0q8, 0, none⟩)), (9, .pointer (some ⟨gx0q9, 0, none⟩)), (10, .pointer (some ⟨gx0q10, 0, none⟩)), (21, .func (.func 47) #[] #[.pointer (some ⟨gx0q21b0, 0, none⟩), .pointer (some ⟨gx0q21b1, 0, none⟩)])] jkx0) #[22, 23] (rfAssign (sub [1, 1, 1, 1, 1, 0, 1, 0] B36)) (rfBody (sub [1, 1, 1, 1, 1, 0, 1, 0] B36)) rx0 .ready none)) :: (some gx0q7, .row 41 [.slice (Gp Gx0q7v_0) nx0q7v_0 cx0q7v_0] 1 0) :: (Gx0q7v_0, .row 23 csx0q7v_0 (cx0q7v_0 * (kSl (kInt .u8)).size) 0) :: (some gx0q8, .row 23 [.slice (Gp Gx0q8v_0) nx0q8v_0 cx0q8v_0] 1 0) :: (Gx0q8v_0, .row 5 csx0q8v_0 (cx0q8v_0 * (kInt .u8).size) 0) :: (some gx0q9, .row 3 [.int .i64 x0q9v_0] 1 0) :: (some gx0q10, .row 4 [.bool x0q10v_0] 1 0) :: (some gx0q21b0, .row 23 [.slice Ax0q21b0v_0 nx0q21b0v_0 cx0q21b0v_0] 1 0) :: (some gx0q21b1, .row 3 [.int .i64 x0q21b1v_0] 1 0) :: Lr)) (fx0q7v_0 : Els (kSl (kInt .u8)) S0 w0 csx0q7v_0 x0q7v_0) (lx0q7v_0 : x0q7v_0.length = nx0q7v_0) (fx0q8v_0 : Els (kInt .u8) S0 w0 csx0q8v_0 x0q8v_0) (lx0q8v_0 : x0q8v_0.length = nx0q8v_0) (fx0q21b0v_0 : Rd (kInt .u8) S0 w0 Ax0q21b0v_0 cx0q21b0v_0 x0q21b0v_0) (lx0q21b0v_0 : x0q21b0v_0.length = nx0q21b0v_0) :
    Calls Try.prog 47 #[yieldV lx0, .pointer (some ⟨gx0q21b0, 0, none⟩), .pointer (some ⟨gx0q21b1, 0, none⟩)] w0 (Rets (Post.frame_sectors_1 nz wz S0 w0 Lr lx0 rx0 jkx0 gx0q7 gx0q8 gx0q9 gx0q10 gx0q21b0 gx0q21b1 r)) := by
  subst lx0q7v_0
  subst lx0q8v_0
  subst lx0q21b0v_0
  refine calls_of_goes (fn := Try.f47) (c := B47) (by kernel_rfl) (by kernel_rfl) 39 (by kernel_rfl) ?_
  refine Goes.jump 42 [(0, yieldV lx0), (1, .pointer (some ⟨gx0q21b0, 0, none⟩)), (2, .pointer (some ⟨gx0q21b1, 0, none⟩))] (by kernel_rfl) (fun junk => ?_)
  delta M.frame_sectors_1 at h
  refine Goes.runs 6 [(4, .int .i64 0)] [.code (sub [1, 0, 0] B47), .inLoop (sub [1, 0, 0] B47), .inBlock 0] (by kernel_rfl) ?_
  exact Goes.jump 42 [(0, yieldV lx0), (1, .pointer (some ⟨gx0q21b0, 0, none⟩)), (2, .pointer (some ⟨gx0q21b1, 0, none⟩)), (4, .int .i64 0)] (by kernel_rfl) (W.frame_sectors_1_l0 nz wz S0 w0 Lr lx0 rx0 jkx0 gx0q7 gx0q8 gx0q9 gx0q10 gx0q21b0 gx0q21b1 _ _ h _ _ (Ext.refl S0 w0) Gx0q7v_0 x0q7v_0.length cx0q7v_0 csx0q7v_0 Gx0q8v_0 x0q8v_0.length cx0q8v_0 csx0q8v_0 Ax0q21b0v_0 x0q21b0v_0.length cx0q21b0v_0 p0 fx0q7v_0 rfl fx0q8v_0 rfl fx0q21b0v_0 rfl)

/-! tidepole/frame.Read -/
def Post.frame_Read (nz : Nat) (wz : World) (S0 : Fz) (w0 : World) (Lr : List Ent) (r : (List (List Int)) × Int × Int) (v : Value) (w' : World) : Prop :=
  ∃ (S' : Fz) (Gq_0 : Option Nat) (nq_0 : Nat) (cq_0 : Nat) (csq_0 : List Value), v = .tuple #[.slice (Gp Gq_0) nq_0 cq_0, .int .i64 r.2.1, .int .i64 r.2.2] ∧ Ext S0 w0 S' w' ∧ Hp nz wz S' w' ((Gq_0, .row 23 csq_0 (cq_0 * (kSl (kInt .u8)).size) 0) :: Lr) ∧ Els (kSl (kInt .u8)) S' w' csq_0 r.1 ∧ r.1.length = nq_0

def L.frame_Read_l0 (nz : Nat) (wz : World) (S0 : Fz) (w0 : World) (Lr : List Ent) : Int × (List Int) × Bool → ((List (List Int)) × Int × Int) → Prop := fun ⟨x0, x1, x18⟩ r => ∀ S1 w1, Ext S0 w0 S1 w1 → ∀ (Ax1 : Option Addr) (nx1 : Nat) (cx1 : Nat) (_ : Hp nz wz S1 w1 (Lr)) (_ : Rd (kInt .u8) S1 w1 Ax1 cx1 x1) (_ : x1.length = nx1) (junk : Nat → Value),
  Goes Try.prog (base 36) [.code (sub [1, 0, 1] B36), .code (sub [1, 1] B36)] ⟨lfr 58 [(0, .int .i64 x0), (1, .slice Ax1 nx1 cx1), (18, .bool x18)] junk, []⟩ w1 (Done Try.prog 36 (Rets (Post.frame_Read nz wz S0 w0 Lr r)))

theorem W.frame_Read_l0 (nz : Nat) (wz : World) (S0 : Fz) (w0 : World) (Lr : List Ent) : ∀ a r, M.frame_Read_l0 a = some r → L.frame_Read_l0 nz wz S0 w0 Lr a r := by
  intro ⟨x0, x1, x18⟩ r h S1 w1 hx Ax1 nx1 cx1 p1 fx1 lx1 junk
  rw [M.frame_Read_l0] at h
  try dsimp only at h
  subst lx1
  refine ite_some h (fun h2 h => ?_) (fun h2 h => ?_)
  · rw [h2]
    refine Goes.runs 7 [(4, .slice none 0 0), (5, .int .i64 0), (6, .int .i64 2)] [.code (sub [1, 0, 1, 0, 1] B36), .code (sub [1, 1] B36)] (by kernel_rfl) ?_
    have p1 : Hp nz wz S1 w1 ((none, .row 23 [] (0 * (kSl (kInt .u8)).size) 0) :: Lr) := p1.nilRow' 23
    obtain rfl := Option.some.inj h
    exact Goes.ret (fn := Try.f36) (by kernel_rfl) (v := .tuple #[.slice (Gp none) 0 0, .int .i64 0, .int .i64 2]) (by kernel_rfl) ⟨S1, none, 0, 0, [], rfl, hx, p1, (Els.nil (K := (kSl (kInt .u8)))), rfl⟩
  · have h2' : x18 = false := by simpa using h2
    rw [h2']
    refine Goes.runs 4 [] [.inRegion (opsOf (sub [1, 1, 0] B36)) [0], .code (sub [1, 1, 1] B36)] (by kernel_rfl) ?_
    refine Op_.alloc 41 7 0 (.slice none 0 0) [.slice none 0 0] p1 (Goes.vs (by kernel_rfl)) (by kernel_rfl) (by kernel_rfl) ?_
    intro b4 w2 z2 p2
    refine Goes.runs 3 [] [.inRegion (opsOf (sub [1, 1, 1, 0] B36)) [0], .code (sub [1, 1, 1, 1] B36)] (by kernel_rfl) ?_
    refine Op_.alloc 23 8 0 (.slice none 0 0) [.slice none 0 0] p2 (Goes.vs (by kernel_rfl)) (by kernel_rfl) (by kernel_rfl) ?_
    intro b6 w3 z3 p3
    refine Goes.runs 3 [] [.inRegion (opsOf (sub [1, 1, 1, 1, 0] B36)) [0, 1, 2, 3], .code (sub [1, 1, 1, 1, 1] B36)] (by kernel_rfl) ?_
    refine Op_.alloc 3 9 0 (.int .i64 0) [.int .i64 0] p3 (Goes.vs (by kernel_rfl)) (by kernel_rfl) (by kernel_rfl) ?_
    intro b8 w4 z4 p4
    refine Op_.alloc 4 10 0 (.bool false) [.bool false] p4 (Goes.vs (by kernel_rfl)) (by kernel_rfl) (by kernel_rfl) ?_
    intro b10 w5 z5 p5
    refine Op_.st 3 (.tmp 9) (.const (.int .i64 0)) 0 1 b8 0 (.int .i64 0) [.int .i64 0] p5 rfl (Goes.ss (by kernel_rfl)) (by kernel_rfl) (by kernel_rfl) (by kernel_rfl) (by kernel_rfl) (Nat.zero_le _) (by simp only [List.length_cons, List.length_nil]; omega) (by simp [Value.oneCell']) ?_
    intro w6 z6 p6
    refine Op_.st 4 (.tmp 10) (.const (.bool false)) 0 0 b10 0 (.bool false) [.bool false] p6 rfl (Goes.ss (by kernel_rfl)) (by kernel_rfl) (by kernel_rfl) (by kernel_rfl) (by kernel_rfl) (Nat.zero_le _) (by simp only [List.length_cons, List.length_nil]; omega) (by simp [Value.oneCell']) ?_
    intro w7 z7 p7
    refine Goes.runs 6 [(19, .int .i64 x0), (20, .slice Ax1 x1.length cx1)] [.inRegion (opsOf (sub [1, 1, 1, 1, 1, 0, 0] B36)) [2], .code (sub [1, 1, 1, 1, 1, 0, 1] B36), .code (sub [1, 1, 1, 1, 1, 1] B36)] (by kernel_rfl) ?_
    refine bind_some' h fun y12 e13 h => ?_
    refine Op_.call (.call { callee := .value (.func 44), args := #[(.tmp 19), (.tmp 20)], argTypes := #[3, 23] }) 21 70 44 #[.int .i64 x0, .slice Ax1 x1.length cx1] (Goes.cs (by kernel_rfl)) (by kernel_rfl) (W.frame_sectors x0 x1 y12 e13 nz wz S1 w7 ((some b10, .row 4 [.bool false] 1 0) :: (some b8, .row 3 [.int .i64 0] 1 0) :: (some b6, .row 23 [.slice none 0 0] 1 0) :: (some b4, .row 41 [.slice none 0 0] 1 0) :: Lr) Ax1 x1.length cx1 p7 (fx1.ext (((((z2.trans z3).trans z4).trans z5).trans z6).trans z7)) rfl) ?_
    rintro _ w8 ⟨S8, gr_8b0, Ar_8b0v_0, nr_8b0v_0, cr_8b0v_0, gr_8b1, rfl, z8, p8, fr_8b0v_0, rfl⟩
    refine Goes.runs 2 [] [.code (sub [1, 1, 1, 1, 1, 0, 1, 0] B36), .inBlock 0, .code (sub [1, 1, 1, 1, 1, 1] B36)] (by kernel_rfl) ?_
    refine Goes.jump 58 [(7, .pointer (some ⟨b4, 0, none⟩)), (8, .pointer (some ⟨b6, 0, none⟩)), (9, .pointer (some ⟨b8, 0, none⟩)), (10, .pointer (some ⟨b10, 0, none⟩)), (21, .func (.func 47) #[] #[.pointer (some ⟨gr_8b0, 0, none⟩), .pointer (some ⟨gr_8b1, 0, none⟩)])] (by kernel_rfl) (fun junk16 => ?_)
    refine Goes.rangeF (f := 36) (.tmp 21) #[22, 23] 47 #[] #[.pointer (some ⟨gr_8b0, 0, none⟩), .pointer (some ⟨gr_8b1, 0, none⟩)] (by kernel_rfl) (by kernel_rfl) (fun _ => by kernel_rfl) p8 ?_
    intro r17 l18 w9 z9 p9
    have p9 : Hp nz wz S8 w9 ((none, .row 23 [] (0 * (kSl (kInt .u8)).size) 0) :: (some l18, .obj (lpst 36 (lfr 58 [(7, .pointer (some ⟨b4, 0, none⟩)), (8, .pointer (some ⟨b6, 0, none⟩)), (9, .pointer (some ⟨b8, 0, none⟩)), (10, .pointer (some ⟨b10, 0, none⟩)), (21, .func (.func 47) #[] #[.pointer (some ⟨gr_8b0, 0, none⟩), .pointer (some ⟨gr_8b1, 0, none⟩)])] junk16) #[22, 23] (rfAssign (sub [1, 1, 1, 1, 1, 0, 1, 0] B36)) (rfBody (sub [1, 1, 1, 1, 1, 0, 1, 0] B36)) r17 .ready none)) :: (some r17, .obj (.deferred (some []))) :: (some gr_8b0, .row 23 [.slice Ar_8b0v_0 y12.1.length cr_8b0v_0] 1 0) :: (some gr_8b1, .row 3 [.int .i64 y12.2] 1 0) :: (some b10, .row 4 [.bool false] 1 0) :: (some b8, .row 3 [.int .i64 0] 1 0) :: (some b6, .row 23 [.slice none 0 0] 1 0) :: (some b4, .row 41 [.slice none 0 0] 1 0) :: Lr) := p9.nilRow' 23
    have p9 : Hp nz wz S8 w9 ((none, .row 5 [] (0 * (kInt .u8).size) 0) :: (none, .row 23 [] (0 * (kSl (kInt .u8)).size) 0) :: (some l18, .obj (lpst 36 (lfr 58 [(7, .pointer (some ⟨b4, 0, none⟩)), (8, .pointer (some ⟨b6, 0, none⟩)), (9, .pointer (some ⟨b8, 0, none⟩)), (10, .pointer (some ⟨b10, 0, none⟩)), (21, .func (.func 47) #[] #[.pointer (some ⟨gr_8b0, 0, none⟩), .pointer (some ⟨gr_8b1, 0, none⟩)])] junk16) #[22, 23] (rfAssign (sub [1, 1, 1, 1, 1, 0, 1, 0] B36)) (rfBody (sub [1, 1, 1, 1, 1, 0, 1, 0] B36)) r17 .ready none)) :: (some r17, .obj (.deferred (some []))) :: (some gr_8b0, .row 23 [.slice Ar_8b0v_0 y12.1.length cr_8b0v_0] 1 0) :: (some gr_8b1, .row 3 [.int .i64 y12.2] 1 0) :: (some b10, .row 4 [.bool false] 1 0) :: (some b8, .row 3 [.int .i64 0] 1 0) :: (some b6, .row 23 [.slice none 0 0] 1 0) :: (some b4, .row 41 [.slice (Gp none) 0 0] 1 0) :: Lr) := p9.nilRow' 5
    have p9 := p9.front 5 _ rfl
    have p9 := p9.front 5 _ rfl
    have p9 := p9.front 6 _ rfl
    have p9 := p9.front 7 _ rfl
    have p9 := p9.front 4 _ rfl
    have p9 := p9.front 8 _ rfl
    have p9 := p9.front 6 _ rfl
    have p9 := p9.front 9 _ rfl
    have p9 := p9.front 8 _ rfl
    refine bind_some' h fun y23 e24 h => ?_
    refine ⟨_, W.frame_sectors_1 ([] : List (List Int)) ([] : List Int) 0 false y12.1 y12.2 y23 e24 nz wz S8 w9 ((some r17, .obj (.deferred (some []))) :: Lr) l18 r17 junk16 b4 none 0 0 [] b6 none 0 0 [] b8 b10 gr_8b0 Ar_8b0v_0 y12.1.length cr_8b0v_0 gr_8b1 p9 (Els.nil (K := (kSl (kInt .u8)))) rfl (Els.nil (K := (kInt .u8))) rfl (fr_8b0v_0.ext z9) rfl, ?_⟩
    rintro _ w10 ⟨S10, Ge1_10v_0, ne1_10v_0, ce1_10v_0, cse1_10v_0, Ge2_10v_0, ne2_10v_0, ce2_10v_0, cse2_10v_0, Ae5_10v_0, ne5_10v_0, ce5_10v_0, rfl, z10, p10, fe1_10v_0, rfl, fe2_10v_0, rfl, fe5_10v_0, rfl⟩
    refine Goes.endF 0 p10 rfl (by split <;> rfl) ?_
    intro w11 z11 p11
    replace p11 : Hp nz wz S10 w11 ((some b4, .row 41 [.slice (Gp Ge1_10v_0) y23.2.1.length ce1_10v_0] 1 0) :: (Ge1_10v_0, .row 23 cse1_10v_0 (ce1_10v_0 * (kSl (kInt .u8)).size) 0) :: (some b6, .row 23 [.slice (Gp Ge2_10v_0) y23.2.2.1.length ce2_10v_0] 1 0) :: (Ge2_10v_0, .row 5 cse2_10v_0 (ce2_10v_0 * (kInt .u8).size) 0) :: (some b8, .row 3 [.int .i64 y23.2.2.2.1] 1 0) :: (some b10, .row 4 [.bool y23.2.2.2.2.1] 1 0) :: (some gr_8b0, .row 23 [.slice Ae5_10v_0 y23.2.2.2.2.2.1.length ce5_10v_0] 1 0) :: (some gr_8b1, .row 3 [.int .i64 y23.2.2.2.2.2.2] 1 0) :: (some r17, .obj (.deferred (some []))) :: Lr) := (p11.front 0 _ rfl).drop
    refine ite_some h (fun h27 h => ?_) (fun _ h => ?_)
    · rw [h27]
      show Goes _ _ [.inBlock 0, .code (sub [1, 1, 1, 1, 1, 1] B36)] _ _ _
      refine Goes.runs 2 [] [.code (sub [1, 1, 1, 1, 1, 1, 0] B36), .code (sub [1, 1, 1, 1, 1, 1, 1] B36)] (by kernel_rfl) ?_
      have z12 : Ext S10 w11 S10 (w11).drew := Ext.draw
      have p12 := p11.draw
      refine Goes.drawn (s := []) (F := Fc S10 (w11).drew [(⟨b4, 0, none⟩, .slice (Gp Ge1_10v_0) y23.2.1.length ce1_10v_0), (⟨b8, 0, none⟩, .int .i64 y23.2.2.2.1)]) 14 5 (by kernel_rfl) (by kernel_rfl) (by kernel_rfl) (by kernel_rfl) ?_
      generalize (w11).drew = w12 at z12 p12 ⊢
      refine AnyG.ld1 (i := 0) 41 (.tmp 7) 56 41 ⟨b4, 0, none⟩ (.slice (Gp Ge1_10v_0) y23.2.1.length ce1_10v_0) (by kernel_rfl) (by kernel_rfl) (Fc.here ⟨((p12.mem 0 rfl).cell 0 _ rfl), ((p12.mem 4 rfl).cell 0 _ rfl), trivial⟩) (by kernel_rfl) (by kernel_rfl) (fun _ h => h.2.at_ 0 rfl) ?_
      refine AnyG.ld1 (i := 1) 3 (.tmp 9) 57 3 ⟨b8, 0, none⟩ (.int .i64 y23.2.2.2.1) (by kernel_rfl) (by kernel_rfl) (Fc.here ⟨((p12.mem 0 rfl).cell 0 _ rfl), ((p12.mem 4 rfl).cell 0 _ rfl), trivial⟩) (by kernel_rfl) (by kernel_rfl) (fun _ h => h.2.at_ 1 rfl) ?_
      refine AnyG.pure (i := 2) (.assign (.tmp 56)) 4 41 (.slice (Gp Ge1_10v_0) y23.2.1.length ce1_10v_0) (by kernel_rfl) (by kernel_rfl) (by kernel_rfl) (Fc.here ⟨((p12.mem 0 rfl).cell 0 _ rfl), ((p12.mem 4 rfl).cell 0 _ rfl), trivial⟩) ?_
      refine AnyG.pure (i := 3) (.assign (.tmp 57)) 5 3 (.int .i64 y23.2.2.2.1) (by kernel_rfl) (by kernel_rfl) (by kernel_rfl) (Fc.here ⟨((p12.mem 0 rfl).cell 0 _ rfl), ((p12.mem 4 rfl).cell 0 _ rfl), trivial⟩) ?_
      refine AnyG.pure (i := 4) (.assign (.const (.int .i64 0))) 6 30 (.int .i64 0) (by kernel_rfl) (by kernel_rfl) (by kernel_rfl) (Fc.here ⟨((p12.mem 0 rfl).cell 0 _ rfl), ((p12.mem 4 rfl).cell 0 _ rfl), trivial⟩) ?_
      refine AnyG.done (by kernel_rfl) ?_ _
      have p12 := (p12.front 0 _ rfl).drop
      have p12 := (p12.front 1 _ rfl).drop
      have p12 := (p12.front 1 _ rfl).drop
      have p12 := (p12.front 1 _ rfl).drop
      have p12 := (p12.front 1 _ rfl).drop
      have p12 := (p12.front 1 _ rfl).drop
      have p12 := (p12.front 1 _ rfl).drop
      obtain rfl := Option.some.inj h
      have p12 := p12.front 0 _ rfl
      have p12 := p12.front 1 _ rfl
      refine Goes.retL ?_
      refine lvs_mark 0 rfl rfl p12 rfl ?_
      intro w13 z13 p13
      replace p13 : Hp nz wz S10 w13 ((Ge1_10v_0, .row 23 cse1_10v_0 (ce1_10v_0 * (kSl (kInt .u8)).size) 0) :: Lr) := p13.drop
      exact lvs_done (fn := Try.f36) rfl rfl rfl rfl (by kernel_rfl) (v := .tuple #[.slice (Gp Ge1_10v_0) y23.2.1.length ce1_10v_0, .int .i64 y23.2.2.2.1, .int .i64 0]) (by kernel_rfl) ⟨S10, Ge1_10v_0, y23.2.1.length, ce1_10v_0, cse1_10v_0, rfl, ((((((((((((hx.trans z2).trans z3).trans z4).trans z5).trans z6).trans z7).trans z8).trans z9).trans z10).trans z11).trans z12).trans z13), p13, (fe1_10v_0.ext ((z11.trans z12).trans z13)), rfl⟩
    · refine ite_some h (fun h28 h => ?_) (fun _ h => ?_)
      · rw [h28]
        show Goes _ _ [.code (.exit 0), .inBlock 0, .code (sub [1, 1, 1, 1, 1, 1] B36)] _ _ _
        refine Goes.runs 2 [] [.code (sub [1, 1, 1, 1, 1, 1, 0] B36), .code (sub [1, 1, 1, 1, 1, 1, 1] B36)] (by kernel_rfl) ?_
        have z14 : Ext S10 w11 S10 (w11).drew := Ext.draw
        have p14 := p11.draw
        refine Goes.drawn (s := []) (F := Fc S10 (w11).drew [(⟨b4, 0, none⟩, .slice (Gp Ge1_10v_0) y23.2.1.length ce1_10v_0), (⟨b8, 0, none⟩, .int .i64 y23.2.2.2.1)]) 14 5 (by kernel_rfl) (by kernel_rfl) (by kernel_rfl) (by kernel_rfl) ?_
        generalize (w11).drew = w14 at z14 p14 ⊢
        refine AnyG.ld1 (i := 0) 41 (.tmp 7) 56 41 ⟨b4, 0, none⟩ (.slice (Gp Ge1_10v_0) y23.2.1.length ce1_10v_0) (by kernel_rfl) (by kernel_rfl) (Fc.here ⟨((p14.mem 0 rfl).cell 0 _ rfl), ((p14.mem 4 rfl).cell 0 _ rfl), trivial⟩) (by kernel_rfl) (by kernel_rfl) (fun _ h => h.2.at_ 0 rfl) ?_
        refine AnyG.ld1 (i := 1) 3 (.tmp 9) 57 3 ⟨b8, 0, none⟩ (.int .i64 y23.2.2.2.1) (by kernel_rfl) (by kernel_rfl) (Fc.here ⟨((p14.mem 0 rfl).cell 0 _ rfl), ((p14.mem 4 rfl).cell 0 _ rfl), trivial⟩) (by kernel_rfl) (by kernel_rfl) (fun _ h => h.2.at_ 1 rfl) ?_
        refine AnyG.pure (i := 2) (.assign (.tmp 56)) 4 41 (.slice (Gp Ge1_10v_0) y23.2.1.length ce1_10v_0) (by kernel_rfl) (by kernel_rfl) (by kernel_rfl) (Fc.here ⟨((p14.mem 0 rfl).cell 0 _ rfl), ((p14.mem 4 rfl).cell 0 _ rfl), trivial⟩) ?_
        refine AnyG.pure (i := 3) (.assign (.tmp 57)) 5 3 (.int .i64 y23.2.2.2.1) (by kernel_rfl) (by kernel_rfl) (by kernel_rfl) (Fc.here ⟨((p14.mem 0 rfl).cell 0 _ rfl), ((p14.mem 4 rfl).cell 0 _ rfl), trivial⟩) ?_
        refine AnyG.pure (i := 4) (.assign (.const (.int .i64 0))) 6 30 (.int .i64 0) (by kernel_rfl) (by kernel_rfl) (by kernel_rfl) (Fc.here ⟨((p14.mem 0 rfl).cell 0 _ rfl), ((p14.mem 4 rfl).cell 0 _ rfl), trivial⟩) ?_
        refine AnyG.done (by kernel_rfl) ?_ _
        have p14 := (p14.front 0 _ rfl).drop
        have p14 := (p14.front 1 _ rfl).drop
        have p14 := (p14.front 1 _ rfl).drop
        have p14 := (p14.front 1 _ rfl).drop
        have p14 := (p14.front 1 _ rfl).drop
        have p14 := (p14.front 1 _ rfl).drop
        have p14 := (p14.front 1 _ rfl).drop
        obtain rfl := Option.some.inj h
        have p14 := p14.front 0 _ rfl
        have p14 := p14.front 1 _ rfl
        refine Goes.retL ?_
        refine lvs_mark 0 rfl rfl p14 rfl ?_
        intro w15 z15 p15
        replace p15 : Hp nz wz S10 w15 ((Ge1_10v_0, .row 23 cse1_10v_0 (ce1_10v_0 * (kSl (kInt .u8)).size) 0) :: Lr) := p15.drop
        exact lvs_done (fn := Try.f36) rfl rfl rfl rfl (by kernel_rfl) (v := .tuple #[.slice (Gp Ge1_10v_0) y23.2.1.length ce1_10v_0, .int .i64 y23.2.2.2.1, .int .i64 0]) (by kernel_rfl) ⟨S10, Ge1_10v_0, y23.2.1.length, ce1_10v_0, cse1_10v_0, rfl, ((((((((((((hx.trans z2).trans z3).trans z4).trans z5).trans z6).trans z7).trans z8).trans z9).trans z10).trans z11).trans z14).trans z15), p15, (fe1_10v_0.ext ((z11.trans z14).trans z15)), rfl⟩
      · cases h

/-! tidepole/frame.Read -/
theorem W.frame_Read (x0 : Int) (x1 : List Int) (r : (List (List Int)) × Int × Int) (h : M.frame_Read x0 x1 = some r) (nz : Nat) (wz : World) (S0 : Fz) (w0 : World) (Lr : List Ent) (Ax1 : Option Addr) (nx1 : Nat) (cx1 : Nat) (p0 : Hp nz wz S0 w0 (Lr)) (fx1 : Rd (kInt .u8) S0 w0 Ax1 cx1 x1) (lx1 : x1.length = nx1) :
    Calls Try.prog 36 #[.int .i64 x0, .slice Ax1 nx1 cx1] w0 (Rets (Post.frame_Read nz wz S0 w0 Lr r)) := by
  subst lx1
  refine calls_of_goes (fn := Try.f36) (c := B36) (by kernel_rfl) (by kernel_rfl) 56 (by kernel_rfl) ?_
  refine Goes.jump 58 [(0, .int .i64 x0), (1, .slice Ax1 x1.length cx1)] (by kernel_rfl) (fun junk => ?_)
  delta M.frame_Read at h
  refine Goes.runs 12 [(4, .slice none 0 0), (5, .int .i64 0), (6, .int .i64 0), (13, .int .i64 x0), (14, .bool (decide (x0 < 0))), (15, .bool (decide (x0 < 0)))] [.inRegion (opsOf (sub [1, 0, 0] B36)) [3, 4, 5], .code (sub [1, 0, 1] B36), .code (sub [1, 1] B36)] (by kernel_rfl) ?_
  refine ite_some h (fun h1 h => ?_) (fun h1 h => ?_)
  · rw [decide_eq_true h1]
    refine Goes.runs 4 [(16, undef), (17, undef), (18, .bool true)] [.code (sub [1, 0, 1] B36), .code (sub [1, 1] B36)] (by kernel_rfl) ?_
    exact Goes.jump 58 [(0, .int .i64 x0), (1, .slice Ax1 x1.length cx1), (18, .bool true)] (by kernel_rfl) (W.frame_Read_l0 nz wz S0 w0 Lr _ _ h _ _ (Ext.refl S0 w0) Ax1 x1.length cx1 p0 fx1 rfl)
  · rw [decide_eq_false h1]
    refine Goes.runs 4 [(16, .int .i64 x0), (17, .bool (decide (x0 > 4294967295))), (18, .bool (decide (x0 > 4294967295)))] [.code (sub [1, 0, 1] B36), .code (sub [1, 1] B36)] (by kernel_rfl) ?_
    exact Goes.jump 58 [(0, .int .i64 x0), (1, .slice Ax1 x1.length cx1), (18, .bool (decide (x0 > 4294967295)))] (by kernel_rfl) (W.frame_Read_l0 nz wz S0 w0 Lr _ _ h _ _ (Ext.refl S0 w0) Ax1 x1.length cx1 p0 fx1 rfl)

/-! tidepole/tidepolelaw03.works -/
def Post.tidepolelaw03_works (nz : Nat) (wz : World) (S0 : Fz) (w0 : World) (Lr : List Ent) (r : Bool) (v : Value) (w' : World) : Prop :=
  ∃ (S' : Fz), v = .bool r ∧ Ext S0 w0 S' w' ∧ Hp nz wz S' w' (Lr)

theorem W.tidepolelaw03_works (r : Bool) (h : M.tidepolelaw03_works = some r) (nz : Nat) (wz : World) (S0 : Fz) (w0 : World) (Lr : List Ent) (p0 : Hp nz wz S0 w0 (Lr)) :
    Calls Try.prog 33 #[] w0 (Rets (Post.tidepolelaw03_works nz wz S0 w0 Lr r)) := by
  refine calls_of_goes (fn := Try.f33) (c := B33) (by kernel_rfl) (by kernel_rfl) 54 (by kernel_rfl) ?_
  refine Goes.jump 54 [] (by kernel_rfl) (fun junk => ?_)
  delta M.tidepolelaw03_works at h
  refine Goes.runs 6 [(0, .bool false)] [.inRegion (opsOf (sub [1, 0] B33)) [0, 1, 2, 3, 4, 5, 6, 7, 8, 9], .code (sub [1, 1] B33)] (by kernel_rfl) ?_
  have f2 : Els (kInt .u8) S0 w0 ([.int .u8 97] : List Value) [97] := by exact (Els.cons (K := (kInt .u8)) (vs := [.int .u8 97]) (x := 97) rfl Els.nil)
  refine Op_.made (.buildSlice 23 1 #[(0, (.const (.int .u8 97)))]) 7 23 (fun b => .slice (Gp (some b)) 1 1) 5 ([.int .u8 97] : List Value) p0 (Goes.vs (by kernel_rfl)) (by kernel_rfl) ?_
  intro b1 w2 z2 p2
  have p2 : Hp nz wz S0 w2 (((some b1), .row 5 ([.int .u8 97] : List Value) (1 * (kInt .u8).size) 0) :: Lr) := p2
  refine Op_.mks_n 23 (.tmp 7) 8 23 5 0 rfl p2 rfl (f2.ext z2) (Goes.vs (by kernel_rfl)) (by kernel_rfl) (by kernel_rfl) (by kernel_rfl) ?_
  intro S3 w3 z3 p3 f4
  refine Op_.mk_n (K := (kInt .u8)) 23 (.const (.int .i64 300)) (.const (.int .i64 300)) 9 23 5 .i64 .i64 300 300 (.int .u8 0) [.int .u8 0] 1 (0 : Int) (List.replicate (300 : Int).toNat (0 : Int)) rfl p3 (Goes.vs (by kernel_rfl)) (by kernel_rfl) (by kernel_rfl) (by kernel_rfl) (by kernel_rfl) (by kernel_rfl) (fun _ _ => rfl) (by decide : (0 : Int) ≤ 300) (by decide : (300 : Int) ≤ 300) (by have := (by decide : (300 : Int) ≤ 1099511627776); omega) (by have := (by decide : (300 : Int) ≤ 1099511627776); omega) ?_
  intro b5 w4 cs6 z4 p4 f7
  obtain ⟨S5, z5, p5, f9⟩ := p4.freezeRd 0 rfl f7 (by decide)
  refine let_some h fun v12 e13 h => ?_
  have f11 : Els (kSl (kInt .u8)) S5 w4 ([.slice (Gp (some b1)) 1 1, .slice (Gp (some b5)) ((List.replicate (300 : Int).toNat (0 : Int)).length) ((300 : Int).toNat)] : List Value) v12 := by rw [← e13]; exact (Els.cons (K := (kSl (kInt .u8))) (vs := [.slice (Gp (some b1)) 1 1]) (x := [97]) ⟨_, _, rfl, (f4.ext (z4.trans z5))⟩ (Els.cons (K := (kSl (kInt .u8))) (vs := [.slice (Gp (some b5)) ((List.replicate (300 : Int).toNat (0 : Int)).length) ((300 : Int).toNat)]) (x := (List.replicate (300 : Int).toNat (0 : Int))) ⟨_, _, rfl, f9⟩ Els.nil))
  refine Op_.made (.buildSlice 41 2 #[(0, (.tmp 8)), (1, (.tmp 9))]) 10 41 (fun b => .slice (Gp (some b)) 2 2) 23 ([.slice (Gp (some b1)) 1 1, .slice (Gp (some b5)) ((List.replicate (300 : Int).toNat (0 : Int)).length) ((300 : Int).toNat)] : List Value) p5 (Goes.vs (by kernel_rfl)) (by kernel_rfl) ?_
  intro b10 w6 z6 p6
  have p6 : Hp nz wz S5 w6 (((some b10), .row 23 ([.slice (Gp (some b1)) 1 1, .slice (Gp (some b5)) ((List.replicate (300 : Int).toNat (0 : Int)).length) ((300 : Int).toNat)] : List Value) (2 * (kSl (kInt .u8)).size) 0) :: ((some b5), .row 5 cs6 (((300 : Int).toNat) * (kInt .u8).size) cs6.length) :: Lr) := p6
  obtain ⟨S7, z7, p7, f15⟩ := p6.freezeRd 0 rfl (f11.ext z6) (by decide)
  refine bind_some' h fun y16 e17 h => ?_
  refine Op_.call (.call { callee := .value (.func 29), args := #[(.const (.int .i64 5)), (.tmp 10)], argTypes := #[3, 41] }) 11 43 29 #[.int .i64 5, .slice (Gp (some b10)) 2 2] (Goes.cs (by kernel_rfl)) (by kernel_rfl) (W.frame_Write 5 v12 y16 e17 nz wz S7 w6 (((some b10), .row 23 ([.slice (Gp (some b1)) 1 1, .slice (Gp (some b5)) ((List.replicate (300 : Int).toNat (0 : Int)).length) ((300 : Int).toNat)] : List Value) (2 * (kSl (kInt .u8)).size) (([.slice (Gp (some b1)) 1 1, .slice (Gp (some b5)) ((List.replicate (300 : Int).toNat (0 : Int)).length) ((300 : Int).toNat)] : List Value).length)) :: ((some b5), .row 5 cs6 (((300 : Int).toNat) * (kInt .u8).size) cs6.length) :: Lr) (Gp (some b10)) 2 2 p7 f15 (by rw [← e13]; rfl)) ?_
  rintro _ w8 ⟨S8, Gr_8_0, nr_8_0, cr_8_0, csr_8_0, rfl, z8, p8, fr_8_0, rfl⟩
  have p8 := (p8.front 1 _ rfl).drop
  have p8 := (p8.front 1 _ rfl).drop
  refine Goes.runs 9 [(6, .tuple #[.slice (Gp Gr_8_0) y16.1.length cr_8_0, .int .i64 y16.2]), (12, .slice (Gp Gr_8_0) y16.1.length cr_8_0), (13, .int .i64 y16.2), (1, .slice (Gp Gr_8_0) y16.1.length cr_8_0), (2, .int .i64 y16.2), (15, .slice (Gp Gr_8_0) y16.1.length cr_8_0)] [.inRegion (opsOf (sub [1, 1, 0] B33)) [1, 2, 3, 4, 5, 6, 7, 8], .code (sub [1, 1, 1] B33)] (by kernel_rfl) ?_
  obtain ⟨S9, z9, p9, f19⟩ := p8.freezeRd 0 rfl fr_8_0 (by decide)
  refine bind_some' h fun y20 e21 h => ?_
  refine Op_.call (.call { callee := .value (.func 36), args := #[(.const (.int .i64 5)), (.tmp 15)], argTypes := #[3, 23] }) 16 54 36 #[.int .i64 5, .slice (Gp Gr_8_0) y16.1.length cr_8_0] (Goes.cs (by kernel_rfl)) (by kernel_rfl) (W.frame_Read 5 y16.1 y20 e21 nz wz S9 w8 ((Gr_8_0, .row 5 csr_8_0 (cr_8_0 * (kInt .u8).size) csr_8_0.length) :: Lr) (Gp Gr_8_0) y16.1.length cr_8_0 p9 f19 rfl) ?_
  rintro _ w10 ⟨S10, Gr_10_0, nr_10_0, cr_10_0, csr_10_0, rfl, z10, p10, fr_10_0, rfl⟩
  refine Goes.runs 14 [(14, .tuple #[.slice (Gp Gr_10_0) y20.1.length cr_10_0, .int .i64 y20.2.1, .int .i64 y20.2.2]), (17, .slice (Gp Gr_10_0) y20.1.length cr_10_0), (18, .int .i64 y20.2.1), (19, .int .i64 y20.2.2), (3, .slice (Gp Gr_10_0) y20.1.length cr_10_0), (4, .int .i64 y20.2.1), (5, .int .i64 y20.2.2), (20, .slice (Gp Gr_8_0) y16.1.length cr_8_0), (21, .int .i64 (y16.1.length : Int)), (22, .bool (decide ((y16.1.length : Int) = 768))), (23, .bool (decide ((y16.1.length : Int) = 768)))] [.inRegion (opsOf (sub [1, 1, 1, 0] B33)) [4, 5, 6, 7, 8, 9, 10, 11, 12, 13, 14, 15, 16, 17, 18, 19, 20, 21, 22, 23, 24, 25, 26, 27, 28, 29, 30, 31, 32, 33, 34], .code (sub [1, 1, 1, 1] B33)] (by kernel_rfl) ?_
  refine ite_some h (fun h23 h => ?_) (fun h23 h => ?_)
  · rw [decide_eq_true h23]
    refine Goes.runs 4 [(24, .int .i64 y16.2), (25, .bool (decide (y16.2 = 0))), (26, .bool (decide (y16.2 = 0))), (27, .bool (decide (y16.2 = 0)))] [.inRegion (opsOf (sub [1, 1, 1, 0] B33)) [8, 9, 10, 11, 12, 13, 14, 15, 16, 17, 18, 19, 20, 21, 22, 23, 24, 25, 26, 27, 28, 29, 30, 31, 32, 33, 34], .code (sub [1, 1, 1, 1] B33)] (by kernel_rfl) ?_
    refine ite_some h (fun h24 h => ?_) (fun h24 h => ?_)
    · rw [decide_eq_true h24]
      refine Goes.runs 5 [(28, .slice (Gp Gr_10_0) y20.1.length cr_10_0), (29, .int .i64 (y20.1.length : Int)), (30, .bool (decide ((y20.1.length : Int) = 2))), (31, .bool (decide ((y20.1.length : Int) = 2))), (32, .bool (decide ((y20.1.length : Int) = 2)))] [.inRegion (opsOf (sub [1, 1, 1, 0] B33)) [13, 14, 15, 16, 17, 18, 19, 20, 21, 22, 23, 24, 25, 26, 27, 28, 29, 30, 31, 32, 33, 34], .code (sub [1, 1, 1, 1] B33)] (by kernel_rfl) ?_
      refine ite_some h (fun h25 h => ?_) (fun h25 h => ?_)
      · rw [decide_eq_true h25]
        refine Goes.runs 1 [(33, .slice (Gp Gr_10_0) y20.1.length cr_10_0)] [.inRegion (opsOf (sub [1, 1, 1, 0] B33)) [14, 15, 16, 17, 18, 19, 20, 21, 22, 23, 24, 25, 26, 27, 28, 29, 30, 31, 32, 33, 34], .code (sub [1, 1, 1, 1] B33)] (by kernel_rfl) ?_
        refine guard_some' h fun g26 h => ?_
        refine Op_.ixO_n 41 (.tmp 33) (.const (.int .i64 0)) 34 0 23 .i64 0 0 y20.1.length cr_10_0 (gi y20.1 0) rfl rfl p10 rfl fr_10_0 (Goes.vs (by kernel_rfl)) (by kernel_rfl) (by kernel_rfl) (by kernel_rfl) (by kernel_rfl) (by decide) (by decide : (0 : Int) ≤ 0) g26 ?_
        rintro b27 _ rfl q29 f28
        obtain ⟨A30, c31, rfl, f32⟩ := q29
        refine Op_.ld1 23 (.tmp 34) 35 23 ⟨b27, (0 : Int).toNat * (kSl (kInt .u8)).size, none⟩ (.slice A30 ((gi y20.1 0).length) c31) (Goes.vs (by kernel_rfl)) (by kernel_rfl) (by kernel_rfl) (f28 0 _ rfl) ?_
        refine Goes.runs 4 [(36, .int .i64 ((gi y20.1 0).length : Int)), (37, .bool (decide (((gi y20.1 0).length : Int) = 1))), (38, .bool (decide (((gi y20.1 0).length : Int) = 1))), (39, .bool (decide (((gi y20.1 0).length : Int) = 1)))] [.inRegion (opsOf (sub [1, 1, 1, 0] B33)) [20, 21, 22, 23, 24, 25, 26, 27, 28, 29, 30, 31, 32, 33, 34], .code (sub [1, 1, 1, 1] B33)] (by kernel_rfl) ?_
        refine ite_some h (fun h34 h => ?_) (fun h34 h => ?_)
        · rw [decide_eq_true h34]
          refine Goes.runs 1 [(40, .slice (Gp (some b27)) y20.1.length cr_10_0)] [.inRegion (opsOf (sub [1, 1, 1, 0] B33)) [21, 22, 23, 24, 25, 26, 27, 28, 29, 30, 31, 32, 33, 34], .code (sub [1, 1, 1, 1] B33)] (by kernel_rfl) ?_
          refine guard_some' h fun g35 h => ?_
          refine Op_.ixO_n 41 (.tmp 40) (.const (.int .i64 1)) 41 0 23 .i64 1 0 y20.1.length cr_10_0 (gi y20.1 1) rfl rfl p10 rfl fr_10_0 (Goes.vs (by kernel_rfl)) (by kernel_rfl) (by kernel_rfl) (by kernel_rfl) (by kernel_rfl) (by decide) (by decide : (0 : Int) ≤ 1) g35 ?_
          rintro b36 _ e42 q38 f37
          injection e42 with e42'; subst e42'
          obtain ⟨A39, c40, rfl, f41⟩ := q38
          refine Op_.ld1 23 (.tmp 41) 42 23 ⟨b27, (1 : Int).toNat * (kSl (kInt .u8)).size, none⟩ (.slice A39 ((gi y20.1 1).length) c40) (Goes.vs (by kernel_rfl)) (by kernel_rfl) (by kernel_rfl) (f37 0 _ rfl) ?_
          refine Goes.runs 4 [(43, .int .i64 ((gi y20.1 1).length : Int)), (44, .bool (decide (((gi y20.1 1).length : Int) = 300))), (45, .bool (decide (((gi y20.1 1).length : Int) = 300))), (46, .bool (decide (((gi y20.1 1).length : Int) = 300)))] [.inRegion (opsOf (sub [1, 1, 1, 0] B33)) [27, 28, 29, 30, 31, 32, 33, 34], .code (sub [1, 1, 1, 1] B33)] (by kernel_rfl) ?_
          refine ite_some h (fun h43 h => ?_) (fun h43 h => ?_)
          · rw [decide_eq_true h43]
            refine Goes.runs 4 [(47, .int .i64 y20.2.1), (48, .bool (decide (y20.2.1 = 3))), (49, .bool (decide (y20.2.1 = 3))), (50, .bool (decide (y20.2.1 = 3)))] [.inRegion (opsOf (sub [1, 1, 1, 0] B33)) [31, 32, 33, 34], .code (sub [1, 1, 1, 1] B33)] (by kernel_rfl) ?_
            refine ite_some h (fun h44 h => ?_) (fun h44 h => ?_)
            · rw [decide_eq_true h44]
              refine Goes.runs 5 [(51, .int .i64 y20.2.2), (52, .bool (decide (y20.2.2 = 0))), (53, .bool (decide (y20.2.2 = 0))), (0, .bool (decide (y20.2.2 = 0)))] [.code (sub [1, 1, 1, 1] B33)] (by kernel_rfl) ?_
              obtain rfl := Option.some.inj h
              have p10 := (p10.front 0 _ rfl).drop
              have p10 := (p10.front 0 _ rfl).drop
              exact Goes.ret (fn := Try.f33) (by kernel_rfl) (v := .bool (decide (y20.2.2 = 0))) (by kernel_rfl) ⟨S10, rfl, ((((((((((Ext.refl S0 w0).trans z2).trans z3).trans z4).trans z5).trans z6).trans z7).trans z8).trans z9).trans z10), p10⟩
            · rw [decide_eq_false h44]
              refine Goes.runs 5 [(51, undef), (52, undef), (53, .bool false), (0, .bool false)] [.code (sub [1, 1, 1, 1] B33)] (by kernel_rfl) ?_
              obtain rfl := Option.some.inj h
              have p10 := (p10.front 0 _ rfl).drop
              have p10 := (p10.front 0 _ rfl).drop
              exact Goes.ret (fn := Try.f33) (by kernel_rfl) (v := .bool false) (by kernel_rfl) ⟨S10, rfl, ((((((((((Ext.refl S0 w0).trans z2).trans z3).trans z4).trans z5).trans z6).trans z7).trans z8).trans z9).trans z10), p10⟩
          · rw [decide_eq_false h43]
            refine Goes.runs 9 [(47, undef), (48, undef), (49, .bool false), (50, .bool false), (51, undef), (52, undef), (53, .bool false), (0, .bool false)] [.code (sub [1, 1, 1, 1] B33)] (by kernel_rfl) ?_
            obtain rfl := Option.some.inj h
            have p10 := (p10.front 0 _ rfl).drop
            have p10 := (p10.front 0 _ rfl).drop
            exact Goes.ret (fn := Try.f33) (by kernel_rfl) (v := .bool false) (by kernel_rfl) ⟨S10, rfl, ((((((((((Ext.refl S0 w0).trans z2).trans z3).trans z4).trans z5).trans z6).trans z7).trans z8).trans z9).trans z10), p10⟩
        · rw [decide_eq_false h34]
          refine Goes.runs 14 [(40, undef), (41, undef), (42, undef), (43, undef), (44, undef), (45, .bool false), (46, .bool false), (47, undef), (48, undef), (49, .bool false), (50, .bool false), (51, undef), (52, undef), (53, .bool false)] [.inRegion (opsOf (sub [1, 1, 1, 0] B33)) [34], .code (sub [1, 1, 1, 1] B33)] (by kernel_rfl) ?_
          refine Goes.runs 2 [(0, .bool false)] [.code (sub [1, 1, 1, 1] B33)] (by kernel_rfl) ?_
          obtain rfl := Option.some.inj h
          have p10 := (p10.front 0 _ rfl).drop
          have p10 := (p10.front 0 _ rfl).drop
          exact Goes.ret (fn := Try.f33) (by kernel_rfl) (v := .bool false) (by kernel_rfl) ⟨S10, rfl, ((((((((((Ext.refl S0 w0).trans z2).trans z3).trans z4).trans z5).trans z6).trans z7).trans z8).trans z9).trans z10), p10⟩
      · rw [decide_eq_false h25]
        refine Goes.runs 14 [(33, undef), (34, undef), (35, undef), (36, undef), (37, undef), (38, .bool false), (39, .bool false), (40, undef), (41, undef), (42, undef), (43, undef), (44, undef), (45, .bool false), (46, .bool false)] [.inRegion (opsOf (sub [1, 1, 1, 0] B33)) [27, 28, 29, 30, 31, 32, 33, 34], .code (sub [1, 1, 1, 1] B33)] (by kernel_rfl) ?_
        refine Goes.runs 9 [(47, undef), (48, undef), (49, .bool false), (50, .bool false), (51, undef), (52, undef), (53, .bool false), (0, .bool false)] [.code (sub [1, 1, 1, 1] B33)] (by kernel_rfl) ?_
        obtain rfl := Option.some.inj h
        have p10 := (p10.front 0 _ rfl).drop
        have p10 := (p10.front 0 _ rfl).drop
        exact Goes.ret (fn := Try.f33) (by kernel_rfl) (v := .bool false) (by kernel_rfl) ⟨S10, rfl, ((((((((((Ext.refl S0 w0).trans z2).trans z3).trans z4).trans z5).trans z6).trans z7).trans z8).trans z9).trans z10), p10⟩
    · rw [decide_eq_false h24]
      refine Goes.runs 14 [(28, undef), (29, undef), (30, undef), (31, .bool false), (32, .bool false), (33, undef), (34, undef), (35, undef), (36, undef), (37, undef), (38, .bool false), (39, .bool false), (40, undef), (41, undef)] [.inRegion (opsOf (sub [1, 1, 1, 0] B33)) [22, 23, 24, 25, 26, 27, 28, 29, 30, 31, 32, 33, 34], .code (sub [1, 1, 1, 1] B33)] (by kernel_rfl) ?_
      refine Goes.runs 14 [(42, undef), (43, undef), (44, undef), (45, .bool false), (46, .bool false), (47, undef), (48, undef), (49, .bool false), (50, .bool false), (51, undef), (52, undef), (53, .bool false), (0, .bool false)] [.code (sub [1, 1, 1, 1] B33)] (by kernel_rfl) ?_
      obtain rfl := Option.some.inj h
      have p10 := (p10.front 0 _ rfl).drop
      have p10 := (p10.front 0 _ rfl).drop
      exact Goes.ret (fn := Try.f33) (by kernel_rfl) (v := .bool false) (by kernel_rfl) ⟨S10, rfl, ((((((((((Ext.refl S0 w0).trans z2).trans z3).trans z4).trans z5).trans z6).trans z7).trans z8).trans z9).trans z10), p10⟩
  · rw [decide_eq_false h23]
    refine Goes.runs 14 [(24, undef), (25, undef), (26, .bool false), (27, .bool false), (28, undef), (29, undef), (30, undef), (31, .bool false), (32, .bool false), (33, undef), (34, undef), (35, undef), (36, undef), (37, undef)] [.inRegion (opsOf (sub [1, 1, 1, 0] B33)) [18, 19, 20, 21, 22, 23, 24, 25, 26, 27, 28, 29, 30, 31, 32, 33, 34], .code (sub [1, 1, 1, 1] B33)] (by kernel_rfl) ?_
    refine Goes.runs 14 [(38, .bool false), (39, .bool false), (40, undef), (41, undef), (42, undef), (43, undef), (44, undef), (45, .bool false), (46, .bool false), (47, undef), (48, undef), (49, .bool false), (50, .bool false), (51, undef)] [.inRegion (opsOf (sub [1, 1, 1, 0] B33)) [32, 33, 34], .code (sub [1, 1, 1, 1] B33)] (by kernel_rfl) ?_
    refine Goes.runs 4 [(52, undef), (53, .bool false), (0, .bool false)] [.code (sub [1, 1, 1, 1] B33)] (by kernel_rfl) ?_
    obtain rfl := Option.some.inj h
    have p10 := (p10.front 0 _ rfl).drop
    have p10 := (p10.front 0 _ rfl).drop
    exact Goes.ret (fn := Try.f33) (by kernel_rfl) (v := .bool false) (by kernel_rfl) ⟨S10, rfl, ((((((((((Ext.refl S0 w0).trans z2).trans z3).trans z4).trans z5).trans z6).trans z7).trans z8).trans z9).trans z10), p10⟩

/-! tidepole/tidepolelaw03.FrameWrites -/
def Post.tidepolelaw03_FrameWrites (nz : Nat) (wz : World) (S0 : Fz) (w0 : World) (Lr : List Ent) (r : Bool) (v : Value) (w' : World) : Prop :=
  ∃ (S' : Fz), v = .bool r ∧ Ext S0 w0 S' w' ∧ Hp nz wz S' w' (Lr)

theorem W.tidepolelaw03_FrameWrites (x0 : Int) (x1 : List (List Int)) (r : Bool) (h : M.tidepolelaw03_FrameWrites x0 x1 = some r) (nz : Nat) (wz : World) (S0 : Fz) (w0 : World) (Lr : List Ent) (Ax1 : Option Addr) (nx1 : Nat) (cx1 : Nat) (p0 : Hp nz wz S0 w0 (Lr)) (fx1 : Rd (kSl (kInt .u8)) S0 w0 Ax1 cx1 x1) (lx1 : x1.length = nx1) :
    Calls Try.prog 7 #[.int .i64 x0, .slice Ax1 nx1 cx1] w0 (Rets (Post.tidepolelaw03_FrameWrites nz wz S0 w0 Lr r)) := by
  subst lx1
  refine calls_of_goes (fn := Try.f7) (c := B7) (by kernel_rfl) (by kernel_rfl) 58 (by kernel_rfl) ?_
  refine Goes.jump 60 [(0, .int .i64 x0), (1, .slice Ax1 x1.length cx1)] (by kernel_rfl) (fun junk => ?_)
  delta M.tidepolelaw03_FrameWrites at h
  refine Goes.runs 7 [(4, .bool false), (13, .slice Ax1 x1.length cx1)] [.inRegion (opsOf (sub [1, 0] B7)) [1, 2], .code (sub [1, 1] B7)] (by kernel_rfl) ?_
  refine bind_some' h fun y1 e2 h => ?_
  refine Op_.call (.call { callee := .value (.func 28), args := #[(.tmp 13)], argTypes := #[41] }) 14 41 28 #[.slice Ax1 x1.length cx1] (Goes.cs (by kernel_rfl)) (by kernel_rfl) (W.tidepolelaw03_few x1 y1 e2 nz wz S0 w0 (Lr) Ax1 x1.length cx1 p0 fx1 rfl) ?_
  rintro _ w2 ⟨S2, Gr_2, nr_2, cr_2, csr_2, rfl, z2, p2, fr_2, rfl⟩
  refine Goes.runs 6 [(1, .slice (Gp Gr_2) y1.length cr_2), (16, .int .i64 x0), (17, .slice (Gp Gr_2) y1.length cr_2)] [.inRegion (opsOf (sub [1, 1, 0] B7)) [2, 3, 4, 5, 6, 7, 8], .code (sub [1, 1, 1] B7)] (by kernel_rfl) ?_
  obtain ⟨S3, z3, p3, f4⟩ := p2.freezeRd 0 rfl fr_2 (by decide)
  refine bind_some' h fun y5 e6 h => ?_
  refine Op_.call (.call { callee := .value (.func 28), args := #[(.tmp 17)], argTypes := #[41] }) 18 41 28 #[.slice (Gp Gr_2) y1.length cr_2] (Goes.cs (by kernel_rfl)) (by kernel_rfl) (W.tidepolelaw03_few y1 y5 e6 nz wz S3 w2 ((Gr_2, .row 23 csr_2 (cr_2 * (kSl (kInt .u8)).size) csr_2.length) :: Lr) (Gp Gr_2) y1.length cr_2 p3 f4 rfl) ?_
  rintro _ w4 ⟨S4, Gr_4, nr_4, cr_4, csr_4, rfl, z4, p4, fr_4, rfl⟩
  obtain ⟨S5, z5, p5, f8⟩ := p4.freezeRd 0 rfl fr_4 (by decide)
  refine bind_some' h fun y9 e10 h => ?_
  refine Op_.call (.call { callee := .value (.func 29), args := #[(.tmp 16), (.tmp 18)], argTypes := #[3, 41] }) 19 43 29 #[.int .i64 x0, .slice (Gp Gr_4) y5.length cr_4] (Goes.cs (by kernel_rfl)) (by kernel_rfl) (W.frame_Write x0 y5 y9 e10 nz wz S5 w4 ((Gr_4, .row 23 csr_4 (cr_4 * (kSl (kInt .u8)).size) csr_4.length) :: (Gr_2, .row 23 csr_2 (cr_2 * (kSl (kInt .u8)).size) csr_2.length) :: Lr) (Gp Gr_4) y5.length cr_4 p5 f8 rfl) ?_
  rintro _ w6 ⟨S6, Gr_6_0, nr_6_0, cr_6_0, csr_6_0, rfl, z6, p6, fr_6_0, rfl⟩
  have p6 := (p6.front 1 _ rfl).drop
  refine Goes.runs 10 [(15, .tuple #[.slice (Gp Gr_6_0) y9.1.length cr_6_0, .int .i64 y9.2]), (20, .slice (Gp Gr_6_0) y9.1.length cr_6_0), (21, .int .i64 y9.2), (5, .slice (Gp Gr_6_0) y9.1.length cr_6_0), (6, .int .i64 y9.2), (23, .int .i64 x0), (24, .slice (Gp Gr_2) y1.length cr_2)] [.inRegion (opsOf (sub [1, 1, 1, 0] B7)) [2, 3, 4, 5, 6, 7], .code (sub [1, 1, 1, 1] B7)] (by kernel_rfl) ?_
  refine bind_some' h fun y12 e13 h => ?_
  refine Op_.call (.call { callee := .value (.func 30), args := #[(.tmp 23), (.tmp 24)], argTypes := #[3, 41] }) 25 43 30 #[.int .i64 x0, .slice (Gp Gr_2) y1.length cr_2] (Goes.cs (by kernel_rfl)) (by kernel_rfl) (W.tidepoleref03_Write x0 y1 y12 e13 nz wz S6 w6 ((Gr_6_0, .row 5 csr_6_0 (cr_6_0 * (kInt .u8).size) 0) :: (Gr_2, .row 23 csr_2 (cr_2 * (kSl (kInt .u8)).size) csr_2.length) :: Lr) (Gp Gr_2) y1.length cr_2 p6 (f4.ext ((z4.trans z5).trans z6)) rfl) ?_
  rintro _ w7 ⟨S7, Gr_7_0, nr_7_0, cr_7_0, csr_7_0, rfl, z7, p7, fr_7_0, rfl⟩
  refine Goes.runs 9 [(22, .tuple #[.slice (Gp Gr_7_0) y12.1.length cr_7_0, .int .i64 y12.2]), (26, .slice (Gp Gr_7_0) y12.1.length cr_7_0), (27, .int .i64 y12.2), (7, .slice (Gp Gr_7_0) y12.1.length cr_7_0), (8, .int .i64 y12.2), (29, .slice (Gp Gr_2) y1.length cr_2)] [.inRegion (opsOf (sub [1, 1, 1, 1, 0] B7)) [1, 2, 3, 4, 5, 6, 7], .code (sub [1, 1, 1, 1, 1] B7)] (by kernel_rfl) ?_
  refine bind_some' h fun y15 e16 h => ?_
  refine Op_.call (.call { callee := .value (.func 28), args := #[(.tmp 29)], argTypes := #[41] }) 30 41 28 #[.slice (Gp Gr_2) y1.length cr_2] (Goes.cs (by kernel_rfl)) (by kernel_rfl) (W.tidepolelaw03_few y1 y15 e16 nz wz S7 w7 ((Gr_7_0, .row 5 csr_7_0 (cr_7_0 * (kInt .u8).size) 0) :: (Gr_6_0, .row 5 csr_6_0 (cr_6_0 * (kInt .u8).size) 0) :: (Gr_2, .row 23 csr_2 (cr_2 * (kSl (kInt .u8)).size) csr_2.length) :: Lr) (Gp Gr_2) y1.length cr_2 p7 (f4.ext (((z4.trans z5).trans z6).trans z7)) rfl) ?_
  rintro _ w8 ⟨S8, Gr_8, nr_8, cr_8, csr_8, rfl, z8, p8, fr_8, rfl⟩
  obtain ⟨S9, z9, p9, f18⟩ := p8.freezeRd 0 rfl fr_8 (by decide)
  refine bind_some' h fun y19 e20 h => ?_
  refine Op_.call (.call { callee := .value (.func 31), args := #[(.tmp 30)], argTypes := #[41] }) 31 46 31 #[.slice (Gp Gr_8) y15.length cr_8] (Goes.cs (by kernel_rfl)) (by kernel_rfl) (W.frame_Need y15 y19 e20 nz wz S9 w8 ((Gr_8, .row 23 csr_8 (cr_8 * (kSl (kInt .u8)).size) csr_8.length) :: (Gr_7_0, .row 5 csr_7_0 (cr_7_0 * (kInt .u8).size) 0) :: (Gr_6_0, .row 5 csr_6_0 (cr_6_0 * (kInt .u8).size) 0) :: (Gr_2, .row 23 csr_2 (cr_2 * (kSl (kInt .u8)).size) csr_2.length) :: Lr) (Gp Gr_8) y15.length cr_8 p9 f18 rfl) ?_
  rintro _ w10 ⟨S10, rfl, z10, p10⟩
  have p10 := (p10.front 0 _ rfl).drop
  refine Goes.runs 9 [(28, .tuple #[.int .i64 y19.1, .int .i64 y19.2]), (32, .int .i64 y19.1), (33, .int .i64 y19.2), (9, .int .i64 y19.1), (10, .int .i64 y19.2), (35, .slice (Gp Gr_2) y1.length cr_2)] [.inRegion (opsOf (sub [1, 1, 1, 1, 1, 0] B7)) [1, 2, 3, 4, 5, 6], .code (sub [1, 1, 1, 1, 1, 1] B7)] (by kernel_rfl) ?_
  refine bind_some' h fun y21 e22 h => ?_
  refine Op_.call (.call { callee := .value (.func 32), args := #[(.tmp 35)], argTypes := #[41] }) 36 46 32 #[.slice (Gp Gr_2) y1.length cr_2] (Goes.cs (by kernel_rfl)) (by kernel_rfl) (W.tidepoleref03_Need y1 y21 e22 nz wz S10 w10 ((Gr_7_0, .row 5 csr_7_0 (cr_7_0 * (kInt .u8).size) 0) :: (Gr_6_0, .row 5 csr_6_0 (cr_6_0 * (kInt .u8).size) 0) :: (Gr_2, .row 23 csr_2 (cr_2 * (kSl (kInt .u8)).size) csr_2.length) :: Lr) (Gp Gr_2) y1.length cr_2 p10 (f4.ext ((((((z4.trans z5).trans z6).trans z7).trans z8).trans z9).trans z10)) rfl) ?_
  rintro _ w11 ⟨S11, rfl, z11, p11⟩
  have p11 := (p11.front 2 _ rfl).drop
  refine Goes.runs 10 [(34, .tuple #[.int .i64 y21.1, .int .i64 y21.2]), (37, .int .i64 y21.1), (38, .int .i64 y21.2), (11, .int .i64 y21.1), (12, .int .i64 y21.2), (39, .slice (Gp Gr_6_0) y9.1.length cr_6_0), (40, .slice (Gp Gr_7_0) y12.1.length cr_7_0)] [.inRegion (opsOf (sub [1, 1, 1, 1, 1, 1, 0] B7)) [2, 3, 4, 5, 6, 7, 8, 9, 10, 11, 12, 13, 14, 15, 16, 17, 18, 19, 20, 21], .code (sub [1, 1, 1, 1, 1, 1, 1] B7)] (by kernel_rfl) ?_
  obtain ⟨S12, z12, p12, f23⟩ := p11.freezeRd 1 rfl (fr_6_0.ext ((((z7.trans z8).trans z9).trans z10).trans z11)) (by decide)
  obtain ⟨S13, z13, p13, f24⟩ := p12.freezeRd 0 rfl (fr_7_0.ext ((((z8.trans z9).trans z10).trans z11).trans z12)) (by decide)
  refine bind_some' h fun y25 e26 h => ?_
  refine Op_.call (.call { callee := .value (.func 17), args := #[(.tmp 39), (.tmp 40)], argTypes := #[23, 23] }) 41 4 17 #[.slice (Gp Gr_6_0) y9.1.length cr_6_0, .slice (Gp Gr_7_0) y12.1.length cr_7_0] (Goes.cs (by kernel_rfl)) (by kernel_rfl) (W.tidepolebase_SameBytes y9.1 y12.1 y25 e26 nz wz S13 w11 ((Gr_7_0, .row 5 csr_7_0 (cr_7_0 * (kInt .u8).size) csr_7_0.length) :: (Gr_6_0, .row 5 csr_6_0 (cr_6_0 * (kInt .u8).size) csr_6_0.length) :: Lr) (Gp Gr_6_0) y9.1.length cr_6_0 (Gp Gr_7_0) y12.1.length cr_7_0 p13 (f23.ext z13) rfl f24 rfl) ?_
  rintro _ w14 ⟨S14, rfl, z14, p14⟩
  have p14 := (p14.front 0 _ rfl).drop
  have p14 := (p14.front 0 _ rfl).drop
  refine Goes.runs 1 [(42, .bool y25)] [.inRegion (opsOf (sub [1, 1, 1, 1, 1, 1, 0] B7)) [4, 5, 6, 7, 8, 9, 10, 11, 12, 13, 14, 15, 16, 17, 18, 19, 20, 21], .code (sub [1, 1, 1, 1, 1, 1, 1] B7)] (by kernel_rfl) ?_
  refine ite_some h (fun h27 h => ?_) (fun h27 h => ?_)
  · rw [h27]
    refine Goes.runs 5 [(43, .int .i64 y9.2), (44, .int .i64 y12.2), (45, .bool (decide (y9.2 = y12.2))), (46, .bool (decide (y9.2 = y12.2))), (47, .bool (decide (y9.2 = y12.2)))] [.inRegion (opsOf (sub [1, 1, 1, 1, 1, 1, 0] B7)) [9, 10, 11, 12, 13, 14, 15, 16, 17, 18, 19, 20, 21], .code (sub [1, 1, 1, 1, 1, 1, 1] B7)] (by kernel_rfl) ?_
    refine ite_some h (fun h28 h => ?_) (fun h28 h => ?_)
    · rw [decide_eq_true h28]
      refine Goes.runs 5 [(48, .int .i64 y19.1), (49, .int .i64 y21.1), (50, .bool (decide (y19.1 = y21.1))), (51, .bool (decide (y19.1 = y21.1))), (52, .bool (decide (y19.1 = y21.1)))] [.inRegion (opsOf (sub [1, 1, 1, 1, 1, 1, 0] B7)) [14, 15, 16, 17, 18, 19, 20, 21], .code (sub [1, 1, 1, 1, 1, 1, 1] B7)] (by kernel_rfl) ?_
      refine ite_some h (fun h29 h => ?_) (fun h29 h => ?_)
      · rw [decide_eq_true h29]
        refine Goes.runs 5 [(53, .int .i64 y19.2), (54, .int .i64 y21.2), (55, .bool (decide (y19.2 = y21.2))), (56, .bool (decide (y19.2 = y21.2))), (57, .bool (decide (y19.2 = y21.2)))] [.inRegion (opsOf (sub [1, 1, 1, 1, 1, 1, 0] B7)) [19, 20, 21], .code (sub [1, 1, 1, 1, 1, 1, 1] B7)] (by kernel_rfl) ?_
        refine ite_some h (fun h30 h => ?_) (fun h30 h => ?_)
        · rw [decide_eq_true h30]
          refine bind_some' h fun y31 e32 h => ?_
          refine Op_.call (.call { callee := .value (.func 33), args := #[], argTypes := #[] }) 58 4 33 #[] (Goes.cs (by kernel_rfl)) (by kernel_rfl) (W.tidepolelaw03_works y31 e32 nz wz S14 w14 (Lr)  p14 ) ?_
          rintro _ w15 ⟨S15, rfl, z15, p15⟩
          refine Goes.runs 3 [(59, .bool y31), (4, .bool y31)] [.code (sub [1, 1, 1, 1, 1, 1, 1] B7)] (by kernel_rfl) ?_
          obtain rfl := Option.some.inj h
          exact Goes.ret (fn := Try.f7) (by kernel_rfl) (v := .bool y31) (by kernel_rfl) ⟨S15, rfl, (((((((((((((((Ext.refl S0 w0).trans z2).trans z3).trans z4).trans z5).trans z6).trans z7).trans z8).trans z9).trans z10).trans z11).trans z12).trans z13).trans z14).trans z15), p15⟩
        · rw [decide_eq_false h30]
          refine Goes.runs 4 [(58, undef), (59, .bool false), (4, .bool false)] [.code (sub [1, 1, 1, 1, 1, 1, 1] B7)] (by kernel_rfl) ?_
          obtain rfl := Option.some.inj h
          exact Goes.ret (fn := Try.f7) (by kernel_rfl) (v := .bool false) (by kernel_rfl) ⟨S14, rfl, ((((((((((((((Ext.refl S0 w0).trans z2).trans z3).trans z4).trans z5).trans z6).trans z7).trans z8).trans z9).trans z10).trans z11).trans z12).trans z13).trans z14), p14⟩
      · rw [decide_eq_false h29]
        refine Goes.runs 9 [(53, undef), (54, undef), (55, undef), (56, .bool false), (57, .bool false), (58, undef), (59, .bool false), (4, .bool false)] [.code (sub [1, 1, 1, 1, 1, 1, 1] B7)] (by kernel_rfl) ?_
        obtain rfl := Option.some.inj h
        exact Goes.ret (fn := Try.f7) (by kernel_rfl) (v := .bool false) (by kernel_rfl) ⟨S14, rfl, ((((((((((((((Ext.refl S0 w0).trans z2).trans z3).trans z4).trans z5).trans z6).trans z7).trans z8).trans z9).trans z10).trans z11).trans z12).trans z13).trans z14), p14⟩
    · rw [decide_eq_false h28]
      refine Goes.runs 14 [(48, undef), (49, undef), (50, undef), (51, .bool false), (52, .bool false), (53, undef), (54, undef), (55, undef), (56, .bool false), (57, .bool false), (58, undef), (59, .bool false), (4, .bool false)] [.code (sub [1, 1, 1, 1, 1, 1, 1] B7)] (by kernel_rfl) ?_
      obtain rfl := Option.some.inj h
      exact Goes.ret (fn := Try.f7) (by kernel_rfl) (v := .bool false) (by kernel_rfl) ⟨S14, rfl, ((((((((((((((Ext.refl S0 w0).trans z2).trans z3).trans z4).trans z5).trans z6).trans z7).trans z8).trans z9).trans z10).trans z11).trans z12).trans z13).trans z14), p14⟩
  · have h27' : y25 = false := by simpa using h27
    rw [h27']
    refine Goes.runs 14 [(43, undef), (44, undef), (45, undef), (46, .bool false), (47, .bool false), (48, undef), (49, undef), (50, undef), (51, .bool false), (52, .bool false), (53, undef), (54, undef), (55, undef), (56, .bool false)] [.inRegion (opsOf (sub [1, 1, 1, 1, 1, 1, 0] B7)) [18, 19, 20, 21], .code (sub [1, 1, 1, 1, 1, 1, 1] B7)] (by kernel_rfl) ?_
    refine Goes.runs 5 [(57, .bool false), (58, undef), (59, .bool false), (4, .bool false)] [.code (sub [1, 1, 1, 1, 1, 1, 1] B7)] (by kernel_rfl) ?_
    obtain rfl := Option.some.inj h
    exact Goes.ret (fn := Try.f7) (by kernel_rfl) (v := .bool false) (by kernel_rfl) ⟨S14, rfl, ((((((((((((((Ext.refl S0 w0).trans z2).trans z3).trans z4).trans z5).trans z6).trans z7).trans z8).trans z9).trans z10).trans z11).trans z12).trans z13).trans z14), p14⟩

/-! tidepole/tidepolebase.Among -/
def Post.tidepolebase_Among (nz : Nat) (wz : World) (S0 : Fz) (w0 : World) (Lr : List Ent) (r : Int) (v : Value) (w' : World) : Prop :=
  ∃ (S' : Fz), v = .int .i64 r ∧ Ext S0 w0 S' w' ∧ Hp nz wz S' w' (Lr)

theorem W.tidepolebase_Among (x0 : Int) (x1 : Int) (r : Int) (h : M.tidepolebase_Among x0 x1 = some r) (nz : Nat) (wz : World) (S0 : Fz) (w0 : World) (Lr : List Ent) (p0 : Hp nz wz S0 w0 (Lr)) :
    Calls Try.prog 27 #[.int .i64 x0, .int .i64 x1] w0 (Rets (Post.tidepolebase_Among nz wz S0 w0 Lr r)) := by
  refine calls_of_goes (fn := Try.f27) (c := B27) (by kernel_rfl) (by kernel_rfl) 11 (by kernel_rfl) ?_
  refine Goes.jump 13 [(0, .int .i64 x0), (1, .int .i64 x1)] (by kernel_rfl) (fun junk => ?_)
  delta M.tidepolebase_Among at h
  refine Goes.runs 10 [(4, .int .i64 0), (5, .int .i64 x1), (6, .bool (decide (x1 < 1)))] [.code (sub [1, 0, 1] B27), .code (sub [1, 1] B27)] (by kernel_rfl) ?_
  refine ite_some h (fun h1 h => ?_) (fun h1 h => ?_)
  · rw [decide_eq_true h1]
    refine Goes.runs 5 [(4, .int .i64 0)] [.code (sub [1, 0, 1, 0, 1] B27), .code (sub [1, 1] B27)] (by kernel_rfl) ?_
    obtain rfl := Option.some.inj h
    exact Goes.ret (fn := Try.f27) (by kernel_rfl) (v := .int .i64 0) (by kernel_rfl) ⟨S0, rfl, (Ext.refl S0 w0), p0⟩
  · rw [decide_eq_false h1]
    refine Goes.runs 8 [(7, .int .i64 x0), (8, .int .u64 (wr .u64 x0)), (9, .int .i64 x1), (10, .int .u64 (wr .u64 x1))] [.inRegion (opsOf (sub [1, 1, 0] B27)) [4, 5, 6], .code (sub [1, 1, 1] B27)] (by kernel_rfl) ?_
    refine guard_some' h fun g2 h => ?_
    refine Op_.binrem 61 (.tmp 8) (.tmp 10) 61 11 61 .u64 (wr .u64 x0) (wr .u64 x1) (Goes.vs (by kernel_rfl)) (by kernel_rfl) (by kernel_rfl) g2 ?_
    refine Goes.runs 3 [(12, .int .i64 (wr .i64 (irem .u64 (wr .u64 x0) (wr .u64 x1)))), (4, .int .i64 (wr .i64 (irem .u64 (wr .u64 x0) (wr .u64 x1))))] [.code (sub [1, 1, 1] B27)] (by kernel_rfl) ?_
    obtain rfl := Option.some.inj h
    exact Goes.ret (fn := Try.f27) (by kernel_rfl) (v := .int .i64 (wr .i64 (irem .u64 (wr .u64 x0) (wr .u64 x1)))) (by kernel_rfl) ⟨S0, rfl, (Ext.refl S0 w0), p0⟩

/-! tidepole/tidepolelaw03.laid -/
def Post.tidepolelaw03_laid (nz : Nat) (wz : World) (S0 : Fz) (w0 : World) (Lr : List Ent) (r : Int × (List (List Int)) × (List Int)) (v : Value) (w' : World) : Prop :=
  ∃ (S' : Fz) (Gq_1 : Option Nat) (nq_1 : Nat) (cq_1 : Nat) (csq_1 : List Value) (kzq_1 : Nat) (Gq_2 : Option Nat) (nq_2 : Nat) (cq_2 : Nat) (csq_2 : List Value), v = .tuple #[.int .i64 r.1, .slice (Gp Gq_1) nq_1 cq_1, .slice (Gp Gq_2) nq_2 cq_2] ∧ Ext S0 w0 S' w' ∧ Hp nz wz S' w' ((Gq_1, .row 23 csq_1 (cq_1 * (kSl (kInt .u8)).size) kzq_1) :: (Gq_2, .row 5 csq_2 (cq_2 * (kInt .u8).size) 0) :: Lr) ∧ Els (kSl (kInt .u8)) S' w' csq_1 r.2.1 ∧ r.2.1.length = nq_1 ∧ Els (kInt .u8) S' w' csq_2 r.2.2 ∧ r.2.2.length = nq_2

def L.tidepolelaw03_laid_l0 (nz : Nat) (wz : World) (S0 : Fz) (w0 : World) (Lr : List Ent) : Int × (List (List Int)) × (List (List Int)) × Int → (Int × (List (List Int)) × (List Int)) → Prop := fun ⟨x0, x1, x7, x8⟩ r => ∀ S1 w1, Ext S0 w0 S1 w1 → ∀ (Ax1 : Option Addr) (nx1 : Nat) (cx1 : Nat) (Gx7 : Option Nat) (nx7 : Nat) (cx7 : Nat) (csx7 : List Value) (_ : Hp nz wz S1 w1 ((Gx7, .row 23 csx7 (cx7 * (kSl (kInt .u8)).size) 0) :: Lr)) (_ : Rd (kSl (kInt .u8)) S1 w1 Ax1 cx1 x1) (_ : x1.length = nx1) (_ : Els (kSl (kInt .u8)) S1 w1 csx7 x7) (_ : x7.length = nx7) (junk : Nat → Value),
  Goes Try.prog (base 34) [.code (sub [1, 1, 1, 0, 1, 0, 0] B34), .inLoop (sub [1, 1, 1, 0, 1, 0, 0] B34), .inBlock 0, .code (sub [1, 1, 1, 1] B34)] ⟨lfr 48 [(0, .int .i64 x0), (1, .slice Ax1 nx1 cx1), (7, .slice (Gp Gx7) nx7 cx7), (8, .int .i64 x8)] junk, []⟩ w1 (Done Try.prog 34 (Rets (Post.tidepolelaw03_laid nz wz S0 w0 Lr r)))

def L.tidepolelaw03_laid_l1 (nz : Nat) (wz : World) (S0 : Fz) (w0 : World) (Lr : List Ent) : Int × (List (List Int)) × (List (List Int)) × Int × Bool → (Int × (List (List Int)) × (List Int)) → Prop := fun ⟨x0, x1, x7, x8, x21⟩ r => ∀ S1 w1, Ext S0 w0 S1 w1 → ∀ (Ax1 : Option Addr) (nx1 : Nat) (cx1 : Nat) (Gx7 : Option Nat) (nx7 : Nat) (cx7 : Nat) (csx7 : List Value) (_ : Hp nz wz S1 w1 ((Gx7, .row 23 csx7 (cx7 * (kSl (kInt .u8)).size) 0) :: Lr)) (_ : Rd (kSl (kInt .u8)) S1 w1 Ax1 cx1 x1) (_ : x1.length = nx1) (_ : Els (kSl (kInt .u8)) S1 w1 csx7 x7) (_ : x7.length = nx7) (junk : Nat → Value),
  Goes Try.prog (base 34) [.code (sub [1, 1, 1, 0, 1, 0, 0, 0, 1] B34), .code (sub [1, 1, 1, 0, 1, 0, 0, 1] B34), .inLoop (sub [1, 1, 1, 0, 1, 0, 0] B34), .inBlock 0, .code (sub [1, 1, 1, 1] B34)] ⟨lfr 48 [(0, .int .i64 x0), (1, .slice Ax1 nx1 cx1), (7, .slice (Gp Gx7) nx7 cx7), (8, .int .i64 x8), (21, .bool x21)] junk, []⟩ w1 (Done Try.prog 34 (Rets (Post.tidepolelaw03_laid nz wz S0 w0 Lr r)))

theorem W.tidepolelaw03_laid_l0_all (nz : Nat) (wz : World) (S0 : Fz) (w0 : World) (Lr : List Ent) : (∀ a r, M.tidepolelaw03_laid_l0 a = some r → (L.tidepolelaw03_laid_l0 nz wz S0 w0 Lr) a r) ∧ (∀ a r, M.tidepolelaw03_laid_l1 a = some r → (L.tidepolelaw03_laid_l1 nz wz S0 w0 Lr) a r) := by
  refine M.tidepolelaw03_laid_l0.mutual_partial_correctness (L.tidepolelaw03_laid_l0 nz wz S0 w0 Lr) (L.tidepolelaw03_laid_l1 nz wz S0 w0 Lr) ?_ ?_
  · intro rec_tidepolelaw03_laid_l1 ih_tidepolelaw03_laid_l1 ⟨x0, x1, x7, x8⟩ r h S1 w1 hx Ax1 nx1 cx1 Gx7 nx7 cx7 csx7 p1 fx1 lx1 fx7 lx7 junk
    dsimp only at h
    subst lx1
    subst lx7
    refine Goes.runs 8 [(14, .int .i64 x8), (15, .slice Ax1 x1.length cx1), (16, .int .i64 (x1.length : Int)), (17, .bool (decide (x8 < (x1.length : Int)))), (18, .bool (decide (x8 < (x1.length : Int))))] [.inRegion (opsOf (sub [1, 1, 1, 0, 1, 0, 0, 0, 0] B34)) [5, 6, 7], .code (sub [1, 1, 1, 0, 1, 0, 0, 0, 1] B34), .code (sub [1, 1, 1, 0, 1, 0, 0, 1] B34), .inLoop (sub [1, 1, 1, 0, 1, 0, 0] B34), .inBlock 0, .code (sub [1, 1, 1, 1] B34)] (by kernel_rfl) ?_
    refine ite_some h (fun h7 h => ?_) (fun h7 h => ?_)
    · rw [decide_eq_true h7]
      refine Goes.runs 4 [(19, .int .i64 x8), (20, .bool (decide (x8 < 8))), (21, .bool (decide (x8 < 8)))] [.code (sub [1, 1, 1, 0, 1, 0, 0, 0, 1] B34), .code (sub [1, 1, 1, 0, 1, 0, 0, 1] B34), .inLoop (sub [1, 1, 1, 0, 1, 0, 0] B34), .inBlock 0, .code (sub [1, 1, 1, 1] B34)] (by kernel_rfl) ?_
      exact Goes.jump 48 [(0, .int .i64 x0), (1, .slice Ax1 x1.length cx1), (7, .slice (Gp Gx7) x7.length cx7), (8, .int .i64 x8), (21, .bool (decide (x8 < 8)))] (by kernel_rfl) (ih_tidepolelaw03_laid_l1 _ _ h _ _ hx Ax1 x1.length cx1 Gx7 x7.length cx7 csx7 p1 fx1 rfl fx7 rfl)
    · rw [decide_eq_false h7]
      refine Goes.runs 4 [(19, undef), (20, undef), (21, .bool false)] [.code (sub [1, 1, 1, 0, 1, 0, 0, 0, 1] B34), .code (sub [1, 1, 1, 0, 1, 0, 0, 1] B34), .inLoop (sub [1, 1, 1, 0, 1, 0, 0] B34), .inBlock 0, .code (sub [1, 1, 1, 1] B34)] (by kernel_rfl) ?_
      exact Goes.jump 48 [(0, .int .i64 x0), (1, .slice Ax1 x1.length cx1), (7, .slice (Gp Gx7) x7.length cx7), (8, .int .i64 x8), (21, .bool false)] (by kernel_rfl) (ih_tidepolelaw03_laid_l1 _ _ h _ _ hx Ax1 x1.length cx1 Gx7 x7.length cx7 csx7 p1 fx1 rfl fx7 rfl)
  · intro rec_tidepolelaw03_laid_l0 ih_tidepolelaw03_laid_l0 ⟨x0, x1, x7, x8, x21⟩ r h S1 w1 hx Ax1 nx1 cx1 Gx7 nx7 cx7 csx7 p1 fx1 lx1 fx7 lx7 junk
    dsimp only at h
    subst lx1
    subst lx7
    refine ite_some h (fun h9 h => ?_) (fun h9 h => ?_)
    · rw [h9]
      refine Goes.runs 4 [] [.code (sub [1, 1, 1, 0, 1, 0, 0, 1, 0, 0] B34), .inBlock 1, .code (sub [1, 1, 1, 0, 1, 0, 0, 1, 1] B34), .inLoop (sub [1, 1, 1, 0, 1, 0, 0] B34), .inBlock 0, .code (sub [1, 1, 1, 1] B34)] (by kernel_rfl) ?_
      have z4 : Ext S1 w1 S1 (w1).drew := Ext.draw
      have p4 := p1.draw
      refine Goes.drawn (s := []) (F := Fc S1 (w1).drew []) 6 16 (by kernel_rfl) (by kernel_rfl) (by kernel_rfl) (by kernel_rfl) ?_
      generalize (w1).drew = w4 at z4 p4 ⊢
      refine AnyG.pure (i := 0) (.move (.tmp 7)) 24 41 (.slice (Gp Gx7) x7.length cx7) (by kernel_rfl) (by kernel_rfl) (by kernel_rfl) (Fc.here trivial) ?_
      refine AnyG.pure (i := 1) (.move (.tmp 1)) 25 41 (.slice Ax1 x1.length cx1) (by kernel_rfl) (by kernel_rfl) (by kernel_rfl) (Fc.here trivial) ?_
      refine AnyG.pure (i := 2) (.move (.tmp 8)) 26 3 (.int .i64 x8) (by kernel_rfl) (by kernel_rfl) (by kernel_rfl) (Fc.here trivial) ?_
      refine guard_some' h fun g10 h => ?_
      refine guard_some' h fun g11 h => ?_
      refine AnyG.ixR_n (i := 3) 41 (.tmp 25) (.tmp 26) 27 0 23 .i64 x8 (gi x1 x8) rfl rfl (fx1.ext z4) (by kernel_rfl) (by kernel_rfl) (Fc.here trivial) (by kernel_rfl) (by kernel_rfl) (by kernel_rfl) (by kernel_rfl) g10 g11 ?_
      intro a12 _ f13 q14
      obtain ⟨A15, c16, rfl, f17⟩ := q14
      refine AnyG.ld1 (i := 4) 23 (.tmp 27) 28 23 a12 (.slice A15 ((gi x1 x8).length) c16) (by kernel_rfl) (by kernel_rfl) (Fc.here trivial) (by kernel_rfl) (by kernel_rfl) (fun _ h => f13.fc h 0 _ rfl) ?_
      refine AnyG.pure (i := 5) (.move (.tmp 1)) 29 41 (.slice Ax1 x1.length cx1) (by kernel_rfl) (by kernel_rfl) (by kernel_rfl) (Fc.here trivial) ?_
      refine AnyG.pure (i := 6) (.move (.tmp 8)) 30 3 (.int .i64 x8) (by kernel_rfl) (by kernel_rfl) (by kernel_rfl) (Fc.here trivial) ?_
      refine AnyG.ixR_n (i := 7) 41 (.tmp 29) (.tmp 30) 31 0 23 .i64 x8 (gi x1 x8) rfl rfl (fx1.ext z4) (by kernel_rfl) (by kernel_rfl) (Fc.here trivial) (by kernel_rfl) (by kernel_rfl) (by kernel_rfl) (by kernel_rfl) g10 g11 ?_
      intro a18 _ f19 q20
      obtain ⟨A21, c22, rfl, f23⟩ := q20
      refine AnyG.ld1 (i := 8) 23 (.tmp 31) 32 23 a18 (.slice A21 ((gi x1 x8).length) c22) (by kernel_rfl) (by kernel_rfl) (Fc.here trivial) (by kernel_rfl) (by kernel_rfl) (fun _ h => f19.fc h 0 _ rfl) ?_
      refine AnyG.pure (i := 9) (.call { callee := .builtin .len, args := #[(.tmp 32)], argTypes := #[23] }) 33 3 (.int .i64 ((gi x1 x8).length : Int)) (by kernel_rfl) (by kernel_rfl) (by kernel_rfl) (Fc.here trivial) ?_
      refine AnyG.pure (i := 10) (.call { callee := .builtin .min, args := #[(.tmp 33), (.const (.int .i64 600))], argTypes := #[3, 3] }) 34 3 (.int .i64 (imn ((gi x1 x8).length : Int) 600)) (by kernel_rfl) (by kernel_rfl) (by kernel_rfl) (Fc.here trivial) ?_
      refine guard_some' h fun g24 h => ?_
      refine guard_some' h fun g25 h => ?_
      refine let_some h fun v29 e30 h => ?_
      refine AnyG.slR_n (i := 11) 23 (.tmp 28) none (some (.tmp 34)) 35 23 5 0 (imn ((gi x1 x8).length : Int) 600) v29 rfl e30 f17 (by kernel_rfl) (by kernel_rfl) (Fc.here trivial) (by kernel_rfl) (by kernel_rfl) (by kernel_rfl) Bnd.no (Bnd.at_ .i64 (by kernel_rfl)) (by decide : (0 : Int) ≤ 0) g24 g25 ?_
      intro A26 c27 f28
      refine bind_some' h fun y31 e32 h => ?_
      refine Op_.call (.call { callee := .value (.func 12), args := #[(.tmp 35)], argTypes := #[23] }) 36 23 12 #[.slice A26 v29.length c27] (AnyG.cs (i := 12) (by kernel_rfl) (by kernel_rfl)) (by kernel_rfl) (W.tidepolebase_Bytes v29 y31 e32 nz wz S1 w4 ((Gx7, .row 23 csx7 (cx7 * (kSl (kInt .u8)).size) 0) :: Lr) A26 v29.length c27 p4 f28 rfl) ?_
      rintro _ w5 ⟨S5, Gr_5, nr_5, cr_5, csr_5, rfl, z5, p5, fr_5, rfl⟩
      refine AnyG.next z5 trivial ?_
      obtain ⟨S6, z6, p6, f34⟩ := p5.freezeRd 0 rfl fr_5 (by decide)
      refine AnyG.refz z6 ?_
      have f36 : Els (kSl (kInt .u8)) S6 w5 ([.slice (Gp Gr_5) y31.length cr_5] : List Value) [y31] := by exact (Els.cons (K := (kSl (kInt .u8))) (vs := [.slice (Gp Gr_5) y31.length cr_5]) (x := y31) ⟨_, _, rfl, f34⟩ Els.nil)
      refine Op_.made (.buildSlice 41 1 #[(0, (.tmp 36))]) 37 41 (fun b => .slice (Gp (some b)) 1 1) 23 ([.slice (Gp Gr_5) y31.length cr_5] : List Value) p6 (AnyG.vs (i := 13) (by kernel_rfl) (by kernel_rfl)) (by kernel_rfl) ?_
      intro b35 w7 z7 p7
      have p7 : Hp nz wz S6 w7 (((some b35), .row 23 ([.slice (Gp Gr_5) y31.length cr_5] : List Value) (1 * (kSl (kInt .u8)).size) 0) :: (Gr_5, .row 5 csr_5 (cr_5 * (kInt .u8).size) csr_5.length) :: (Gx7, .row 23 csx7 (cx7 * (kSl (kInt .u8)).size) 0) :: Lr) := p7
      refine AnyG.next z7 trivial ?_
      refine guard_some' h fun g41 h => ?_
      refine Op_.ap_n (K := (kSl (kInt .u8))) 41 (.tmp 24) (.tmp 37) 38 41 23 2 (.slice none 0 0) 24 x7.length cx7 1 x7 [y31] (x7 ++ [y31]) (Gp (some b35)) 1 rfl rfl rfl p7 rfl (fx7.ext (((z4.trans z5).trans z6).trans z7)) (AnyG.vs (i := 14) (by kernel_rfl) (by kernel_rfl)) (by kernel_rfl) (by kernel_rfl) (by kernel_rfl) (by kernel_rfl) rfl (by decide) (f36.ext z7) (src_own p7 (q := 0) rfl) (by have := g41; omega) (by have := g41; omega) ?_
      intro w8 G42 c43 cs44 z8 p8 f45
      refine AnyG.next z8 trivial ?_
      refine AnyG.pure (i := 15) (.assign (.tmp 38)) 7 41 (.slice (Gp G42) ((x7 ++ [y31]).length) c43) (by kernel_rfl) (by kernel_rfl) (by kernel_rfl) (Fc.here trivial) ?_
      refine AnyG.done (by kernel_rfl) ?_ _
      have p8 := (p8.front 0 _ rfl).drop
      have p8 := (p8.front 0 _ rfl).drop
      refine Goes.runs 7 [(22, .int .i64 x8), (23, .int .i64 (wr .i64 (x8 + 1))), (8, .int .i64 (wr .i64 (x8 + 1)))] [.code (sub [1, 1, 1, 0, 1, 0, 0] B34), .inLoop (sub [1, 1, 1, 0, 1, 0, 0] B34), .inBlock 0, .code (sub [1, 1, 1, 1] B34)] (by kernel_rfl) ?_
      exact Goes.jump 48 [(0, .int .i64 x0), (1, .slice Ax1 x1.length cx1), (7, .slice (Gp G42) ((x7 ++ [y31]).length) c43), (8, .int .i64 (wr .i64 (x8 + 1)))] (by kernel_rfl) (ih_tidepolelaw03_laid_l0 _ _ h _ _ (((((hx.trans z4).trans z5).trans z6).trans z7).trans z8) Ax1 x1.length cx1 G42 ((x7 ++ [y31]).length) c43 cs44 p8 (fx1.ext ((((z4.trans z5).trans z6).trans z7).trans z8)) rfl f45 rfl)
    · have h9' : x21 = false := by simpa using h9
      rw [h9']
      refine Goes.runs 6 [(40, .int .i64 x0), (41, .slice (Gp Gx7) x7.length cx7)] [.inRegion (opsOf (sub [1, 1, 1, 1, 0] B34)) [2, 3, 4, 5, 6, 7], .code (sub [1, 1, 1, 1, 1] B34)] (by kernel_rfl) ?_
      obtain ⟨S9, z9, p9, f46⟩ := p1.freezeRd 0 rfl fx7 (by decide)
      refine bind_some' h fun y47 e48 h => ?_
      refine Op_.call (.call { callee := .value (.func 29), args := #[(.tmp 40), (.tmp 41)], argTypes := #[3, 41] }) 42 43 29 #[.int .i64 x0, .slice (Gp Gx7) x7.length cx7] (Goes.cs (by kernel_rfl)) (by kernel_rfl) (W.frame_Write x0 x7 y47 e48 nz wz S9 w1 ((Gx7, .row 23 csx7 (cx7 * (kSl (kInt .u8)).size) csx7.length) :: Lr) (Gp Gx7) x7.length cx7 p9 f46 rfl) ?_
      rintro _ w10 ⟨S10, Gr_10_0, nr_10_0, cr_10_0, csr_10_0, rfl, z10, p10, fr_10_0, rfl⟩
      refine Goes.runs 14 [(39, .tuple #[.slice (Gp Gr_10_0) y47.1.length cr_10_0, .int .i64 y47.2]), (43, .slice (Gp Gr_10_0) y47.1.length cr_10_0), (44, .int .i64 y47.2), (9, .slice (Gp Gr_10_0) y47.1.length cr_10_0), (10, .int .i64 y47.2), (45, .int .i64 x0), (46, .slice (Gp Gx7) x7.length cx7), (47, .slice (Gp Gr_10_0) y47.1.length cr_10_0), (4, .int .i64 x0), (5, .slice (Gp Gx7) x7.length cx7), (6, .slice (Gp Gr_10_0) y47.1.length cr_10_0)] [.inRegion (opsOf (sub [1, 1, 1, 1, 1, 0] B34)) [], .code (sub [1, 1, 1, 1, 1, 1] B34)] (by kernel_rfl) ?_
      refine Goes.runs 1 [] [.code (sub [1, 1, 1, 1, 1, 1] B34)] (by kernel_rfl) ?_
      obtain rfl := Option.some.inj h
      have p10 := p10.front 0 _ rfl
      have p10 := p10.front 1 _ rfl
      exact Goes.ret (fn := Try.f34) (by kernel_rfl) (v := .tuple #[.int .i64 x0, .slice (Gp Gx7) x7.length cx7, .slice (Gp Gr_10_0) y47.1.length cr_10_0]) (by kernel_rfl) ⟨S10, Gx7, x7.length, cx7, csx7, csx7.length, Gr_10_0, y47.1.length, cr_10_0, csr_10_0, rfl, ((hx.trans z9).trans z10), p10, (fx7.ext (z9.trans z10)), rfl, fr_10_0, rfl⟩

theorem W.tidepolelaw03_laid_l0 (nz : Nat) (wz : World) (S0 : Fz) (w0 : World) (Lr : List Ent) : ∀ a r, M.tidepolelaw03_laid_l0 a = some r → (L.tidepolelaw03_laid_l0 nz wz S0 w0 Lr) a r := (W.tidepolelaw03_laid_l0_all nz wz S0 w0 Lr).1

theorem W.tidepolelaw03_laid_l1 (nz : Nat) (wz : World) (S0 : Fz) (w0 : World) (Lr : List Ent) : ∀ a r, M.tidepolelaw03_laid_l1 a = some r → (L.tidepolelaw03_laid_l1 nz wz S0 w0 Lr) a r := (W.tidepolelaw03_laid_l0_all nz wz S0 w0 Lr).2

/-! tidepole/tidepolelaw03.laid -/
theorem W.tidepolelaw03_laid (x0 : Int) (x1 : List (List Int)) (r : Int × (List (List Int)) × (List Int)) (h : M.tidepolelaw03_laid x0 x1 = some r) (nz : Nat) (wz : World) (S0 : Fz) (w0 : World) (Lr : List Ent) (Ax1 : Option Addr) (nx1 : Nat) (cx1 : Nat) (p0 : Hp nz wz S0 w0 (Lr)) (fx1 : Rd (kSl (kInt .u8)) S0 w0 Ax1 cx1 x1) (lx1 : x1.length = nx1) :
    Calls Try.prog 34 #[.int .i64 x0, .slice Ax1 nx1 cx1] w0 (Rets (Post.tidepolelaw03_laid nz wz S0 w0 Lr r)) := by
  subst lx1
  refine calls_of_goes (fn := Try.f34) (c := B34) (by kernel_rfl) (by kernel_rfl) 46 (by kernel_rfl) ?_
  refine Goes.jump 48 [(0, .int .i64 x0), (1, .slice Ax1 x1.length cx1)] (by kernel_rfl) (fun junk => ?_)
  delta M.tidepolelaw03_laid at h
  refine Goes.runs 9 [(4, .int .i64 0), (5, .slice none 0 0), (6, .slice none 0 0), (11, .int .i64 x0)] [.inRegion (opsOf (sub [1, 0] B34)) [1, 2], .code (sub [1, 1] B34)] (by kernel_rfl) ?_
  refine bind_some' h fun y1 e2 h => ?_
  refine Op_.call (.call { callee := .value (.func 27), args := #[(.tmp 11), (.const (.int .i64 1000000))], argTypes := #[3, 3] }) 12 3 27 #[.int .i64 x0, .int .i64 1000000] (Goes.cs (by kernel_rfl)) (by kernel_rfl) (W.tidepolebase_Among x0 1000000 y1 e2 nz wz S0 w0 (Lr)  p0 ) ?_
  rintro _ w2 ⟨S2, rfl, z2, p2⟩
  refine Goes.runs 4 [(0, .int .i64 y1)] [.inRegion (opsOf (sub [1, 1, 0] B34)) [0, 1], .code (sub [1, 1, 1] B34)] (by kernel_rfl) ?_
  have f4 : Els (kSl (kInt .u8)) S2 w2 ([] : List Value) ([] : List (List Int)) := by exact Els.nil
  refine Op_.made (.buildSlice 41 0 #[]) 13 41 (fun b => .slice (Gp (some b)) 0 0) 23 ([] : List Value) p2 (Goes.vs (by kernel_rfl)) (by kernel_rfl) ?_
  intro b3 w3 z3 p3
  have p3 : Hp nz wz S2 w3 (((some b3), .row 23 ([] : List Value) (0 * (kSl (kInt .u8)).size) 0) :: Lr) := p3
  refine Goes.runs 9 [(7, .slice (Gp (some b3)) 0 0), (8, .int .i64 0)] [.code (sub [1, 1, 1, 0, 1, 0, 0] B34), .inLoop (sub [1, 1, 1, 0, 1, 0, 0] B34), .inBlock 0, .code (sub [1, 1, 1, 1] B34)] (by kernel_rfl) ?_
  exact Goes.jump 48 [(0, .int .i64 y1), (1, .slice Ax1 x1.length cx1), (7, .slice (Gp (some b3)) 0 0), (8, .int .i64 0)] (by kernel_rfl) (W.tidepolelaw03_laid_l0 nz wz S0 w0 Lr _ _ h _ _ (((Ext.refl S0 w0).trans z2).trans z3) Ax1 x1.length cx1 (some b3) 0 0 ([] : List Value) p3 (fx1.ext (z2.trans z3)) rfl (f4.ext z3) rfl)

/-! tidepole/tidepoleref03.First -/
def Post.tidepoleref03_First (nz : Nat) (wz : World) (S0 : Fz) (w0 : World) (Lr : List Ent) (r : Int × (List Int) × Int × Int) (v : Value) (w' : World) : Prop :=
  ∃ (S' : Fz) (Gq_1 : Option Nat) (nq_1 : Nat) (cq_1 : Nat) (csq_1 : List Value), v = .tuple #[.int .i64 r.1, .slice (Gp Gq_1) nq_1 cq_1, .int .i64 r.2.2.1, .int .i64 r.2.2.2] ∧ Ext S0 w0 S' w' ∧ Hp nz wz S' w' ((Gq_1, .row 5 csq_1 (cq_1 * (kInt .u8).size) 0) :: Lr) ∧ Els (kInt .u8) S' w' csq_1 r.2.1 ∧ r.2.1.length = nq_1

def L.tidepoleref03_First_l1 (nz : Nat) (wz : World) (S0 : Fz) (w0 : World) (Lr : List Ent) : (List Int) × Int × Int × (List Int) × Int → (Int × (List Int) × Int × Int) → Prop := fun ⟨x0, x6, x7, x8, x9⟩ r => ∀ S1 w1, Ext S0 w0 S1 w1 → ∀ (Ax0 : Option Addr) (nx0 : Nat) (cx0 : Nat) (Gx8 : Option Nat) (nx8 : Nat) (cx8 : Nat) (csx8 : List Value) (_ : Hp nz wz S1 w1 ((Gx8, .row 5 csx8 (cx8 * (kInt .u8).size) 0) :: Lr)) (_ : Rd (kInt .u8) S1 w1 Ax0 cx0 x0) (_ : x0.length = nx0) (_ : Els (kInt .u8) S1 w1 csx8 x8) (_ : x8.length = nx8) (junk : Nat → Value),
  Goes Try.prog (base 35) [.code (sub [1, 1, 1, 1, 1, 1, 0, 1, 0, 0] B35), .inLoop (sub [1, 1, 1, 1, 1, 1, 0, 1, 0, 0] B35), .inBlock 0, .code (sub [1, 1, 1, 1, 1, 1, 1] B35)] ⟨lfr 87 [(0, .slice Ax0 nx0 cx0), (6, .int .i64 x6), (7, .int .i64 x7), (8, .slice (Gp Gx8) nx8 cx8), (9, .int .i64 x9)] junk, []⟩ w1 (Done Try.prog 35 (Rets (Post.tidepoleref03_First nz wz S0 w0 Lr r)))

theorem W.tidepoleref03_First_l1 (nz : Nat) (wz : World) (S0 : Fz) (w0 : World) (Lr : List Ent) : ∀ a r, M.tidepoleref03_First_l1 a = some r → (L.tidepoleref03_First_l1 nz wz S0 w0 Lr) a r := by
  refine M.tidepoleref03_First_l1.partial_correctness (motive := (L.tidepoleref03_First_l1 nz wz S0 w0 Lr)) ?_
  intro rec_tidepoleref03_First_l1 ih_tidepoleref03_First_l1 ⟨x0, x6, x7, x8, x9⟩ r h S1 w1 hx Ax0 nx0 cx0 Gx8 nx8 cx8 csx8 p1 fx0 lx0 fx8 lx8 junk
  dsimp only at h
  subst lx0
  subst lx8
  refine Goes.runs 6 [(63, .int .i64 x9), (64, .bool (decide (x9 < 256)))] [.code (sub [1, 1, 1, 1, 1, 1, 0, 1, 0, 0, 0, 1] B35), .code (sub [1, 1, 1, 1, 1, 1, 0, 1, 0, 0, 1] B35), .inLoop (sub [1, 1, 1, 1, 1, 1, 0, 1, 0, 0] B35), .inBlock 0, .code (sub [1, 1, 1, 1, 1, 1, 1] B35)] (by kernel_rfl) ?_
  refine ite_some h (fun h47 h => ?_) (fun h47 h => ?_)
  · rw [decide_eq_true h47]
    refine Goes.runs 5 [] [.code (sub [1, 1, 1, 1, 1, 1, 0, 1, 0, 0, 1, 0, 0, 0] B35), .code (sub [1, 1, 1, 1, 1, 1, 0, 1, 0, 0, 1, 0, 0, 1] B35), .inBlock 1, .code (sub [1, 1, 1, 1, 1, 1, 0, 1, 0, 0, 1, 1] B35), .inLoop (sub [1, 1, 1, 1, 1, 1, 0, 1, 0, 0] B35), .inBlock 0, .code (sub [1, 1, 1, 1, 1, 1, 1] B35)] (by kernel_rfl) ?_
    have z6 : Ext S1 w1 S1 (w1).drew := Ext.draw
    have p6 := p1.draw
    refine Goes.drawn (s := []) (F := Fc S1 (w1).drew []) 11 9 (by kernel_rfl) (by kernel_rfl) (by kernel_rfl) (by kernel_rfl) ?_
    generalize (w1).drew = w6 at z6 p6 ⊢
    refine AnyG.pure (i := 0) (.move (.tmp 0)) 67 23 (.slice Ax0 x0.length cx0) (by kernel_rfl) (by kernel_rfl) (by kernel_rfl) (Fc.here trivial) ?_
    refine AnyG.pure (i := 1) (.move (.tmp 9)) 68 3 (.int .i64 x9) (by kernel_rfl) (by kernel_rfl) (by kernel_rfl) (Fc.here trivial) ?_
    refine guard_some' h fun g48 h => ?_
    refine guard_some' h fun g49 h => ?_
    refine AnyG.ixR_n (i := 2) 23 (.tmp 67) (.tmp 68) 69 0 5 .i64 x9 (gi x0 x9) rfl rfl (fx0.ext z6) (by kernel_rfl) (by kernel_rfl) (Fc.here trivial) (by kernel_rfl) (by kernel_rfl) (by kernel_rfl) (by kernel_rfl) g48 g49 ?_
    intro a50 _ f51 q52
    obtain rfl := q52
    refine AnyG.ld1 (i := 3) 5 (.tmp 69) 70 5 a50 (.int .u8 (gi x0 x9)) (by kernel_rfl) (by kernel_rfl) (Fc.here trivial) (by kernel_rfl) (by kernel_rfl) (fun _ h => f51.fc h 0 _ rfl) ?_
    refine AnyG.pure (i := 4) (.move (.tmp 8)) 71 23 (.slice (Gp Gx8) x8.length cx8) (by kernel_rfl) (by kernel_rfl) (by kernel_rfl) (Fc.here trivial) ?_
    refine AnyG.pure (i := 5) (.move (.tmp 9)) 72 3 (.int .i64 x9) (by kernel_rfl) (by kernel_rfl) (by kernel_rfl) (Fc.here trivial) ?_
    refine guard_some' h fun g53 h => ?_
    refine Op_.ixO_n 23 (.tmp 71) (.tmp 72) 73 0 5 .i64 x9 0 x8.length cx8 (gi x8 x9) rfl rfl p6 rfl (fx8.ext z6) (AnyG.vs (i := 6) (by kernel_rfl) (by kernel_rfl)) (by kernel_rfl) (by kernel_rfl) (by kernel_rfl) (by kernel_rfl) (by decide) g48 g53 ?_
    rintro b54 _ rfl q56 f55
    obtain rfl := q56
    refine AnyG.next (Ext.refl _ _) trivial ?_
    refine Op_.ld1 5 (.tmp 73) 74 5 ⟨b54, (x9 : Int).toNat * (kInt .u8).size, none⟩ (.int .u8 (gi x8 x9)) (AnyG.vs (i := 7) (by kernel_rfl) (by kernel_rfl)) (by kernel_rfl) (by kernel_rfl) (f55 0 _ rfl) ?_
    refine AnyG.next (Ext.refl _ _) trivial ?_
    refine AnyG.pure (i := 8) (.binOp .neq 5 (.tmp 70) (.tmp 74) 5) 75 4 (.bool (!(decide (gi x0 x9 = gi x8 x9)))) (by kernel_rfl) (by kernel_rfl) (by kernel_rfl) (Fc.here trivial) ?_
    refine AnyG.done (by kernel_rfl) ?_ _
    refine ite_some h (fun h58 h => ?_) (fun h58 h => ?_)
    · rw [decide_eq_true h58]
      refine Goes.runs 9 [(65, .int .i64 x9), (66, .int .i64 (wr .i64 (x9 + 1))), (9, .int .i64 (wr .i64 (x9 + 1)))] [.code (sub [1, 1, 1, 1, 1, 1, 0, 1, 0, 0] B35), .inLoop (sub [1, 1, 1, 1, 1, 1, 0, 1, 0, 0] B35), .inBlock 0, .code (sub [1, 1, 1, 1, 1, 1, 1] B35)] (by kernel_rfl) ?_
      exact Goes.jump 87 [(0, .slice Ax0 x0.length cx0), (6, .int .i64 x6), (7, .int .i64 x7), (8, .slice (Gp (some b54)) x8.length cx8), (9, .int .i64 (wr .i64 (x9 + 1)))] (by kernel_rfl) (ih_tidepoleref03_First_l1 _ _ h _ _ (hx.trans z6) Ax0 x0.length cx0 (some b54) x8.length cx8 csx8 p6 (fx0.ext z6) rfl (fx8.ext z6) rfl)
    · rw [decide_eq_false h58]
      refine Goes.runs 8 [(2, .int .i64 0), (3, .slice none 0 0), (4, .int .i64 0), (5, .int .i64 30)] [.code (sub [1, 1, 1, 1, 1, 1, 0, 1, 0, 0, 1, 0, 0, 1, 0, 1] B35), .inBlock 1, .code (sub [1, 1, 1, 1, 1, 1, 0, 1, 0, 0, 1, 1] B35), .inLoop (sub [1, 1, 1, 1, 1, 1, 0, 1, 0, 0] B35), .inBlock 0, .code (sub [1, 1, 1, 1, 1, 1, 1] B35)] (by kernel_rfl) ?_
      have p6 : Hp nz wz S1 w6 ((none, .row 5 [] (0 * (kInt .u8).size) 0) :: ((some b54), .row 5 csx8 (cx8 * (kInt .u8).size) 0) :: Lr) := p6.nilRow' 5
      obtain rfl := Option.some.inj h
      have p6 := (p6.front 1 _ rfl).drop
      exact Goes.ret (fn := Try.f35) (by kernel_rfl) (v := .tuple #[.int .i64 0, .slice (Gp none) 0 0, .int .i64 0, .int .i64 30]) (by kernel_rfl) ⟨S1, none, 0, 0, [], rfl, (hx.trans z6), p6, (Els.nil (K := (kInt .u8))), rfl⟩
  · rw [decide_eq_false h47]
    refine Goes.runs 3 [] [.code (sub [1, 1, 1, 1, 1, 1, 1, 0] B35), .code (sub [1, 1, 1, 1, 1, 1, 1, 1] B35)] (by kernel_rfl) ?_
    have z7 : Ext S1 w1 S1 (w1).drew := Ext.draw
    have p7 := p1.draw
    refine Goes.drawn (s := []) (F := Fc S1 (w1).drew []) 13 15 (by kernel_rfl) (by kernel_rfl) (by kernel_rfl) (by kernel_rfl) ?_
    generalize (w1).drew = w7 at z7 p7 ⊢
    refine AnyG.pure (i := 0) (.move (.tmp 6)) 76 3 (.int .i64 x6) (by kernel_rfl) (by kernel_rfl) (by kernel_rfl) (Fc.here trivial) ?_
    refine AnyG.pure (i := 2) (.move (.tmp 0)) 78 23 (.slice Ax0 x0.length cx0) (by kernel_rfl) (by kernel_rfl) (by kernel_rfl) (Fc.here trivial) ?_
    refine AnyG.pure (i := 3) (.move (.tmp 7)) 79 3 (.int .i64 x7) (by kernel_rfl) (by kernel_rfl) (by kernel_rfl) (Fc.here trivial) ?_
    refine AnyG.pure (i := 4) (.binOp .add 3 (.const (.int .i64 7)) (.tmp 79) 3) 80 3 (.int .i64 (wr .i64 (7 + x7))) (by kernel_rfl) (by kernel_rfl) (by kernel_rfl) (Fc.here trivial) ?_
    refine guard_some' h fun g60 h => ?_
    refine guard_some' h fun g61 h => ?_
    refine AnyG.slR_n (i := 5) 23 (.tmp 78) (some (.const (.int .i64 7))) (some (.tmp 80)) 81 23 5 7 (wr .i64 (7 + x7)) (sl x0 7 (wr .i64 (7 + x7))) rfl rfl (fx0.ext z7) (by kernel_rfl) (by kernel_rfl) (Fc.here trivial) (by kernel_rfl) (by kernel_rfl) (by kernel_rfl) (Bnd.at_ .i64 (by kernel_rfl)) (Bnd.at_ .i64 (by kernel_rfl)) (by decide : (0 : Int) ≤ 7) g60 g61 ?_
    intro A62 c63 f64
    refine AnyG.pure (i := 7) (.move (.tmp 0)) 83 23 (.slice Ax0 x0.length cx0) (by kernel_rfl) (by kernel_rfl) (by kernel_rfl) (Fc.here trivial) ?_
    refine guard_some' h fun g65 h => ?_
    refine AnyG.ixR_n (i := 8) 23 (.tmp 83) (.const (.int .i64 6)) 84 0 5 .i64 6 (gi x0 6) rfl rfl (fx0.ext z7) (by kernel_rfl) (by kernel_rfl) (Fc.here trivial) (by kernel_rfl) (by kernel_rfl) (by kernel_rfl) (by kernel_rfl) (by decide : (0 : Int) ≤ 6) g65 ?_
    intro a66 _ f67 q68
    obtain rfl := q68
    refine AnyG.ld1 (i := 9) 5 (.tmp 84) 85 5 a66 (.int .u8 (gi x0 6)) (by kernel_rfl) (by kernel_rfl) (Fc.here trivial) (by kernel_rfl) (by kernel_rfl) (fun _ h => f67.fc h 0 _ rfl) ?_
    refine AnyG.pure (i := 10) (.convert 5 3 (.tmp 85)) 86 3 (.int .i64 (wr .i64 (gi x0 6))) (by kernel_rfl) (by kernel_rfl) (by kernel_rfl) (Fc.here trivial) ?_
    have f70 : Els (kInt .u8) S1 w7 ([] : List Value) ([] : List Int) := by exact Els.nil
    refine Op_.made (.buildSlice 23 0 #[]) 77 23 (fun b => .slice (Gp (some b)) 0 0) 5 ([] : List Value) p7 (AnyG.vs (i := 1) (by kernel_rfl) (by kernel_rfl)) (by kernel_rfl) ?_
    intro b69 w8 z8 p8
    have p8 : Hp nz wz S1 w8 (((some b69), .row 5 ([] : List Value) (0 * (kInt .u8).size) 0) :: (Gx8, .row 5 csx8 (cx8 * (kInt .u8).size) 0) :: Lr) := p8
    refine AnyG.next z8 trivial ?_
    obtain ⟨ns72, f73, f74⟩ := src_rd (f64.ext z8)
    refine guard_some' h fun g75 h => ?_
    refine Op_.ap_n (K := (kInt .u8)) 23 (.tmp 77) (.tmp 81) 82 23 5 0 (.int .u8 0) 1 0 0 ((sl x0 7 (wr .i64 (7 + x7))).length) ([] : List Int) (sl x0 7 (wr .i64 (7 + x7))) (sl x0 7 (wr .i64 (7 + x7))) A62 c63 rfl rfl (List.nil_append _) p8 rfl (f70.ext z8) (AnyG.vs (i := 6) (by kernel_rfl) (by kernel_rfl)) (by kernel_rfl) (by kernel_rfl) (by kernel_rfl) (by kernel_rfl) rfl (by decide) f73 f74 (by have := g75; omega) (by have := g75; omega) ?_
    intro w9 G76 c77 cs78 z9 p9 f79
    refine AnyG.next z9 trivial ?_
    refine AnyG.pure (i := 11) (.assign (.tmp 76)) 2 3 (.int .i64 x6) (by kernel_rfl) (by kernel_rfl) (by kernel_rfl) (Fc.here trivial) ?_
    refine AnyG.pure (i := 12) (.assign (.tmp 82)) 3 23 (.slice (Gp G76) ((sl x0 7 (wr .i64 (7 + x7))).length) c77) (by kernel_rfl) (by kernel_rfl) (by kernel_rfl) (Fc.here trivial) ?_
    refine AnyG.pure (i := 13) (.assign (.tmp 86)) 4 3 (.int .i64 (wr .i64 (gi x0 6))) (by kernel_rfl) (by kernel_rfl) (by kernel_rfl) (Fc.here trivial) ?_
    refine AnyG.pure (i := 14) (.assign (.const (.int .i64 0))) 5 30 (.int .i64 0) (by kernel_rfl) (by kernel_rfl) (by kernel_rfl) (Fc.here trivial) ?_
    refine AnyG.done (by kernel_rfl) ?_ _
    have p9 := (p9.front 1 _ rfl).drop
    obtain rfl := Option.some.inj h
    exact Goes.ret (fn := Try.f35) (by kernel_rfl) (v := .tuple #[.int .i64 x6, .slice (Gp G76) ((sl x0 7 (wr .i64 (7 + x7))).length) c77, .int .i64 (wr .i64 (gi x0 6)), .int .i64 0]) (by kernel_rfl) ⟨S1, G76, (sl x0 7 (wr .i64 (7 + x7))).length, c77, cs78, rfl, (((hx.trans z7).trans z8).trans z9), p9, f79, rfl⟩

/-! tidepole/tidepoleref03.First -/
def L.tidepoleref03_First_l0 (nz : Nat) (wz : World) (S0 : Fz) (w0 : World) (Lr : List Ent) : (List Int) × Int × Int × Bool → (Int × (List Int) × Int × Int) → Prop := fun ⟨x0, x6, x7, x52⟩ r => ∀ S1 w1, Ext S0 w0 S1 w1 → ∀ (Ax0 : Option Addr) (nx0 : Nat) (cx0 : Nat) (_ : Hp nz wz S1 w1 (Lr)) (_ : Rd (kInt .u8) S1 w1 Ax0 cx0 x0) (_ : x0.length = nx0) (junk : Nat → Value),
  Goes Try.prog (base 35) [.code (sub [1, 1, 1, 1, 0, 1] B35), .code (sub [1, 1, 1, 1, 1] B35)] ⟨lfr 87 [(0, .slice Ax0 nx0 cx0), (6, .int .i64 x6), (7, .int .i64 x7), (52, .bool x52)] junk, []⟩ w1 (Done Try.prog 35 (Rets (Post.tidepoleref03_First nz wz S0 w0 Lr r)))

theorem W.tidepoleref03_First_l0 (nz : Nat) (wz : World) (S0 : Fz) (w0 : World) (Lr : List Ent) : ∀ a r, M.tidepoleref03_First_l0 a = some r → L.tidepoleref03_First_l0 nz wz S0 w0 Lr a r := by
  intro ⟨x0, x6, x7, x52⟩ r h S1 w1 hx Ax0 nx0 cx0 p1 fx0 lx0 junk
  rw [M.tidepoleref03_First_l0] at h
  try dsimp only at h
  subst lx0
  refine ite_some h (fun h32 h => ?_) (fun h32 h => ?_)
  · rw [h32]
    refine Goes.runs 8 [(2, .int .i64 0), (3, .slice none 0 0), (4, .int .i64 0), (5, .int .i64 30)] [.code (sub [1, 1, 1, 1, 0, 1, 0, 1] B35), .code (sub [1, 1, 1, 1, 1] B35)] (by kernel_rfl) ?_
    have p1 : Hp nz wz S1 w1 ((none, .row 5 [] (0 * (kInt .u8).size) 0) :: Lr) := p1.nilRow' 5
    obtain rfl := Option.some.inj h
    exact Goes.ret (fn := Try.f35) (by kernel_rfl) (v := .tuple #[.int .i64 0, .slice (Gp none) 0 0, .int .i64 0, .int .i64 30]) (by kernel_rfl) ⟨S1, none, 0, 0, [], rfl, hx, p1, (Els.nil (K := (kInt .u8))), rfl⟩
  · have h32' : x52 = false := by simpa using h32
    rw [h32']
    refine Goes.runs 3 [] [.code (sub [1, 1, 1, 1, 1, 0] B35), .code (sub [1, 1, 1, 1, 1, 1] B35)] (by kernel_rfl) ?_
    have z4 : Ext S1 w1 S1 (w1).drew := Ext.draw
    have p4 := p1.draw
    refine Goes.drawn (s := []) (F := Fc S1 (w1).drew []) 7 11 (by kernel_rfl) (by kernel_rfl) (by kernel_rfl) (by kernel_rfl) ?_
    generalize (w1).drew = w4 at z4 p4 ⊢
    refine AnyG.pure (i := 0) (.move (.tmp 6)) 53 3 (.int .i64 x6) (by kernel_rfl) (by kernel_rfl) (by kernel_rfl) (Fc.here trivial) ?_
    refine AnyG.pure (i := 1) (.move (.tmp 0)) 54 23 (.slice Ax0 x0.length cx0) (by kernel_rfl) (by kernel_rfl) (by kernel_rfl) (Fc.here trivial) ?_
    refine AnyG.pure (i := 2) (.move (.tmp 7)) 55 3 (.int .i64 x7) (by kernel_rfl) (by kernel_rfl) (by kernel_rfl) (Fc.here trivial) ?_
    refine AnyG.pure (i := 3) (.binOp .add 3 (.const (.int .i64 7)) (.tmp 55) 3) 56 3 (.int .i64 (wr .i64 (7 + x7))) (by kernel_rfl) (by kernel_rfl) (by kernel_rfl) (Fc.here trivial) ?_
    refine guard_some' h fun g34 h => ?_
    refine guard_some' h fun g35 h => ?_
    refine AnyG.slR_n (i := 4) 23 (.tmp 54) (some (.const (.int .i64 7))) (some (.tmp 56)) 57 23 5 7 (wr .i64 (7 + x7)) (sl x0 7 (wr .i64 (7 + x7))) rfl rfl (fx0.ext z4) (by kernel_rfl) (by kernel_rfl) (Fc.here trivial) (by kernel_rfl) (by kernel_rfl) (by kernel_rfl) (Bnd.at_ .i64 (by kernel_rfl)) (Bnd.at_ .i64 (by kernel_rfl)) (by decide : (0 : Int) ≤ 7) g34 g35 ?_
    intro A36 c37 f38
    refine AnyG.pure (i := 5) (.move (.tmp 0)) 58 23 (.slice Ax0 x0.length cx0) (by kernel_rfl) (by kernel_rfl) (by kernel_rfl) (Fc.here trivial) ?_
    refine guard_some' h fun g39 h => ?_
    refine AnyG.ixR_n (i := 6) 23 (.tmp 58) (.const (.int .i64 6)) 59 0 5 .i64 6 (gi x0 6) rfl rfl (fx0.ext z4) (by kernel_rfl) (by kernel_rfl) (Fc.here trivial) (by kernel_rfl) (by kernel_rfl) (by kernel_rfl) (by kernel_rfl) (by decide : (0 : Int) ≤ 6) g39 ?_
    intro a40 _ f41 q42
    obtain rfl := q42
    refine AnyG.ld1 (i := 7) 5 (.tmp 59) 60 5 a40 (.int .u8 (gi x0 6)) (by kernel_rfl) (by kernel_rfl) (Fc.here trivial) (by kernel_rfl) (by kernel_rfl) (fun _ h => f41.fc h 0 _ rfl) ?_
    refine AnyG.pure (i := 8) (.convert 5 3 (.tmp 60)) 61 3 (.int .i64 (wr .i64 (gi x0 6))) (by kernel_rfl) (by kernel_rfl) (by kernel_rfl) (Fc.here trivial) ?_
    refine bind_some' h fun y43 e44 h => ?_
    refine Op_.call (.call { callee := .value (.func 42), args := #[(.tmp 53), (.tmp 57), (.tmp 61)], argTypes := #[3, 23, 3] }) 62 23 42 #[.int .i64 x6, .slice A36 ((sl x0 7 (wr .i64 (7 + x7))).length) c37, .int .i64 (wr .i64 (gi x0 6))] (AnyG.cs (i := 9) (by kernel_rfl) (by kernel_rfl)) (by kernel_rfl) (W.tidepoleref03_Sector x6 (sl x0 7 (wr .i64 (7 + x7))) (wr .i64 (gi x0 6)) y43 e44 nz wz S1 w4 (Lr) A36 ((sl x0 7 (wr .i64 (7 + x7))).length) c37 p4 f38 rfl) ?_
    rintro _ w5 ⟨S5, Gr_5, nr_5, cr_5, csr_5, rfl, z5, p5, fr_5, rfl⟩
    refine AnyG.next z5 trivial ?_
    refine AnyG.pure (i := 10) (.assign (.tmp 62)) 8 23 (.slice (Gp Gr_5) y43.length cr_5) (by kernel_rfl) (by kernel_rfl) (by kernel_rfl) (Fc.here trivial) ?_
    refine AnyG.done (by kernel_rfl) ?_ _
    refine Goes.runs 7 [(9, .int .i64 0)] [.code (sub [1, 1, 1, 1, 1, 1, 0, 1, 0, 0] B35), .inLoop (sub [1, 1, 1, 1, 1, 1, 0, 1, 0, 0] B35), .inBlock 0, .code (sub [1, 1, 1, 1, 1, 1, 1] B35)] (by kernel_rfl) ?_
    exact Goes.jump 87 [(0, .slice Ax0 x0.length cx0), (6, .int .i64 x6), (7, .int .i64 x7), (8, .slice (Gp Gr_5) y43.length cr_5), (9, .int .i64 0)] (by kernel_rfl) (W.tidepoleref03_First_l1 nz wz S0 w0 Lr _ _ h _ _ ((hx.trans z4).trans z5) Ax0 x0.length cx0 Gr_5 y43.length cr_5 csr_5 p5 (fx0.ext (z4.trans z5)) rfl fr_5 rfl)

/-! tidepole/tidepoleref03.First -/
theorem W.tidepoleref03_First (x0 : List Int) (r : Int × (List Int) × Int × Int) (h : M.tidepoleref03_First x0 = some r) (nz : Nat) (wz : World) (S0 : Fz) (w0 : World) (Lr : List Ent) (Ax0 : Option Addr) (nx0 : Nat) (cx0 : Nat) (p0 : Hp nz wz S0 w0 (Lr)) (fx0 : Rd (kInt .u8) S0 w0 Ax0 cx0 x0) (lx0 : x0.length = nx0) :
    Calls Try.prog 35 #[.slice Ax0 nx0 cx0] w0 (Rets (Post.tidepoleref03_First nz wz S0 w0 Lr r)) := by
  subst lx0
  refine calls_of_goes (fn := Try.f35) (c := B35) (by kernel_rfl) (by kernel_rfl) 86 (by kernel_rfl) ?_
  refine Goes.jump 87 [(0, .slice Ax0 x0.length cx0)] (by kernel_rfl) (fun junk => ?_)
  delta M.tidepoleref03_First at h
  refine Goes.runs 14 [(2, .int .i64 0), (3, .slice none 0 0), (4, .int .i64 0), (5, .int .i64 0), (10, .slice Ax0 x0.length cx0), (11, .int .i64 (x0.length : Int)), (12, .bool (decide ((x0.length : Int) < 256)))] [.code (sub [1, 0, 1] B35), .code (sub [1, 1] B35)] (by kernel_rfl) ?_
  refine ite_some h (fun h1 h => ?_) (fun h1 h => ?_)
  · rw [decide_eq_true h1]
    refine Goes.runs 8 [(2, .int .i64 0), (3, .slice none 0 0), (4, .int .i64 0), (5, .int .i64 30)] [.code (sub [1, 0, 1, 0, 1] B35), .code (sub [1, 1] B35)] (by kernel_rfl) ?_
    have p0 : Hp nz wz S0 w0 ((none, .row 5 [] (0 * (kInt .u8).size) 0) :: Lr) := p0.nilRow' 5
    obtain rfl := Option.some.inj h
    exact Goes.ret (fn := Try.f35) (by kernel_rfl) (v := .tuple #[.int .i64 0, .slice (Gp none) 0 0, .int .i64 0, .int .i64 30]) (by kernel_rfl) ⟨S0, none, 0, 0, [], rfl, (Ext.refl S0 w0), p0, (Els.nil (K := (kInt .u8))), rfl⟩
  · rw [decide_eq_false h1]
    refine Goes.runs 3 [] [.code (sub [1, 1, 0] B35), .code (sub [1, 1, 1] B35)] (by kernel_rfl) ?_
    have z2 : Ext S0 w0 S0 (w0).drew := Ext.draw
    have p2 := p0.draw
    refine Goes.drawn (s := []) (F := Fc S0 (w0).drew []) 3 23 (by kernel_rfl) (by kernel_rfl) (by kernel_rfl) (by kernel_rfl) ?_
    generalize (w0).drew = w2 at z2 p2 ⊢
    refine AnyG.pure (i := 0) (.move (.tmp 0)) 13 23 (.slice Ax0 x0.length cx0) (by kernel_rfl) (by kernel_rfl) (by kernel_rfl) (Fc.here trivial) ?_
    refine guard_some' h fun g3 h => ?_
    refine AnyG.ixR_n (i := 1) 23 (.tmp 13) (.const (.int .i64 0)) 14 0 5 .i64 0 (gi x0 0) rfl rfl (fx0.ext z2) (by kernel_rfl) (by kernel_rfl) (Fc.here trivial) (by kernel_rfl) (by kernel_rfl) (by kernel_rfl) (by kernel_rfl) (by decide : (0 : Int) ≤ 0) g3 ?_
    intro a4 _ f5 q6
    obtain rfl := q6
    refine AnyG.ld1 (i := 2) 5 (.tmp 14) 15 5 a4 (.int .u8 (gi x0 0)) (by kernel_rfl) (by kernel_rfl) (Fc.here trivial) (by kernel_rfl) (by kernel_rfl) (fun _ h => f5.fc h 0 _ rfl) ?_
    refine AnyG.pure (i := 3) (.convert 5 3 (.tmp 15)) 16 3 (.int .i64 (wr .i64 (gi x0 0))) (by kernel_rfl) (by kernel_rfl) (by kernel_rfl) (Fc.here trivial) ?_
    refine AnyG.pure (i := 4) (.move (.tmp 0)) 17 23 (.slice Ax0 x0.length cx0) (by kernel_rfl) (by kernel_rfl) (by kernel_rfl) (Fc.here trivial) ?_
    refine guard_some' h fun g7 h => ?_
    refine AnyG.ixR_n (i := 5) 23 (.tmp 17) (.const (.int .i64 1)) 18 0 5 .i64 1 (gi x0 1) rfl rfl (fx0.ext z2) (by kernel_rfl) (by kernel_rfl) (Fc.here trivial) (by kernel_rfl) (by kernel_rfl) (by kernel_rfl) (by kernel_rfl) (by decide : (0 : Int) ≤ 1) g7 ?_
    intro a8 _ f9 q10
    obtain rfl := q10
    refine AnyG.ld1 (i := 6) 5 (.tmp 18) 19 5 a8 (.int .u8 (gi x0 1)) (by kernel_rfl) (by kernel_rfl) (Fc.here trivial) (by kernel_rfl) (by kernel_rfl) (fun _ h => f9.fc h 0 _ rfl) ?_
    refine AnyG.pure (i := 7) (.convert 5 3 (.tmp 19)) 20 3 (.int .i64 (wr .i64 (gi x0 1))) (by kernel_rfl) (by kernel_rfl) (by kernel_rfl) (Fc.here trivial) ?_
    refine AnyG.pure (i := 8) (.binOp .mul 3 (.const (.int .i64 256)) (.tmp 20) 3) 21 3 (.int .i64 (wr .i64 (256 * (wr .i64 (gi x0 1))))) (by kernel_rfl) (by kernel_rfl) (by kernel_rfl) (Fc.here trivial) ?_
    refine AnyG.pure (i := 9) (.binOp .add 3 (.tmp 16) (.tmp 21) 3) 22 3 (.int .i64 (wr .i64 ((wr .i64 (gi x0 0)) + (wr .i64 (256 * (wr .i64 (gi x0 1))))))) (by kernel_rfl) (by kernel_rfl) (by kernel_rfl) (Fc.here trivial) ?_
    refine AnyG.pure (i := 10) (.move (.tmp 0)) 23 23 (.slice Ax0 x0.length cx0) (by kernel_rfl) (by kernel_rfl) (by kernel_rfl) (Fc.here trivial) ?_
    refine guard_some' h fun g11 h => ?_
    refine AnyG.ixR_n (i := 11) 23 (.tmp 23) (.const (.int .i64 2)) 24 0 5 .i64 2 (gi x0 2) rfl rfl (fx0.ext z2) (by kernel_rfl) (by kernel_rfl) (Fc.here trivial) (by kernel_rfl) (by kernel_rfl) (by kernel_rfl) (by kernel_rfl) (by decide : (0 : Int) ≤ 2) g11 ?_
    intro a12 _ f13 q14
    obtain rfl := q14
    refine AnyG.ld1 (i := 12) 5 (.tmp 24) 25 5 a12 (.int .u8 (gi x0 2)) (by kernel_rfl) (by kernel_rfl) (Fc.here trivial) (by kernel_rfl) (by kernel_rfl) (fun _ h => f13.fc h 0 _ rfl) ?_
    refine AnyG.pure (i := 13) (.convert 5 3 (.tmp 25)) 26 3 (.int .i64 (wr .i64 (gi x0 2))) (by kernel_rfl) (by kernel_rfl) (by kernel_rfl) (Fc.here trivial) ?_
    refine AnyG.pure (i := 14) (.binOp .mul 3 (.const (.int .i64 65536)) (.tmp 26) 3) 27 3 (.int .i64 (wr .i64 (65536 * (wr .i64 (gi x0 2))))) (by kernel_rfl) (by kernel_rfl) (by kernel_rfl) (Fc.here trivial) ?_
    refine AnyG.pure (i := 15) (.binOp .add 3 (.tmp 22) (.tmp 27) 3) 28 3 (.int .i64 (wr .i64 ((wr .i64 ((wr .i64 (gi x0 0)) + (wr .i64 (256 * (wr .i64 (gi x0 1)))))) + (wr .i64 (65536 * (wr .i64 (gi x0 2))))))) (by kernel_rfl) (by kernel_rfl) (by kernel_rfl) (Fc.here trivial) ?_
    refine AnyG.pure (i := 16) (.move (.tmp 0)) 29 23 (.slice Ax0 x0.length cx0) (by kernel_rfl) (by kernel_rfl) (by kernel_rfl) (Fc.here trivial) ?_
    refine guard_some' h fun g15 h => ?_
    refine AnyG.ixR_n (i := 17) 23 (.tmp 29) (.const (.int .i64 3)) 30 0 5 .i64 3 (gi x0 3) rfl rfl (fx0.ext z2) (by kernel_rfl) (by kernel_rfl) (Fc.here trivial) (by kernel_rfl) (by kernel_rfl) (by kernel_rfl) (by kernel_rfl) (by decide : (0 : Int) ≤ 3) g15 ?_
    intro a16 _ f17 q18
    obtain rfl := q18
    refine AnyG.ld1 (i := 18) 5 (.tmp 30) 31 5 a16 (.int .u8 (gi x0 3)) (by kernel_rfl) (by kernel_rfl) (Fc.here trivial) (by kernel_rfl) (by kernel_rfl) (fun _ h => f17.fc h 0 _ rfl) ?_
    refine AnyG.pure (i := 19) (.convert 5 3 (.tmp 31)) 32 3 (.int .i64 (wr .i64 (gi x0 3))) (by kernel_rfl) (by kernel_rfl) (by kernel_rfl) (Fc.here trivial) ?_
    refine AnyG.pure (i := 20) (.binOp .mul 3 (.const (.int .i64 16777216)) (.tmp 32) 3) 33 3 (.int .i64 (wr .i64 (16777216 * (wr .i64 (gi x0 3))))) (by kernel_rfl) (by kernel_rfl) (by kernel_rfl) (Fc.here trivial) ?_
    refine AnyG.pure (i := 21) (.binOp .add 3 (.tmp 28) (.tmp 33) 3) 34 3 (.int .i64 (wr .i64 ((wr .i64 ((wr .i64 ((wr .i64 (gi x0 0)) + (wr .i64 (256 * (wr .i64 (gi x0 1)))))) + (wr .i64 (65536 * (wr .i64 (gi x0 2)))))) + (wr .i64 (16777216 * (wr .i64 (gi x0 3))))))) (by kernel_rfl) (by kernel_rfl) (by kernel_rfl) (Fc.here trivial) ?_
    refine AnyG.pure (i := 22) (.assign (.tmp 34)) 6 3 (.int .i64 (wr .i64 ((wr .i64 ((wr .i64 ((wr .i64 (gi x0 0)) + (wr .i64 (256 * (wr .i64 (gi x0 1)))))) + (wr .i64 (65536 * (wr .i64 (gi x0 2)))))) + (wr .i64 (16777216 * (wr .i64 (gi x0 3))))))) (by kernel_rfl) (by kernel_rfl) (by kernel_rfl) (Fc.here trivial) ?_
    refine AnyG.done (by kernel_rfl) ?_ _
    refine Goes.runs 1 [] [.code (sub [1, 1, 1, 0] B35), .code (sub [1, 1, 1, 1] B35)] (by kernel_rfl) ?_
    have z3 : Ext S0 w2 S0 (w2).drew := Ext.draw
    have p3 := p2.draw
    refine Goes.drawn (s := []) (F := Fc S0 (w2).drew []) 4 11 (by kernel_rfl) (by kernel_rfl) (by kernel_rfl) (by kernel_rfl) ?_
    generalize (w2).drew = w3 at z3 p3 ⊢
    refine AnyG.pure (i := 0) (.move (.tmp 0)) 35 23 (.slice Ax0 x0.length cx0) (by kernel_rfl) (by kernel_rfl) (by kernel_rfl) (Fc.here trivial) ?_
    refine guard_some' h fun g19 h => ?_
    refine AnyG.ixR_n (i := 1) 23 (.tmp 35) (.const (.int .i64 4)) 36 0 5 .i64 4 (gi x0 4) rfl rfl (fx0.ext (z2.trans z3)) (by kernel_rfl) (by kernel_rfl) (Fc.here trivial) (by kernel_rfl) (by kernel_rfl) (by kernel_rfl) (by kernel_rfl) (by decide : (0 : Int) ≤ 4) g19 ?_
    intro a20 _ f21 q22
    obtain rfl := q22
    refine AnyG.ld1 (i := 2) 5 (.tmp 36) 37 5 a20 (.int .u8 (gi x0 4)) (by kernel_rfl) (by kernel_rfl) (Fc.here trivial) (by kernel_rfl) (by kernel_rfl) (fun _ h => f21.fc h 0 _ rfl) ?_
    refine AnyG.pure (i := 3) (.convert 5 3 (.tmp 37)) 38 3 (.int .i64 (wr .i64 (gi x0 4))) (by kernel_rfl) (by kernel_rfl) (by kernel_rfl) (Fc.here trivial) ?_
    refine AnyG.pure (i := 4) (.move (.tmp 0)) 39 23 (.slice Ax0 x0.length cx0) (by kernel_rfl) (by kernel_rfl) (by kernel_rfl) (Fc.here trivial) ?_
    refine guard_some' h fun g23 h => ?_
    refine AnyG.ixR_n (i := 5) 23 (.tmp 39) (.const (.int .i64 5)) 40 0 5 .i64 5 (gi x0 5) rfl rfl (fx0.ext (z2.trans z3)) (by kernel_rfl) (by kernel_rfl) (Fc.here trivial) (by kernel_rfl) (by kernel_rfl) (by kernel_rfl) (by kernel_rfl) (by decide : (0 : Int) ≤ 5) g23 ?_
    intro a24 _ f25 q26
    obtain rfl := q26
    refine AnyG.ld1 (i := 6) 5 (.tmp 40) 41 5 a24 (.int .u8 (gi x0 5)) (by kernel_rfl) (by kernel_rfl) (Fc.here trivial) (by kernel_rfl) (by kernel_rfl) (fun _ h => f25.fc h 0 _ rfl) ?_
    refine AnyG.pure (i := 7) (.convert 5 3 (.tmp 41)) 42 3 (.int .i64 (wr .i64 (gi x0 5))) (by kernel_rfl) (by kernel_rfl) (by kernel_rfl) (Fc.here trivial) ?_
    refine AnyG.pure (i := 8) (.binOp .mul 3 (.const (.int .i64 256)) (.tmp 42) 3) 43 3 (.int .i64 (wr .i64 (256 * (wr .i64 (gi x0 5))))) (by kernel_rfl) (by kernel_rfl) (by kernel_rfl) (Fc.here trivial) ?_
    refine AnyG.pure (i := 9) (.binOp .add 3 (.tmp 38) (.tmp 43) 3) 44 3 (.int .i64 (wr .i64 ((wr .i64 (gi x0 4)) + (wr .i64 (256 * (wr .i64 (gi x0 5))))))) (by kernel_rfl) (by kernel_rfl) (by kernel_rfl) (Fc.here trivial) ?_
    refine AnyG.pure (i := 10) (.assign (.tmp 44)) 7 3 (.int .i64 (wr .i64 ((wr .i64 (gi x0 4)) + (wr .i64 (256 * (wr .i64 (gi x0 5))))))) (by kernel_rfl) (by kernel_rfl) (by kernel_rfl) (Fc.here trivial) ?_
    refine AnyG.done (by kernel_rfl) ?_ _
    refine Goes.runs 6 [(45, .int .i64 (wr .i64 ((wr .i64 (gi x0 4)) + (wr .i64 (256 * (wr .i64 (gi x0 5))))))), (46, .bool (decide (wr .i64 ((wr .i64 (gi x0 4)) + (wr .i64 (256 * (wr .i64 (gi x0 5))))) > 244))), (47, .bool (decide (wr .i64 ((wr .i64 (gi x0 4)) + (wr .i64 (256 * (wr .i64 (gi x0 5))))) > 244)))] [.inRegion (opsOf (sub [1, 1, 1, 1, 0, 0] B35)) [3, 4, 5, 6, 7], .code (sub [1, 1, 1, 1, 0, 1] B35), .code (sub [1, 1, 1, 1, 1] B35)] (by kernel_rfl) ?_
    refine ite_some h (fun h27 h => ?_) (fun h27 h => ?_)
    · rw [decide_eq_true h27]
      refine Goes.runs 6 [(48, undef), (49, undef), (50, undef), (51, undef), (52, .bool true)] [.code (sub [1, 1, 1, 1, 0, 1] B35), .code (sub [1, 1, 1, 1, 1] B35)] (by kernel_rfl) ?_
      exact Goes.jump 87 [(0, .slice Ax0 x0.length cx0), (6, .int .i64 (wr .i64 ((wr .i64 ((wr .i64 ((wr .i64 (gi x0 0)) + (wr .i64 (256 * (wr .i64 (gi x0 1)))))) + (wr .i64 (65536 * (wr .i64 (gi x0 2)))))) + (wr .i64 (16777216 * (wr .i64 (gi x0 3))))))), (7, .int .i64 (wr .i64 ((wr .i64 (gi x0 4)) + (wr .i64 (256 * (wr .i64 (gi x0 5))))))), (52, .bool true)] (by kernel_rfl) (W.tidepoleref03_First_l0 nz wz S0 w0 Lr _ _ h _ _ (((Ext.refl S0 w0).trans z2).trans z3) Ax0 x0.length cx0 p3 (fx0.ext (z2.trans z3)) rfl)
    · rw [decide_eq_false h27]
      refine Goes.runs 1 [(48, .slice Ax0 x0.length cx0)] [.inRegion (opsOf (sub [1, 1, 1, 1, 0, 0] B35)) [4, 5, 6, 7], .code (sub [1, 1, 1, 1, 0, 1] B35), .code (sub [1, 1, 1, 1, 1] B35)] (by kernel_rfl) ?_
      refine guard_some' h fun g28 h => ?_
      refine Op_.ixR_n 23 (.tmp 48) (.const (.int .i64 6)) 49 0 5 .i64 6 (gi x0 6) rfl rfl (fx0.ext (z2.trans z3)) (Goes.vs (by kernel_rfl)) (by kernel_rfl) (by kernel_rfl) (by kernel_rfl) (by kernel_rfl) (by decide : (0 : Int) ≤ 6) g28 ?_
      intro a29 _ f30 q31
      obtain rfl := q31
      refine Op_.ld1 5 (.tmp 49) 50 5 a29 (.int .u8 (gi x0 6)) (Goes.vs (by kernel_rfl)) (by kernel_rfl) (by kernel_rfl) (f30.cell 0 _ rfl) ?_
      refine Goes.runs 3 [(51, .bool (decide (gi x0 6 > 3))), (52, .bool (decide (gi x0 6 > 3)))] [.code (sub [1, 1, 1, 1, 0, 1] B35), .code (sub [1, 1, 1, 1, 1] B35)] (by kernel_rfl) ?_
      exact Goes.jump 87 [(0, .slice Ax0 x0.length cx0), (6, .int .i64 (wr .i64 ((wr .i64 ((wr .i64 ((wr .i64 (gi x0 0)) + (wr .i64 (256 * (wr .i64 (gi x0 1)))))) + (wr .i64 (65536 * (wr .i64 (gi x0 2)))))) + (wr .i64 (16777216 * (wr .i64 (gi x0 3))))))), (7, .int .i64 (wr .i64 ((wr .i64 (gi x0 4)) + (wr .i64 (256 * (wr .i64 (gi x0 5))))))), (52, .bool (decide (gi x0 6 > 3)))] (by kernel_rfl) (W.tidepoleref03_First_l0 nz wz S0 w0 Lr _ _ h _ _ (((Ext.refl S0 w0).trans z2).trans z3) Ax0 x0.length cx0 p3 (fx0.ext (z2.trans z3)) rfl)

/-! tidepole/tidepolelaw03.same -/
def Post.tidepolelaw03_same (nz : Nat) (wz : World) (S0 : Fz) (w0 : World) (Lr : List Ent) (r : Bool) (v : Value) (w' : World) : Prop :=
  ∃ (S' : Fz), v = .bool r ∧ Ext S0 w0 S' w' ∧ Hp nz wz S' w' (Lr)

def L.tidepolelaw03_same_l0 (nz : Nat) (wz : World) (S0 : Fz) (w0 : World) (Lr : List Ent) : (List (List Int)) × (List (List Int)) × Int → Bool → Prop := fun ⟨x0, x1, x5⟩ r => ∀ S1 w1, Ext S0 w0 S1 w1 → ∀ (Ax0 : Option Addr) (nx0 : Nat) (cx0 : Nat) (Ax1 : Option Addr) (nx1 : Nat) (cx1 : Nat) (_ : Hp nz wz S1 w1 (Lr)) (_ : Rd (kSl (kInt .u8)) S1 w1 Ax0 cx0 x0) (_ : x0.length = nx0) (_ : Rd (kSl (kInt .u8)) S1 w1 Ax1 cx1 x1) (_ : x1.length = nx1) (junk : Nat → Value),
  Goes Try.prog (base 37) [.code (sub [1, 1, 0, 1, 0, 0] B37), .inLoop (sub [1, 1, 0, 1, 0, 0] B37), .inBlock 0, .code (sub [1, 1, 1] B37)] ⟨lfr 27 [(0, .slice Ax0 nx0 cx0), (1, .slice Ax1 nx1 cx1), (5, .int .i64 x5)] junk, []⟩ w1 (Done Try.prog 37 (Rets (Post.tidepolelaw03_same nz wz S0 w0 Lr r)))

theorem W.tidepolelaw03_same_l0 (nz : Nat) (wz : World) (S0 : Fz) (w0 : World) (Lr : List Ent) : ∀ a r, M.tidepolelaw03_same_l0 a = some r → (L.tidepolelaw03_same_l0 nz wz S0 w0 Lr) a r := by
  refine M.tidepolelaw03_same_l0.partial_correctness (motive := (L.tidepolelaw03_same_l0 nz wz S0 w0 Lr)) ?_
  intro rec_tidepolelaw03_same_l0 ih_tidepolelaw03_same_l0 ⟨x0, x1, x5⟩ r h S1 w1 hx Ax0 nx0 cx0 Ax1 nx1 cx1 p1 fx0 lx0 fx1 lx1 junk
  dsimp only at h
  subst lx0
  subst lx1
  refine Goes.runs 8 [(11, .int .i64 x5), (12, .slice Ax0 x0.length cx0), (13, .int .i64 (x0.length : Int)), (14, .bool (decide (x5 < (x0.length : Int))))] [.code (sub [1, 1, 0, 1, 0, 0, 0, 1] B37), .code (sub [1, 1, 0, 1, 0, 0, 1] B37), .inLoop (sub [1, 1, 0, 1, 0, 0] B37), .inBlock 0, .code (sub [1, 1, 1] B37)] (by kernel_rfl) ?_
  refine ite_some h (fun h2 h => ?_) (fun h2 h => ?_)
  · rw [decide_eq_true h2]
    refine Goes.runs 5 [] [.code (sub [1, 1, 0, 1, 0, 0, 1, 0, 0, 0] B37), .code (sub [1, 1, 0, 1, 0, 0, 1, 0, 0, 1] B37), .inBlock 1, .code (sub [1, 1, 0, 1, 0, 0, 1, 1] B37), .inLoop (sub [1, 1, 0, 1, 0, 0] B37), .inBlock 0, .code (sub [1, 1, 1] B37)] (by kernel_rfl) ?_
    have z2 : Ext S1 w1 S1 (w1).drew := Ext.draw
    have p2 := p1.draw
    refine Goes.drawn (s := []) (F := Fc S1 (w1).drew []) 6 10 (by kernel_rfl) (by kernel_rfl) (by kernel_rfl) (by kernel_rfl) ?_
    generalize (w1).drew = w2 at z2 p2 ⊢
    refine AnyG.pure (i := 0) (.move (.tmp 0)) 17 41 (.slice Ax0 x0.length cx0) (by kernel_rfl) (by kernel_rfl) (by kernel_rfl) (Fc.here trivial) ?_
    refine AnyG.pure (i := 1) (.move (.tmp 5)) 18 3 (.int .i64 x5) (by kernel_rfl) (by kernel_rfl) (by kernel_rfl) (Fc.here trivial) ?_
    refine guard_some' h fun g3 h => ?_
    refine AnyG.ixR_n (i := 2) 41 (.tmp 17) (.tmp 18) 19 0 23 .i64 x5 (gi x0 x5) rfl rfl (fx0.ext z2) (by kernel_rfl) (by kernel_rfl) (Fc.here trivial) (by kernel_rfl) (by kernel_rfl) (by kernel_rfl) (by kernel_rfl) g3 h2 ?_
    intro a4 _ f5 q6
    obtain ⟨A7, c8, rfl, f9⟩ := q6
    refine AnyG.ld1 (i := 3) 23 (.tmp 19) 20 23 a4 (.slice A7 ((gi x0 x5).length) c8) (by kernel_rfl) (by kernel_rfl) (Fc.here trivial) (by kernel_rfl) (by kernel_rfl) (fun _ h => f5.fc h 0 _ rfl) ?_
    refine AnyG.pure (i := 4) (.move (.tmp 1)) 21 41 (.slice Ax1 x1.length cx1) (by kernel_rfl) (by kernel_rfl) (by kernel_rfl) (Fc.here trivial) ?_
    refine AnyG.pure (i := 5) (.move (.tmp 5)) 22 3 (.int .i64 x5) (by kernel_rfl) (by kernel_rfl) (by kernel_rfl) (Fc.here trivial) ?_
    refine guard_some' h fun g10 h => ?_
    refine AnyG.ixR_n (i := 6) 41 (.tmp 21) (.tmp 22) 23 0 23 .i64 x5 (gi x1 x5) rfl rfl (fx1.ext z2) (by kernel_rfl) (by kernel_rfl) (Fc.here trivial) (by kernel_rfl) (by kernel_rfl) (by kernel_rfl) (by kernel_rfl) g3 g10 ?_
    intro a11 _ f12 q13
    obtain ⟨A14, c15, rfl, f16⟩ := q13
    refine AnyG.ld1 (i := 7) 23 (.tmp 23) 24 23 a11 (.slice A14 ((gi x1 x5).length) c15) (by kernel_rfl) (by kernel_rfl) (Fc.here trivial) (by kernel_rfl) (by kernel_rfl) (fun _ h => f12.fc h 0 _ rfl) ?_
    refine bind_some' h fun y17 e18 h => ?_
    refine Op_.call (.call { callee := .value (.func 17), args := #[(.tmp 20), (.tmp 24)], argTypes := #[23, 23] }) 25 4 17 #[.slice A7 ((gi x0 x5).length) c8, .slice A14 ((gi x1 x5).length) c15] (AnyG.cs (i := 8) (by kernel_rfl) (by kernel_rfl)) (by kernel_rfl) (W.tidepolebase_SameBytes (gi x0 x5) (gi x1 x5) y17 e18 nz wz S1 w2 (Lr) A7 ((gi x0 x5).length) c8 A14 ((gi x1 x5).length) c15 p2 f9 rfl f16 rfl) ?_
    rintro _ w3 ⟨S3, rfl, z3, p3⟩
    refine AnyG.next z3 trivial ?_
    refine AnyG.pure (i := 9) (.unOp .not 4 (.tmp 25)) 26 4 (.bool (!y17)) (by kernel_rfl) (by kernel_rfl) (by kernel_rfl) (Fc.here trivial) ?_
    refine AnyG.done (by kernel_rfl) ?_ _
    refine ite_some h (fun h19 h => ?_) (fun h19 h => ?_)
    · rw [h19]
      refine Goes.runs 9 [(15, .int .i64 x5), (16, .int .i64 (wr .i64 (x5 + 1))), (5, .int .i64 (wr .i64 (x5 + 1)))] [.code (sub [1, 1, 0, 1, 0, 0] B37), .inLoop (sub [1, 1, 0, 1, 0, 0] B37), .inBlock 0, .code (sub [1, 1, 1] B37)] (by kernel_rfl) ?_
      exact Goes.jump 27 [(0, .slice Ax0 x0.length cx0), (1, .slice Ax1 x1.length cx1), (5, .int .i64 (wr .i64 (x5 + 1)))] (by kernel_rfl) (ih_tidepolelaw03_same_l0 _ _ h _ _ ((hx.trans z2).trans z3) Ax0 x0.length cx0 Ax1 x1.length cx1 p3 (fx0.ext (z2.trans z3)) rfl (fx1.ext (z2.trans z3)) rfl)
    · have h19' : y17 = false := by simpa using h19
      rw [h19']
      refine Goes.runs 5 [(4, .bool false)] [.code (sub [1, 1, 0, 1, 0, 0, 1, 0, 0, 1, 0, 1] B37), .inBlock 1, .code (sub [1, 1, 0, 1, 0, 0, 1, 1] B37), .inLoop (sub [1, 1, 0, 1, 0, 0] B37), .inBlock 0, .code (sub [1, 1, 1] B37)] (by kernel_rfl) ?_
      obtain rfl := Option.some.inj h
      exact Goes.ret (fn := Try.f37) (by kernel_rfl) (v := .bool false) (by kernel_rfl) ⟨S3, rfl, ((hx.trans z2).trans z3), p3⟩
  · rw [decide_eq_false h2]
    refine Goes.runs 6 [(4, .bool true)] [.code (sub [1, 1, 1, 1] B37)] (by kernel_rfl) ?_
    obtain rfl := Option.some.inj h
    exact Goes.ret (fn := Try.f37) (by kernel_rfl) (v := .bool true) (by kernel_rfl) ⟨S1, rfl, hx, p1⟩

/-! tidepole/tidepolelaw03.same -/
theorem W.tidepolelaw03_same (x0 : List (List Int)) (x1 : List (List Int)) (r : Bool) (h : M.tidepolelaw03_same x0 x1 = some r) (nz : Nat) (wz : World) (S0 : Fz) (w0 : World) (Lr : List Ent) (Ax0 : Option Addr) (nx0 : Nat) (cx0 : Nat) (Ax1 : Option Addr) (nx1 : Nat) (cx1 : Nat) (p0 : Hp nz wz S0 w0 (Lr)) (fx0 : Rd (kSl (kInt .u8)) S0 w0 Ax0 cx0 x0) (lx0 : x0.length = nx0) (fx1 : Rd (kSl (kInt .u8)) S0 w0 Ax1 cx1 x1) (lx1 : x1.length = nx1) :
    Calls Try.prog 37 #[.slice Ax0 nx0 cx0, .slice Ax1 nx1 cx1] w0 (Rets (Post.tidepolelaw03_same nz wz S0 w0 Lr r)) := by
  subst lx0
  subst lx1
  refine calls_of_goes (fn := Try.f37) (c := B37) (by kernel_rfl) (by kernel_rfl) 25 (by kernel_rfl) ?_
  refine Goes.jump 27 [(0, .slice Ax0 x0.length cx0), (1, .slice Ax1 x1.length cx1)] (by kernel_rfl) (fun junk => ?_)
  delta M.tidepolelaw03_same at h
  refine Goes.runs 13 [(4, .bool false), (6, .slice Ax0 x0.length cx0), (7, .int .i64 (x0.length : Int)), (8, .slice Ax1 x1.length cx1), (9, .int .i64 (x1.length : Int)), (10, .bool (!(decide ((x0.length : Int) = (x1.length : Int)))))] [.code (sub [1, 0, 1] B37), .code (sub [1, 1] B37)] (by kernel_rfl) ?_
  refine ite_some h (fun h1 h => ?_) (fun h1 h => ?_)
  · rw [decide_eq_true h1]
    refine Goes.runs 9 [(5, .int .i64 0)] [.code (sub [1, 1, 0, 1, 0, 0] B37), .inLoop (sub [1, 1, 0, 1, 0, 0] B37), .inBlock 0, .code (sub [1, 1, 1] B37)] (by kernel_rfl) ?_
    exact Goes.jump 27 [(0, .slice Ax0 x0.length cx0), (1, .slice Ax1 x1.length cx1), (5, .int .i64 0)] (by kernel_rfl) (W.tidepolelaw03_same_l0 nz wz S0 w0 Lr _ _ h _ _ (Ext.refl S0 w0) Ax0 x0.length cx0 Ax1 x1.length cx1 p0 fx0 rfl fx1 rfl)
  · rw [decide_eq_false h1]
    refine Goes.runs 5 [(4, .bool false)] [.code (sub [1, 0, 1, 0, 1] B37), .code (sub [1, 1] B37)] (by kernel_rfl) ?_
    obtain rfl := Option.some.inj h
    exact Goes.ret (fn := Try.f37) (by kernel_rfl) (v := .bool false) (by kernel_rfl) ⟨S0, rfl, (Ext.refl S0 w0), p0⟩

/-! tidepole/tidepolelaw03.FrameBack -/
def Post.tidepolelaw03_FrameBack (nz : Nat) (wz : World) (S0 : Fz) (w0 : World) (Lr : List Ent) (r : Bool) (v : Value) (w' : World) : Prop :=
  ∃ (S' : Fz), v = .bool r ∧ Ext S0 w0 S' w' ∧ Hp nz wz S' w' (Lr)

def L.tidepolelaw03_FrameBack_l0 (nz : Nat) (wz : World) (S0 : Fz) (w0 : World) (Lr : List Ent) : Int × (List Int) × (List (List Int)) × (List Int) × Bool → Bool → Prop := fun ⟨x0, x2, x7, x8, x47⟩ r => ∀ S1 w1, Ext S0 w0 S1 w1 → ∀ (Ax2 : Option Addr) (nx2 : Nat) (cx2 : Nat) (Gx7 : Option Nat) (nx7 : Nat) (cx7 : Nat) (csx7 : List Value) (kzx7 : Nat) (Gx8 : Option Nat) (nx8 : Nat) (cx8 : Nat) (csx8 : List Value) (_ : Hp nz wz S1 w1 ((Gx7, .row 23 csx7 (cx7 * (kSl (kInt .u8)).size) kzx7) :: (Gx8, .row 5 csx8 (cx8 * (kInt .u8).size) 0) :: Lr)) (_ : Rd (kInt .u8) S1 w1 Ax2 cx2 x2) (_ : x2.length = nx2) (_ : Els (kSl (kInt .u8)) S1 w1 csx7 x7) (_ : x7.length = nx7) (_ : Els (kInt .u8) S1 w1 csx8 x8) (_ : x8.length = nx8) (junk : Nat → Value),
  Goes Try.prog (base 8) [.code (sub [1, 1, 1, 1, 0, 1, 1] B8), .code (sub [1, 1, 1, 1, 1] B8)] ⟨lfr 78 [(0, .int .i64 x0), (2, .slice Ax2 nx2 cx2), (7, .slice (Gp Gx7) nx7 cx7), (8, .slice (Gp Gx8) nx8 cx8), (47, .bool x47)] junk, []⟩ w1 (Done Try.prog 8 (Rets (Post.tidepolelaw03_FrameBack nz wz S0 w0 Lr r)))

theorem W.tidepolelaw03_FrameBack_l0 (nz : Nat) (wz : World) (S0 : Fz) (w0 : World) (Lr : List Ent) : ∀ a r, M.tidepolelaw03_FrameBack_l0 a = some r → L.tidepolelaw03_FrameBack_l0 nz wz S0 w0 Lr a r := by
  intro ⟨x0, x2, x7, x8, x47⟩ r h S1 w1 hx Ax2 nx2 cx2 Gx7 nx7 cx7 csx7 kzx7 Gx8 nx8 cx8 csx8 p1 fx2 lx2 fx7 lx7 fx8 lx8 junk
  rw [M.tidepolelaw03_FrameBack_l0] at h
  try dsimp only at h
  subst lx2
  subst lx7
  subst lx8
  refine ite_some h (fun h19 h => ?_) (fun h19 h => ?_)
  · rw [h19]
    refine Goes.runs 5 [(6, .bool true)] [.code (sub [1, 1, 1, 1, 0, 1, 1, 0, 1] B8), .code (sub [1, 1, 1, 1, 1] B8)] (by kernel_rfl) ?_
    obtain rfl := Option.some.inj h
    have p1 := (p1.front 0 _ rfl).drop
    have p1 := (p1.front 0 _ rfl).drop
    exact Goes.ret (fn := Try.f8) (by kernel_rfl) (v := .bool true) (by kernel_rfl) ⟨S1, rfl, hx, p1⟩
  · have h19' : x47 = false := by simpa using h19
    rw [h19']
    refine Goes.runs 6 [(49, .int .i64 x0), (50, .slice (Gp Gx8) x8.length cx8)] [.inRegion (opsOf (sub [1, 1, 1, 1, 1, 0] B8)) [2, 3, 4, 5, 6, 7, 8, 9, 10, 11, 12], .code (sub [1, 1, 1, 1, 1, 1] B8)] (by kernel_rfl) ?_
    obtain ⟨S5, z5, p5, f20⟩ := p1.freezeRd 1 rfl fx8 (by decide)
    refine bind_some' h fun y21 e22 h => ?_
    refine Op_.call (.call { callee := .value (.func 12), args := #[(.tmp 50)], argTypes := #[23] }) 51 23 12 #[.slice (Gp Gx8) x8.length cx8] (Goes.cs (by kernel_rfl)) (by kernel_rfl) (W.tidepolebase_Bytes x8 y21 e22 nz wz S5 w1 ((Gx7, .row 23 csx7 (cx7 * (kSl (kInt .u8)).size) kzx7) :: (Gx8, .row 5 csx8 (cx8 * (kInt .u8).size) csx8.length) :: Lr) (Gp Gx8) x8.length cx8 p5 f20 rfl) ?_
    rintro _ w6 ⟨S6, Gr_6, nr_6, cr_6, csr_6, rfl, z6, p6, fr_6, rfl⟩
    refine Goes.runs 1 [(52, .slice Ax2 x2.length cx2)] [.inRegion (opsOf (sub [1, 1, 1, 1, 1, 0] B8)) [4, 5, 6, 7, 8, 9, 10, 11, 12], .code (sub [1, 1, 1, 1, 1, 1] B8)] (by kernel_rfl) ?_
    obtain ⟨ns24, f25, f26⟩ := src_rd (fx2.ext (z5.trans z6))
    refine guard_some' h fun g27 h => ?_
    refine Op_.ap_n (K := (kInt .u8)) 23 (.tmp 51) (.tmp 52) 53 23 5 0 (.int .u8 0) 1 y21.length cr_6 x2.length y21 x2 (y21 ++ x2) Ax2 cx2 rfl rfl rfl p6 rfl fr_6 (Goes.vs (by kernel_rfl)) (by kernel_rfl) (by kernel_rfl) (by kernel_rfl) (by kernel_rfl) rfl (by decide) f25 f26 (by have := g27; omega) (by have := g27; omega) ?_
    intro w7 G28 c29 cs30 z7 p7 f31
    obtain ⟨S8, z8, p8, f32⟩ := p7.freezeRd 0 rfl f31 (by decide)
    refine bind_some' h fun y33 e34 h => ?_
    refine Op_.call (.call { callee := .value (.func 36), args := #[(.tmp 49), (.tmp 53)], argTypes := #[3, 23] }) 54 54 36 #[.int .i64 x0, .slice (Gp G28) ((y21 ++ x2).length) c29] (Goes.cs (by kernel_rfl)) (by kernel_rfl) (W.frame_Read x0 (y21 ++ x2) y33 e34 nz wz S8 w7 ((G28, .row 5 cs30 (c29 * (kInt .u8).size) cs30.length) :: (Gx7, .row 23 csx7 (cx7 * (kSl (kInt .u8)).size) kzx7) :: (Gx8, .row 5 csx8 (cx8 * (kInt .u8).size) csx8.length) :: Lr) (Gp G28) ((y21 ++ x2).length) c29 p8 f32 rfl) ?_
    rintro _ w9 ⟨S9, Gr_9_0, nr_9_0, cr_9_0, csr_9_0, rfl, z9, p9, fr_9_0, rfl⟩
    have p9 := (p9.front 1 _ rfl).drop
    refine Goes.runs 13 [(48, .tuple #[.slice (Gp Gr_9_0) y33.1.length cr_9_0, .int .i64 y33.2.1, .int .i64 y33.2.2]), (55, .slice (Gp Gr_9_0) y33.1.length cr_9_0), (56, .int .i64 y33.2.1), (57, .int .i64 y33.2.2), (13, .slice (Gp Gr_9_0) y33.1.length cr_9_0), (14, .int .i64 y33.2.1), (15, .int .i64 y33.2.2), (58, .int .i64 y33.2.2), (59, .bool (decide (y33.2.2 = 0))), (60, .bool (decide (y33.2.2 = 0)))] [.inRegion (opsOf (sub [1, 1, 1, 1, 1, 1, 0] B8)) [3, 4, 5, 6, 7, 8, 9, 10, 11, 12, 13, 14, 15, 16, 17, 18, 19, 20], .code (sub [1, 1, 1, 1, 1, 1, 1] B8)] (by kernel_rfl) ?_
    refine ite_some h (fun h36 h => ?_) (fun h36 h => ?_)
    · rw [decide_eq_true h36]
      refine Goes.runs 2 [(61, .slice (Gp Gr_9_0) y33.1.length cr_9_0), (62, .slice (Gp Gx7) x7.length cx7)] [.inRegion (opsOf (sub [1, 1, 1, 1, 1, 1, 0] B8)) [5, 6, 7, 8, 9, 10, 11, 12, 13, 14, 15, 16, 17, 18, 19, 20], .code (sub [1, 1, 1, 1, 1, 1, 1] B8)] (by kernel_rfl) ?_
      obtain ⟨S10, z10, p10, f37⟩ := p9.freezeRd 0 rfl fr_9_0 (by decide)
      obtain ⟨S11, z11, p11, f38⟩ := p10.freezeRd 1 rfl (fx7.ext (((((z5.trans z6).trans z7).trans z8).trans z9).trans z10)) (by decide)
      refine bind_some' h fun y39 e40 h => ?_
      refine Op_.call (.call { callee := .value (.func 37), args := #[(.tmp 61), (.tmp 62)], argTypes := #[41, 41] }) 63 4 37 #[.slice (Gp Gr_9_0) y33.1.length cr_9_0, .slice (Gp Gx7) x7.length cx7] (Goes.cs (by kernel_rfl)) (by kernel_rfl) (W.tidepolelaw03_same y33.1 x7 y39 e40 nz wz S11 w9 ((Gr_9_0, .row 23 csr_9_0 (cr_9_0 * (kSl (kInt .u8)).size) csr_9_0.length) :: (Gx7, .row 23 csx7 (cx7 * (kSl (kInt .u8)).size) csx7.length) :: (Gx8, .row 5 csx8 (cx8 * (kInt .u8).size) csx8.length) :: Lr) (Gp Gr_9_0) y33.1.length cr_9_0 (Gp Gx7) x7.length cx7 p11 (f37.ext z11) rfl f38 rfl) ?_
      rintro _ w12 ⟨S12, rfl, z12, p12⟩
      have p12 := (p12.front 0 _ rfl).drop
      have p12 := (p12.front 0 _ rfl).drop
      refine Goes.runs 2 [(64, .bool y39), (65, .bool y39)] [.inRegion (opsOf (sub [1, 1, 1, 1, 1, 1, 0] B8)) [8, 9, 10, 11, 12, 13, 14, 15, 16, 17, 18, 19, 20], .code (sub [1, 1, 1, 1, 1, 1, 1] B8)] (by kernel_rfl) ?_
      refine ite_some h (fun h41 h => ?_) (fun h41 h => ?_)
      · rw [h41]
        refine Goes.runs 7 [(66, .int .i64 y33.2.1), (67, .slice (Gp Gx8) x8.length cx8), (68, .int .i64 (x8.length : Int)), (69, .int .i64 (iquo .i64 (x8.length : Int) 256)), (70, .bool (decide (y33.2.1 = iquo .i64 (x8.length : Int) 256))), (71, .bool (decide (y33.2.1 = iquo .i64 (x8.length : Int) 256))), (72, .bool (decide (y33.2.1 = iquo .i64 (x8.length : Int) 256)))] [.inRegion (opsOf (sub [1, 1, 1, 1, 1, 1, 0] B8)) [15, 16, 17, 18, 19, 20], .code (sub [1, 1, 1, 1, 1, 1, 1] B8)] (by kernel_rfl) ?_
        refine ite_some h (fun h42 h => ?_) (fun h42 h => ?_)
        · rw [decide_eq_true h42]
          refine Goes.runs 7 [(73, .slice (Gp Gx8) x8.length cx8), (74, .int .i64 (x8.length : Int)), (75, .int .i64 (irem .i64 (x8.length : Int) 256)), (76, .bool (decide (irem .i64 (x8.length : Int) 256 = 0))), (77, .bool (decide (irem .i64 (x8.length : Int) 256 = 0))), (6, .bool (decide (irem .i64 (x8.length : Int) 256 = 0)))] [.code (sub [1, 1, 1, 1, 1, 1, 1] B8)] (by kernel_rfl) ?_
          obtain rfl := Option.some.inj h
          have p12 := (p12.front 0 _ rfl).drop
          exact Goes.ret (fn := Try.f8) (by kernel_rfl) (v := .bool (decide (irem .i64 (x8.length : Int) 256 = 0))) (by kernel_rfl) ⟨S12, rfl, ((((((((hx.trans z5).trans z6).trans z7).trans z8).trans z9).trans z10).trans z11).trans z12), p12⟩
        · rw [decide_eq_false h42]
          refine Goes.runs 7 [(73, undef), (74, undef), (75, undef), (76, undef), (77, .bool false), (6, .bool false)] [.code (sub [1, 1, 1, 1, 1, 1, 1] B8)] (by kernel_rfl) ?_
          obtain rfl := Option.some.inj h
          have p12 := (p12.front 0 _ rfl).drop
          exact Goes.ret (fn := Try.f8) (by kernel_rfl) (v := .bool false) (by kernel_rfl) ⟨S12, rfl, ((((((((hx.trans z5).trans z6).trans z7).trans z8).trans z9).trans z10).trans z11).trans z12), p12⟩
      · have h41' : y39 = false := by simpa using h41
        rw [h41']
        refine Goes.runs 14 [(66, undef), (67, undef), (68, undef), (69, undef), (70, undef), (71, .bool false), (72, .bool false), (73, undef), (74, undef), (75, undef), (76, undef), (77, .bool false), (6, .bool false)] [.code (sub [1, 1, 1, 1, 1, 1, 1] B8)] (by kernel_rfl) ?_
        obtain rfl := Option.some.inj h
        have p12 := (p12.front 0 _ rfl).drop
        exact Goes.ret (fn := Try.f8) (by kernel_rfl) (v := .bool false) (by kernel_rfl) ⟨S12, rfl, ((((((((hx.trans z5).trans z6).trans z7).trans z8).trans z9).trans z10).trans z11).trans z12), p12⟩
    · rw [decide_eq_false h36]
      refine Goes.runs 14 [(61, undef), (62, undef), (63, undef), (64, .bool false), (65, .bool false), (66, undef), (67, undef), (68, undef), (69, undef), (70, undef), (71, .bool false), (72, .bool false), (73, undef), (74, undef)] [.inRegion (opsOf (sub [1, 1, 1, 1, 1, 1, 0] B8)) [17, 18, 19, 20], .code (sub [1, 1, 1, 1, 1, 1, 1] B8)] (by kernel_rfl) ?_
      refine Goes.runs 5 [(75, undef), (76, undef), (77, .bool false), (6, .bool false)] [.code (sub [1, 1, 1, 1, 1, 1, 1] B8)] (by kernel_rfl) ?_
      obtain rfl := Option.some.inj h
      have p9 := (p9.front 0 _ rfl).drop
      have p9 := (p9.front 0 _ rfl).drop
      have p9 := (p9.front 0 _ rfl).drop
      exact Goes.ret (fn := Try.f8) (by kernel_rfl) (v := .bool false) (by kernel_rfl) ⟨S9, rfl, (((((hx.trans z5).trans z6).trans z7).trans z8).trans z9), p9⟩

/-! tidepole/tidepolelaw03.FrameBack -/
theorem W.tidepolelaw03_FrameBack (x0 : Int) (x1 : List (List Int)) (x2 : List Int) (r : Bool) (h : M.tidepolelaw03_FrameBack x0 x1 x2 = some r) (nz : Nat) (wz : World) (S0 : Fz) (w0 : World) (Lr : List Ent) (Ax1 : Option Addr) (nx1 : Nat) (cx1 : Nat) (Ax2 : Option Addr) (nx2 : Nat) (cx2 : Nat) (p0 : Hp nz wz S0 w0 (Lr)) (fx1 : Rd (kSl (kInt .u8)) S0 w0 Ax1 cx1 x1) (lx1 : x1.length = nx1) (fx2 : Rd (kInt .u8) S0 w0 Ax2 cx2 x2) (lx2 : x2.length = nx2) :
    Calls Try.prog 8 #[.int .i64 x0, .slice Ax1 nx1 cx1, .slice Ax2 nx2 cx2] w0 (Rets (Post.tidepolelaw03_FrameBack nz wz S0 w0 Lr r)) := by
  subst lx1
  subst lx2
  refine calls_of_goes (fn := Try.f8) (c := B8) (by kernel_rfl) (by kernel_rfl) 75 (by kernel_rfl) ?_
  refine Goes.jump 78 [(0, .int .i64 x0), (1, .slice Ax1 x1.length cx1), (2, .slice Ax2 x2.length cx2)] (by kernel_rfl) (fun junk => ?_)
  delta M.tidepolelaw03_FrameBack at h
  refine Goes.runs 7 [(6, .bool false)] [.inRegion (opsOf (sub [1, 0, 0] B8)) [0, 1], .code (sub [1, 0, 1] B8), .code (sub [1, 1] B8)] (by kernel_rfl) ?_
  refine bind_some' h fun y1 e2 h => ?_
  refine Op_.call (.call { callee := .value (.func 33), args := #[], argTypes := #[] }) 16 4 33 #[] (Goes.cs (by kernel_rfl)) (by kernel_rfl) (W.tidepolelaw03_works y1 e2 nz wz S0 w0 (Lr)  p0 ) ?_
  rintro _ w2 ⟨S2, rfl, z2, p2⟩
  refine Goes.runs 2 [(17, .bool (!y1))] [.code (sub [1, 0, 1] B8), .code (sub [1, 1] B8)] (by kernel_rfl) ?_
  refine ite_some h (fun h3 h => ?_) (fun h3 h => ?_)
  · rw [h3]
    refine Goes.runs 6 [(19, .int .i64 x0), (20, .slice Ax1 x1.length cx1)] [.inRegion (opsOf (sub [1, 1, 0] B8)) [2, 3, 4, 5, 6, 7, 8, 9], .code (sub [1, 1, 1] B8)] (by kernel_rfl) ?_
    refine bind_some' h fun y4 e5 h => ?_
    refine Op_.call (.call { callee := .value (.func 34), args := #[(.tmp 19), (.tmp 20)], argTypes := #[3, 41] }) 21 50 34 #[.int .i64 x0, .slice Ax1 x1.length cx1] (Goes.cs (by kernel_rfl)) (by kernel_rfl) (W.tidepolelaw03_laid x0 x1 y4 e5 nz wz S2 w2 (Lr) Ax1 x1.length cx1 p2 (fx1.ext z2) rfl) ?_
    rintro _ w3 ⟨S3, Gr_3_1, nr_3_1, cr_3_1, csr_3_1, kzr_3_1, Gr_3_2, nr_3_2, cr_3_2, csr_3_2, rfl, z3, p3, fr_3_1, rfl, fr_3_2, rfl⟩
    refine Goes.runs 14 [(18, .tuple #[.int .i64 y4.1, .slice (Gp Gr_3_1) y4.2.1.length cr_3_1, .slice (Gp Gr_3_2) y4.2.2.length cr_3_2]), (22, .int .i64 y4.1), (23, .slice (Gp Gr_3_1) y4.2.1.length cr_3_1), (24, .slice (Gp Gr_3_2) y4.2.2.length cr_3_2), (0, .int .i64 y4.1), (7, .slice (Gp Gr_3_1) y4.2.1.length cr_3_1), (8, .slice (Gp Gr_3_2) y4.2.2.length cr_3_2), (25, .slice Ax2 x2.length cx2), (26, .slice Ax2 x2.length cx2), (27, .int .i64 (x2.length : Int)), (28, .int .i64 (imn (x2.length : Int) 600))] [.inRegion (opsOf (sub [1, 1, 1, 0] B8)) [4, 5], .code (sub [1, 1, 1, 1] B8)] (by kernel_rfl) ?_
    refine guard_some' h fun g8 h => ?_
    refine guard_some' h fun g9 h => ?_
    refine Op_.slR_n 23 (.tmp 25) none (some (.tmp 28)) 29 23 5 0 (imn (x2.length : Int) 600) (sl x2 0 (imn (x2.length : Int) 600)) rfl rfl (fx2.ext (z2.trans z3)) (Goes.vs (by kernel_rfl)) (by kernel_rfl) (by kernel_rfl) (by kernel_rfl) Bnd.no (Bnd.at_ .i64 (by kernel_rfl)) (by decide : (0 : Int) ≤ 0) g8 g9 ?_
    intro A10 c11 f12
    refine Goes.runs 6 [(2, .slice A10 ((sl x2 0 (imn (x2.length : Int) 600)).length) c11), (31, .slice A10 ((sl x2 0 (imn (x2.length : Int) 600)).length) c11)] [.inRegion (opsOf (sub [1, 1, 1, 1, 0, 0] B8)) [1, 2, 3, 4, 5, 6, 7, 8, 9, 10], .code (sub [1, 1, 1, 1, 0, 1] B8), .code (sub [1, 1, 1, 1, 1] B8)] (by kernel_rfl) ?_
    refine bind_some' h fun y13 e14 h => ?_
    refine Op_.call (.call { callee := .value (.func 35), args := #[(.tmp 31)], argTypes := #[23] }) 32 52 35 #[.slice A10 ((sl x2 0 (imn (x2.length : Int) 600)).length) c11] (Goes.cs (by kernel_rfl)) (by kernel_rfl) (W.tidepoleref03_First (sl x2 0 (imn (x2.length : Int) 600)) y13 e14 nz wz S3 w3 ((Gr_3_1, .row 23 csr_3_1 (cr_3_1 * (kSl (kInt .u8)).size) kzr_3_1) :: (Gr_3_2, .row 5 csr_3_2 (cr_3_2 * (kInt .u8).size) 0) :: Lr) A10 ((sl x2 0 (imn (x2.length : Int) 600)).length) c11 p3 f12 rfl) ?_
    rintro _ w4 ⟨S4, Gr_4_1, nr_4_1, cr_4_1, csr_4_1, rfl, z4, p4, fr_4_1, rfl⟩
    refine Goes.runs 14 [(30, .tuple #[.int .i64 y13.1, .slice (Gp Gr_4_1) y13.2.1.length cr_4_1, .int .i64 y13.2.2.1, .int .i64 y13.2.2.2]), (33, .int .i64 y13.1), (34, .slice (Gp Gr_4_1) y13.2.1.length cr_4_1), (35, .int .i64 y13.2.2.1), (36, .int .i64 y13.2.2.2), (9, .int .i64 y13.1), (10, .slice (Gp Gr_4_1) y13.2.1.length cr_4_1), (11, .int .i64 y13.2.2.1), (12, .int .i64 y13.2.2.2), (37, .int .i64 y13.2.2.2), (38, .bool (decide (y13.2.2.2 = 0)))] [.inRegion (opsOf (sub [1, 1, 1, 1, 0, 1, 0] B8)) [2, 3, 4, 5, 6, 7, 8, 9, 10], .code (sub [1, 1, 1, 1, 0, 1, 1] B8), .code (sub [1, 1, 1, 1, 1] B8)] (by kernel_rfl) ?_
    refine Goes.runs 1 [(39, .bool (decide (y13.2.2.2 = 0)))] [.inRegion (opsOf (sub [1, 1, 1, 1, 0, 1, 0] B8)) [3, 4, 5, 6, 7, 8, 9, 10], .code (sub [1, 1, 1, 1, 0, 1, 1] B8), .code (sub [1, 1, 1, 1, 1] B8)] (by kernel_rfl) ?_
    refine ite_some h (fun h16 h => ?_) (fun h16 h => ?_)
    · rw [decide_eq_true h16]
      refine Goes.runs 9 [(40, .int .i64 y13.1), (41, .int .i64 y4.1), (42, .slice (Gp Gr_3_2) y4.2.2.length cr_3_2), (43, .int .i64 (y4.2.2.length : Int)), (44, .int .i64 (iquo .i64 (y4.2.2.length : Int) 256)), (45, .int .i64 (wr .i64 (y4.1 + (iquo .i64 (y4.2.2.length : Int) 256)))), (46, .bool (decide (y13.1 = wr .i64 (y4.1 + (iquo .i64 (y4.2.2.length : Int) 256))))), (47, .bool (decide (y13.1 = wr .i64 (y4.1 + (iquo .i64 (y4.2.2.length : Int) 256)))))] [.code (sub [1, 1, 1, 1, 0, 1, 1] B8), .code (sub [1, 1, 1, 1, 1] B8)] (by kernel_rfl) ?_
      have p4 := (p4.front 0 _ rfl).drop
      exact Goes.jump 78 [(0, .int .i64 y4.1), (2, .slice A10 ((sl x2 0 (imn (x2.length : Int) 600)).length) c11), (7, .slice (Gp Gr_3_1) y4.2.1.length cr_3_1), (8, .slice (Gp Gr_3_2) y4.2.2.length cr_3_2), (47, .bool (decide (y13.1 = wr .i64 (y4.1 + (iquo .i64 (y4.2.2.length : Int) 256)))))] (by kernel_rfl) (W.tidepolelaw03_FrameBack_l0 nz wz S0 w0 Lr _ _ h _ _ ((((Ext.refl S0 w0).trans z2).trans z3).trans z4) A10 ((sl x2 0 (imn (x2.length : Int) 600)).length) c11 Gr_3_1 y4.2.1.length cr_3_1 csr_3_1 kzr_3_1 Gr_3_2 y4.2.2.length cr_3_2 csr_3_2 p4 (f12.ext z4) rfl (fr_3_1.ext z4) rfl (fr_3_2.ext z4) rfl)
    · rw [decide_eq_false h16]
      refine Goes.runs 9 [(40, undef), (41, undef), (42, undef), (43, undef), (44, undef), (45, undef), (46, undef), (47, .bool false)] [.code (sub [1, 1, 1, 1, 0, 1, 1] B8), .code (sub [1, 1, 1, 1, 1] B8)] (by kernel_rfl) ?_
      have p4 := (p4.front 0 _ rfl).drop
      exact Goes.jump 78 [(0, .int .i64 y4.1), (2, .slice A10 ((sl x2 0 (imn (x2.length : Int) 600)).length) c11), (7, .slice (Gp Gr_3_1) y4.2.1.length cr_3_1), (8, .slice (Gp Gr_3_2) y4.2.2.length cr_3_2), (47, .bool false)] (by kernel_rfl) (W.tidepolelaw03_FrameBack_l0 nz wz S0 w0 Lr _ _ h _ _ ((((Ext.refl S0 w0).trans z2).trans z3).trans z4) A10 ((sl x2 0 (imn (x2.length : Int) 600)).length) c11 Gr_3_1 y4.2.1.length cr_3_1 csr_3_1 kzr_3_1 Gr_3_2 y4.2.2.length cr_3_2 csr_3_2 p4 (f12.ext z4) rfl (fr_3_1.ext z4) rfl (fr_3_2.ext z4) rfl)
  · have h3' : y1 = false := by simpa using h3
    rw [h3']
    refine Goes.runs 5 [(6, .bool false)] [.code (sub [1, 0, 1, 0, 1] B8), .code (sub [1, 1] B8)] (by kernel_rfl) ?_
    obtain rfl := Option.some.inj h
    exact Goes.ret (fn := Try.f8) (by kernel_rfl) (v := .bool false) (by kernel_rfl) ⟨S2, rfl, ((Ext.refl S0 w0).trans z2), p2⟩

end Go.Gx
