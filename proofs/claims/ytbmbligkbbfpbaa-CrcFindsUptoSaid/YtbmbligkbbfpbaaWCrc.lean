import Derived.Test.YtbmbligkbbfpbaaMCrc

import Derived.Test.YtbmbligkbbfpbaaG9

import Derived.Test.YtbmbligkbbfpbaaProg

set_option linter.unusedVariables false

set_option maxRecDepth 10000

namespace Go.Gx

open Go.RowKit Go.Proofs

noncomputable def B3 : Code := (Try.f3.body).getD .skip

noncomputable def B4 : Code := (Try.f4.body).getD .skip

noncomputable def B5 : Code := (Try.f5.body).getD .skip

noncomputable def B6 : Code := (Try.f6.body).getD .skip

noncomputable def B11 : Code := (Try.f11.body).getD .skip

noncomputable def B12 : Code := (Try.f12.body).getD .skip

noncomputable def B13 : Code := (Try.f13.body).getD .skip

noncomputable def B14 : Code := (Try.f14.body).getD .skip

noncomputable def B15 : Code := (Try.f15.body).getD .skip

noncomputable def B16 : Code := (Try.f16.body).getD .skip

noncomputable def B17 : Code := (Try.f17.body).getD .skip

noncomputable def B18 : Code := (Try.f18.body).getD .skip

noncomputable def B19 : Code := (Try.f19.body).getD .skip

noncomputable def B20 : Code := (Try.f20.body).getD .skip

noncomputable def B21 : Code := (Try.f21.body).getD .skip

noncomputable def B22 : Code := (Try.f22.body).getD .skip

noncomputable def B23 : Code := (Try.f23.body).getD .skip

noncomputable def B24 : Code := (Try.f24.body).getD .skip

noncomputable def B25 : Code := (Try.f25.body).getD .skip

noncomputable def B26 : Code := (Try.f26.body).getD .skip

noncomputable def B27 : Code := (Try.f27.body).getD .skip

noncomputable def B38 : Code := (Try.f38.body).getD .skip

noncomputable def B39 : Code := (Try.f39.body).getD .skip

noncomputable def B45 : Code := (Try.f45.body).getD .skip

noncomputable def B49 : Code := (Try.f49.body).getD .skip

/-! tidepole/tidepolelaw02.short -/
def Post.tidepolelaw02_short (nz : Nat) (wz : World) (S0 : Fz) (w0 : World) (Lr : List Ent) (r : List Int) (v : Value) (w' : World) : Prop :=
  ∃ (S' : Fz) (A1 : Option Addr) (c2 : Nat), v = .slice A1 r.length c2 ∧ Ext S0 w0 S' w' ∧ Hp nz wz S' w' (Lr) ∧ Rd (kInt .u8) S' w' A1 c2 r

theorem W.tidepolelaw02_short (x0 : List Int) (r : List Int) (h : M.tidepolelaw02_short x0 = some r) (nz : Nat) (wz : World) (S0 : Fz) (w0 : World) (Lr : List Ent) (Ax0 : Option Addr) (cx0 : Nat) (p0 : Hp nz wz S0 w0 (Lr)) (fx0 : Rd (kInt .u8) S0 w0 Ax0 cx0 x0) :
    Calls Try.prog 11 #[.slice Ax0 x0.length cx0] w0 (Rets (Post.tidepolelaw02_short nz wz S0 w0 Lr r)) := by
  refine calls_of_goes (fn := Try.f11) (c := B11) (by kernel_rfl) (by kernel_rfl) 7 (by kernel_rfl) ?_
  refine Goes.jump 8 [(0, .slice Ax0 x0.length cx0)] (by kernel_rfl) (fun junk => ?_)
  rw [M.tidepolelaw02_short] at h
  try dsimp only at h
  refine Goes.runs 10 [(2, .slice none 0 0), (3, .slice Ax0 x0.length cx0), (4, .slice Ax0 x0.length cx0), (5, .int .i64 (x0.length : Int)), (6, .int .i64 (imn (x0.length : Int) 300))] [.inRegion (opsOf (sub [1, 0] B11)) [4, 5], .code (sub [1, 1] B11)] (by kernel_rfl) ?_
  obtain ⟨g1, h⟩ := guard_some h
  obtain ⟨g2, h⟩ := guard_some h
  refine Op_.slR 23 (.tmp 3) none (some (.tmp 6)) 7 23 5 0 (imn (x0.length : Int) 300) fx0 (Goes.vs (by kernel_rfl)) (by kernel_rfl) (by kernel_rfl) (by kernel_rfl) Bnd.no (Bnd.at_ .i64 (by kernel_rfl)) (by decide) g1 g2 ?_
  intro A3 c4 f5
  refine Goes.runs 2 [(2, .slice A3 (sl x0 0 (imn (x0.length : Int) 300)).length c4)] [.code (sub [1, 1] B11)] (by kernel_rfl) ?_
  obtain rfl := Option.some.inj h
  exact Goes.ret (fn := Try.f11) (by kernel_rfl) (v := .slice A3 (sl x0 0 (imn (x0.length : Int) 300)).length c4) (by kernel_rfl) ⟨S0, A3, c4, rfl, (Ext.refl S0 w0), p0, f5⟩

/-! tidepole/tidepolebase.Bytes -/
def Post.tidepolebase_Bytes (nz : Nat) (wz : World) (S0 : Fz) (w0 : World) (Lr : List Ent) (r : List Int) (v : Value) (w' : World) : Prop :=
  ∃ (S' : Fz) (G1 : Option Nat) (c2 : Nat) (cs3 : List Value), v = .slice (Gp G1) r.length c2 ∧ Ext S0 w0 S' w' ∧ Hp nz wz S' w' ((G1, .row 5 cs3 (c2 * (kInt .u8).size) 0) :: Lr) ∧ Els (kInt .u8) S' w' cs3 r

theorem W.tidepolebase_Bytes (x0 : List Int) (r : List Int) (h : M.tidepolebase_Bytes x0 = some r) (nz : Nat) (wz : World) (S0 : Fz) (w0 : World) (Lr : List Ent) (Ax0 : Option Addr) (cx0 : Nat) (p0 : Hp nz wz S0 w0 (Lr)) (fx0 : Rd (kInt .u8) S0 w0 Ax0 cx0 x0) :
    Calls Try.prog 12 #[.slice Ax0 x0.length cx0] w0 (Rets (Post.tidepolebase_Bytes nz wz S0 w0 Lr r)) := by
  refine calls_of_goes (fn := Try.f12) (c := B12) (by kernel_rfl) (by kernel_rfl) 5 (by kernel_rfl) ?_
  refine Goes.jump 6 [(0, .slice Ax0 x0.length cx0)] (by kernel_rfl) (fun junk => ?_)
  rw [M.tidepolebase_Bytes] at h
  try dsimp only at h
  refine Goes.runs 6 [(2, .slice none 0 0)] [.inRegion (opsOf (sub [1, 0] B12)) [0, 1, 2, 3], .code (sub [1, 1] B12)] (by kernel_rfl) ?_
  have f2 : Els (kInt .u8) S0 w0 ([] : List Value) ([] : List Int) := Els.nil
  refine Op_.made (.buildSlice 23 0 #[]) 3 23 (fun b => .slice (Gp (some b)) 0 0) 5 ([] : List Value) p0 (Goes.vs (by kernel_rfl)) (by kernel_rfl) ?_
  intro b1 w2 z2 p2
  have p2 : Hp nz wz S0 w2 (((some b1), .row 5 ([] : List Value) (0 * (kInt .u8).size) 0) :: Lr) := p2
  refine Goes.runs 1 [(4, .slice Ax0 x0.length cx0)] [.inRegion (opsOf (sub [1, 0] B12)) [2, 3], .code (sub [1, 1] B12)] (by kernel_rfl) ?_
  obtain ⟨ns4, f5, f6⟩ := src_rd (fx0.ext z2)
  obtain ⟨g7, h⟩ := guard_some h
  refine Op_.ap (K := (kInt .u8)) 23 (.tmp 3) (.tmp 4) 5 23 5 0 (.int .u8 0) 1 0 ([] : List Int) x0 Ax0 cx0 p2 rfl (f2.ext z2) (Goes.vs (by kernel_rfl)) (by kernel_rfl) (by kernel_rfl) (by kernel_rfl) (by kernel_rfl) rfl (by decide) f5 f6 (by have := g7; simp only [List.nil_append]; omega) (by have := g7; simp only [List.nil_append]; omega) ?_
  intro w3 G8 c9 cs10 z3 p3 f11
  have p3 : Hp nz wz S0 w3 ((G8, .row 5 cs10 (c9 * (kInt .u8).size) 0) :: Lr) := p3
  refine Goes.runs 2 [(2, .slice (Gp G8) x0.length c9)] [.code (sub [1, 1] B12)] (by kernel_rfl) ?_
  obtain rfl := Option.some.inj h
  exact Goes.ret (fn := Try.f12) (by kernel_rfl) (v := .slice (Gp G8) x0.length c9) (by kernel_rfl) ⟨S0, G8, c9, cs10, rfl, (((Ext.refl S0 w0).trans z2).trans z3), p3, f11⟩

/-! tidepole/crc.bits -/
def Post.crc_bits (nz : Nat) (wz : World) (S0 : Fz) (w0 : World) (Lr : List Ent) (r : Int) (v : Value) (w' : World) : Prop :=
  ∃ (S' : Fz) (b1 : Nat), v = .func (.func 49) #[] #[.pointer (some ⟨b1, 0, none⟩)] ∧ Ext S0 w0 S' w' ∧ Hp nz wz S' w' ((some b1, .row 22 [.int .u32 r] 1 0) :: Lr)

theorem W.crc_bits (x0 : Int) (r : Int) (h : M.crc_bits x0 = some r) (nz : Nat) (wz : World) (S0 : Fz) (w0 : World) (Lr : List Ent) (p0 : Hp nz wz S0 w0 (Lr)) :
    Calls Try.prog 45 #[.int .u32 x0] w0 (Rets (Post.crc_bits nz wz S0 w0 Lr r)) := by
  refine calls_of_goes (fn := Try.f45) (c := B45) (by kernel_rfl) (by kernel_rfl) 3 (by kernel_rfl) ?_
  refine Goes.jump 4 [(0, .int .u32 x0)] (by kernel_rfl) (fun junk => ?_)
  rw [M.crc_bits] at h
  try dsimp only at h
  refine Goes.runs 2 [] [.inRegion (opsOf (sub [0] B45)) [0, 1], .code (sub [1] B45)] (by kernel_rfl) ?_
  refine Op_.box 22 (.tmp 0) 1 0 (.int .u32 x0) [.int .u32 x0] p0 (Goes.vs (by kernel_rfl)) (by kernel_rfl) (by kernel_rfl) ?_
  intro b1 w2 z2 p2
  have p2 : Hp nz wz S0 w2 ((some b1, .row 22 [.int .u32 x0] 1 0) :: Lr) := p2
  refine Goes.runs 7 [(2, .func (.func 49) #[] #[.pointer (some ⟨b1, 0, none⟩)]), (3, .func (.func 49) #[] #[.pointer (some ⟨b1, 0, none⟩)])] [.code (sub [1, 1] B45)] (by kernel_rfl) ?_
  obtain rfl := Option.some.inj h
  exact Goes.ret (fn := Try.f45) (by kernel_rfl) (v := .func (.func 49) #[] #[.pointer (some ⟨b1, 0, none⟩)]) (by kernel_rfl) ⟨S0, b1, rfl, ((Ext.refl S0 w0).trans z2), p2⟩

/-! tidepole/crc.step -/
def Post.crc_step_r (nz : Nat) (wz : World) (S0 : Fz) (w0 : World) (Lr : List Ent) (lk : Nat) (rk : Nat) (jkk : Nat → Value) (gkq1 : Nat) (gkq5b0 : Nat) (r : Int × Int) (v : Value) (w' : World) : Prop :=
  ∃ (S' : Fz) , v = .bool true ∧ Ext S0 w0 S' w' ∧ Hp nz wz S' w' ((some lk, .obj (lpst 38 (lfr 9 [(1, .pointer (some ⟨gkq1, 0, none⟩)), (5, .func (.func 49) #[] #[.pointer (some ⟨gkq5b0, 0, none⟩)])] jkk) #[6] (rfAssign (sub [1, 0, 1, 0] B38)) (rfBody (sub [1, 0, 1, 0] B38)) rk .ready none)) :: (some gkq1, .row 22 [.int .u32 r.1] 1 0) :: (some gkq5b0, .row 22 [.int .u32 r.2] 1 0) :: Lr)

theorem W.crc_step_r (kq1v0 : Int) (kq5b0v0 : Int) (a0 : Int) (r : Int × Int) (h : M.crc_step_r kq1v0 kq5b0v0 a0 = some r) (nz : Nat) (wz : World) (S0 : Fz) (w0 : World) (Lr : List Ent) (lk : Nat) (rk : Nat) (jkk : Nat → Value) (gkq1 : Nat) (gkq5b0 : Nat) (p0 : Hp nz wz S0 w0 ((some lk, .obj (lpst 38 (lfr 9 [(1, .pointer (some ⟨gkq1, 0, none⟩)), (5, .func (.func 49) #[] #[.pointer (some ⟨gkq5b0, 0, none⟩)])] jkk) #[6] (rfAssign (sub [1, 0, 1, 0] B38)) (rfBody (sub [1, 0, 1, 0] B38)) rk .ready none)) :: (some gkq1, .row 22 [.int .u32 kq1v0] 1 0) :: (some gkq5b0, .row 22 [.int .u32 kq5b0v0] 1 0) :: Lr)) :
    Goes Try.prog (rbase 38 lk) [.code (rfAssign (sub [1, 0, 1, 0] B38)), .beginRound, .code (rfBody (sub [1, 0, 1, 0] B38))] ⟨setp (lfr 9 [(1, .pointer (some ⟨gkq1, 0, none⟩)), (5, .func (.func 49) #[] #[.pointer (some ⟨gkq5b0, 0, none⟩)])] jkk) #[6] #[.int .u32 a0], []⟩ w0 (DoneR (Post.crc_step_r nz wz S0 w0 Lr lk rk jkk gkq1 gkq5b0 r)) := by
  refine Goes.jump 9 [(1, .pointer (some ⟨gkq1, 0, none⟩)), (5, .func (.func 49) #[] #[.pointer (some ⟨gkq5b0, 0, none⟩)]), (6, .int .u32 a0)] (by kernel_rfl) (fun junk => ?_)
  rw [M.crc_step_r] at h
  try dsimp only at h
  refine Goes.runs 3 [(3, .int .u32 a0)] [.beginRound, .code (sub [1, 0, 1, 0, 1] B38)] (by kernel_rfl) ?_
  refine Goes.beginR 0 rfl p0 rfl ?_
  intro w2 z2 p2
  have p2 : Hp nz wz S0 w2 ((some lk, .obj (lpst 38 (lfr 9 [(1, .pointer (some ⟨gkq1, 0, none⟩)), (5, .func (.func 49) #[] #[.pointer (some ⟨gkq5b0, 0, none⟩)])] jkk) #[6] (rfAssign (sub [1, 0, 1, 0] B38)) (rfBody (sub [1, 0, 1, 0] B38)) rk .busy none)) :: (some gkq1, .row 22 [.int .u32 kq1v0] 1 0) :: (some gkq5b0, .row 22 [.int .u32 kq5b0v0] 1 0) :: Lr) := p2
  refine Goes.runs 3 [(7, .int .u32 a0)] [.inRegion (opsOf (sub [1, 0, 1, 0, 1, 0] B38)) [1], .inBlock 1] (by kernel_rfl) ?_
  refine Op_.st 22 (.tmp 1) (.tmp 7) 0 1 gkq1 0 (.int .u32 a0) [.int .u32 a0] p2 rfl (Goes.ss (by kernel_rfl)) (by kernel_rfl) (by kernel_rfl) (by kernel_rfl) (by kernel_rfl) (Nat.zero_le _) (by simp only [List.length_cons, List.length_nil]; omega) (by simp [Value.oneCell']) ?_
  intro w3 z3 p3
  have p3 : Hp nz wz S0 w3 ((some lk, .obj (lpst 38 (lfr 9 [(1, .pointer (some ⟨gkq1, 0, none⟩)), (5, .func (.func 49) #[] #[.pointer (some ⟨gkq5b0, 0, none⟩)])] jkk) #[6] (rfAssign (sub [1, 0, 1, 0] B38)) (rfBody (sub [1, 0, 1, 0] B38)) rk .busy none)) :: (some gkq1, .row 22 [.int .u32 a0] 1 0) :: (some gkq5b0, .row 22 [.int .u32 kq5b0v0] 1 0) :: Lr) := p3
  refine Goes.runs 2 [] [] (by kernel_rfl) ?_
  obtain rfl := Option.some.inj h
  refine Goes.endR 0 p3 rfl ?_
  intro w4 z4 p4
  exact ⟨S0, rfl, ((((Ext.refl S0 w0).trans z2).trans z3).trans z4), p4⟩

/-! tidepole/crc.bits$1 -/
def Post.crc_bits_1 (nz : Nat) (wz : World) (S0 : Fz) (w0 : World) (Lr : List Ent) (lx0 : Nat) (rx0 : Nat) (jkx0 : Nat → Value) (gx0q1 : Nat) (gx0q5b0 : Nat) (r : Int × Int) (v : Value) (w' : World) : Prop :=
  ∃ (S' : Fz) , v = .tuple #[] ∧ Ext S0 w0 S' w' ∧ Hp nz wz S' w' ((some lx0, .obj (lpst 38 (lfr 9 [(1, .pointer (some ⟨gx0q1, 0, none⟩)), (5, .func (.func 49) #[] #[.pointer (some ⟨gx0q5b0, 0, none⟩)])] jkx0) #[6] (rfAssign (sub [1, 0, 1, 0] B38)) (rfBody (sub [1, 0, 1, 0] B38)) rx0 .ready none)) :: (some gx0q1, .row 22 [.int .u32 r.1] 1 0) :: (some gx0q5b0, .row 22 [.int .u32 r.2] 1 0) :: Lr)

def L.crc_bits_1_l0 (nz : Nat) (wz : World) (S0 : Fz) (w0 : World) (Lr : List Ent) (lx0 : Nat) (rx0 : Nat) (jkx0 : Nat → Value) (gx0q1 : Nat) (gx0q5b0 : Nat) : Int × Int × Int → (Int × Int) → Prop := fun ⟨x1v0, x3, eE1v0⟩ r => ∀ S1 w1, Ext S0 w0 S1 w1 → ∀ (_ : Hp nz wz S1 w1 ((some lx0, .obj (lpst 38 (lfr 9 [(1, .pointer (some ⟨gx0q1, 0, none⟩)), (5, .func (.func 49) #[] #[.pointer (some ⟨gx0q5b0, 0, none⟩)])] jkx0) #[6] (rfAssign (sub [1, 0, 1, 0] B38)) (rfBody (sub [1, 0, 1, 0] B38)) rx0 .ready none)) :: (some gx0q5b0, .row 22 [.int .u32 x1v0] 1 0) :: (some gx0q1, .row 22 [.int .u32 eE1v0] 1 0) :: Lr)) (junk : Nat → Value),
  Goes Try.prog (base 49) [.code (sub [1, 0, 0] B49), .inLoop (sub [1, 0, 0] B49), .inBlock 0] ⟨lfr 17 [(0, yieldV lx0), (1, .pointer (some ⟨gx0q5b0, 0, none⟩)), (3, .int .i64 x3)] junk, []⟩ w1 (Done Try.prog 49 (Rets (Post.crc_bits_1 nz wz S0 w0 Lr lx0 rx0 jkx0 gx0q1 gx0q5b0 r)))

theorem W.crc_bits_1_l0 (nz : Nat) (wz : World) (S0 : Fz) (w0 : World) (Lr : List Ent) (lx0 : Nat) (rx0 : Nat) (jkx0 : Nat → Value) (gx0q1 : Nat) (gx0q5b0 : Nat) : ∀ a r, M.crc_bits_1_l0 a = some r → L.crc_bits_1_l0 nz wz S0 w0 Lr lx0 rx0 jkx0 gx0q1 gx0q5b0 a r := by
  refine M.crc_bits_1_l0.partial_correctness (motive := L.crc_bits_1_l0 nz wz S0 w0 Lr lx0 rx0 jkx0 gx0q1 gx0q5b0) ?_
  intro rec_crc_bits_1_l0 ih_crc_bits_1_l0 ⟨x1v0, x3, eE1v0⟩ r h S1 w1 hx p1 junk
  dsimp only at h
  refine Goes.runs 5 [(4, .bool (decide (x3 < 8)))] [.code (sub [1, 0, 0, 1, 0] B49), .code (sub [1, 0, 0, 1, 1] B49), .inLoop (sub [1, 0, 0] B49), .inBlock 0] (by kernel_rfl) ?_
  by_cases h1 : x3 < 8
  · rw [if_pos h1] at h
    rw [decide_eq_true h1]
    refine Goes.runs 6 [] [.inRegion (opsOf (sub [1, 0, 0, 1, 1, 0, 0, 0] B49)) [0, 1, 2, 3, 4, 5, 6, 7], .code (sub [1, 0, 0, 1, 1, 0, 0, 1] B49), .inBlock 1, .code (sub [1, 0, 0, 1, 1, 1] B49), .inLoop (sub [1, 0, 0] B49), .inBlock 0] (by kernel_rfl) ?_
    refine Op_.ld1 22 (.tmp 1) 5 22 ⟨gx0q5b0, 0, none⟩ (.int .u32 x1v0) (Goes.vs (by kernel_rfl)) (by kernel_rfl) (by kernel_rfl) ((p1.mem 1 rfl).cell 0 _ rfl) ?_
    refine Goes.runs 1 [(6, .int .u32 (ishr .u32 x1v0 1))] [.inRegion (opsOf (sub [1, 0, 0, 1, 1, 0, 0, 0] B49)) [2, 3, 4, 5, 6, 7], .code (sub [1, 0, 0, 1, 1, 0, 0, 1] B49), .inBlock 1, .code (sub [1, 0, 0, 1, 1, 1] B49), .inLoop (sub [1, 0, 0] B49), .inBlock 0] (by kernel_rfl) ?_
    refine Op_.ld1 22 (.tmp 1) 7 22 ⟨gx0q5b0, 0, none⟩ (.int .u32 x1v0) (Goes.vs (by kernel_rfl)) (by kernel_rfl) (by kernel_rfl) ((p1.mem 1 rfl).cell 0 _ rfl) ?_
    refine Goes.runs 4 [(8, .int .u32 (iand .u32 x1v0 1)), (9, .int .u32 (wr .u32 (0 - (iand .u32 x1v0 1)))), (10, .int .u32 (iand .u32 (wr .u32 (0 - (iand .u32 x1v0 1))) 2197175160)), (11, .int .u32 (ixor .u32 (ishr .u32 x1v0 1) (iand .u32 (wr .u32 (0 - (iand .u32 x1v0 1))) 2197175160)))] [.inRegion (opsOf (sub [1, 0, 0, 1, 1, 0, 0, 0] B49)) [7], .code (sub [1, 0, 0, 1, 1, 0, 0, 1] B49), .inBlock 1, .code (sub [1, 0, 0, 1, 1, 1] B49), .inLoop (sub [1, 0, 0] B49), .inBlock 0] (by kernel_rfl) ?_
    refine Op_.st 22 (.tmp 1) (.tmp 11) 0 1 gx0q5b0 0 (.int .u32 (ixor .u32 (ishr .u32 x1v0 1) (iand .u32 (wr .u32 (0 - (iand .u32 x1v0 1))) 2197175160))) [.int .u32 (ixor .u32 (ishr .u32 x1v0 1) (iand .u32 (wr .u32 (0 - (iand .u32 x1v0 1))) 2197175160))] p1 rfl (Goes.ss (by kernel_rfl)) (by kernel_rfl) (by kernel_rfl) (by kernel_rfl) (by kernel_rfl) (Nat.zero_le _) (by simp only [List.length_cons, List.length_nil]; omega) (by simp [Value.oneCell']) ?_
    intro w2 z2 p2
    have p2 : Hp nz wz S1 w2 ((some lx0, .obj (lpst 38 (lfr 9 [(1, .pointer (some ⟨gx0q1, 0, none⟩)), (5, .func (.func 49) #[] #[.pointer (some ⟨gx0q5b0, 0, none⟩)])] jkx0) #[6] (rfAssign (sub [1, 0, 1, 0] B38)) (rfBody (sub [1, 0, 1, 0] B38)) rx0 .ready none)) :: (some gx0q5b0, .row 22 [.int .u32 (ixor .u32 (ishr .u32 x1v0 1) (iand .u32 (wr .u32 (0 - (iand .u32 x1v0 1))) 2197175160))] 1 0) :: (some gx0q1, .row 22 [.int .u32 eE1v0] 1 0) :: Lr) := p2
    refine Goes.runs 4 [(12, yieldV lx0)] [.inRegion (opsOf (sub [1, 0, 0, 1, 1, 0, 0, 1, 0] B49)) [1, 2, 3], .code (sub [1, 0, 0, 1, 1, 0, 0, 1, 1] B49), .inBlock 1, .code (sub [1, 0, 0, 1, 1, 1] B49), .inLoop (sub [1, 0, 0] B49), .inBlock 0] (by kernel_rfl) ?_
    refine Op_.ld1 22 (.tmp 1) 13 22 ⟨gx0q5b0, 0, none⟩ (.int .u32 (ixor .u32 (ishr .u32 x1v0 1) (iand .u32 (wr .u32 (0 - (iand .u32 x1v0 1))) 2197175160))) (Goes.vs (by kernel_rfl)) (by kernel_rfl) (by kernel_rfl) ((p2.mem 1 rfl).cell 0 _ rfl) ?_
    have p2 : Hp nz wz S1 w2 ((some gx0q5b0, .row 22 [.int .u32 (ixor .u32 (ishr .u32 x1v0 1) (iand .u32 (wr .u32 (0 - (iand .u32 x1v0 1))) 2197175160))] 1 0) :: (some lx0, .obj (lpst 38 (lfr 9 [(1, .pointer (some ⟨gx0q1, 0, none⟩)), (5, .func (.func 49) #[] #[.pointer (some ⟨gx0q5b0, 0, none⟩)])] jkx0) #[6] (rfAssign (sub [1, 0, 1, 0] B38)) (rfBody (sub [1, 0, 1, 0] B38)) rx0 .ready none)) :: (some gx0q1, .row 22 [.int .u32 eE1v0] 1 0) :: Lr) := p2.front 1 _ rfl
    have p2 : Hp nz wz S1 w2 ((some gx0q1, .row 22 [.int .u32 eE1v0] 1 0) :: (some gx0q5b0, .row 22 [.int .u32 (ixor .u32 (ishr .u32 x1v0 1) (iand .u32 (wr .u32 (0 - (iand .u32 x1v0 1))) 2197175160))] 1 0) :: (some lx0, .obj (lpst 38 (lfr 9 [(1, .pointer (some ⟨gx0q1, 0, none⟩)), (5, .func (.func 49) #[] #[.pointer (some ⟨gx0q5b0, 0, none⟩)])] jkx0) #[6] (rfAssign (sub [1, 0, 1, 0] B38)) (rfBody (sub [1, 0, 1, 0] B38)) rx0 .ready none)) :: Lr) := p2.front 2 _ rfl
    have p2 : Hp nz wz S1 w2 ((some lx0, .obj (lpst 38 (lfr 9 [(1, .pointer (some ⟨gx0q1, 0, none⟩)), (5, .func (.func 49) #[] #[.pointer (some ⟨gx0q5b0, 0, none⟩)])] jkx0) #[6] (rfAssign (sub [1, 0, 1, 0] B38)) (rfBody (sub [1, 0, 1, 0] B38)) rx0 .ready none)) :: (some gx0q1, .row 22 [.int .u32 eE1v0] 1 0) :: (some gx0q5b0, .row 22 [.int .u32 (ixor .u32 (ishr .u32 x1v0 1) (iand .u32 (wr .u32 (0 - (iand .u32 x1v0 1))) 2197175160))] 1 0) :: Lr) := p2.front 2 _ rfl
    obtain ⟨y2, e3, h⟩ := bind_some h
    try dsimp only at h
    refine Goes.yieldAt (.call { callee := .value (.tmp 12), args := #[(.tmp 13)], argTypes := #[22] }) 14 4 0 lx0 #[.int .u32 (ixor .u32 (ishr .u32 x1v0 1) (iand .u32 (wr .u32 (0 - (iand .u32 x1v0 1))) 2197175160))] p2 rfl (by kernel_rfl) rfl (fun _ => by kernel_rfl) rfl (W.crc_step_r eE1v0 (ixor .u32 (ishr .u32 x1v0 1) (iand .u32 (wr .u32 (0 - (iand .u32 x1v0 1))) 2197175160)) (ixor .u32 (ishr .u32 x1v0 1) (iand .u32 (wr .u32 (0 - (iand .u32 x1v0 1))) 2197175160)) y2 e3 nz wz S1 w2 (Lr) lx0 rx0 jkx0 gx0q1 gx0q5b0 p2 ) ?_
    rintro _ w3 ⟨S3, rfl, z3, p3⟩
    have p3 : Hp nz wz S3 w3 ((some lx0, .obj (lpst 38 (lfr 9 [(1, .pointer (some ⟨gx0q1, 0, none⟩)), (5, .func (.func 49) #[] #[.pointer (some ⟨gx0q5b0, 0, none⟩)])] jkx0) #[6] (rfAssign (sub [1, 0, 1, 0] B38)) (rfBody (sub [1, 0, 1, 0] B38)) rx0 .ready none)) :: (some gx0q1, .row 22 [.int .u32 y2.1] 1 0) :: (some gx0q5b0, .row 22 [.int .u32 y2.2] 1 0) :: Lr) := p3
    refine Goes.runs 10 [(15, .bool (!true)), (16, .int .i64 (wr .i64 (x3 + 1))), (3, .int .i64 (wr .i64 (x3 + 1)))] [.code (sub [1, 0, 0] B49), .inLoop (sub [1, 0, 0] B49), .inBlock 0] (by kernel_rfl) ?_
    have p3 : Hp nz wz S3 w3 ((some gx0q1, .row 22 [.int .u32 y2.1] 1 0) :: (some lx0, .obj (lpst 38 (lfr 9 [(1, .pointer (some ⟨gx0q1, 0, none⟩)), (5, .func (.func 49) #[] #[.pointer (some ⟨gx0q5b0, 0, none⟩)])] jkx0) #[6] (rfAssign (sub [1, 0, 1, 0] B38)) (rfBody (sub [1, 0, 1, 0] B38)) rx0 .ready none)) :: (some gx0q5b0, .row 22 [.int .u32 y2.2] 1 0) :: Lr) := p3.front 1 _ rfl
    have p3 : Hp nz wz S3 w3 ((some gx0q5b0, .row 22 [.int .u32 y2.2] 1 0) :: (some gx0q1, .row 22 [.int .u32 y2.1] 1 0) :: (some lx0, .obj (lpst 38 (lfr 9 [(1, .pointer (some ⟨gx0q1, 0, none⟩)), (5, .func (.func 49) #[] #[.pointer (some ⟨gx0q5b0, 0, none⟩)])] jkx0) #[6] (rfAssign (sub [1, 0, 1, 0] B38)) (rfBody (sub [1, 0, 1, 0] B38)) rx0 .ready none)) :: Lr) := p3.front 2 _ rfl
    have p3 : Hp nz wz S3 w3 ((some lx0, .obj (lpst 38 (lfr 9 [(1, .pointer (some ⟨gx0q1, 0, none⟩)), (5, .func (.func 49) #[] #[.pointer (some ⟨gx0q5b0, 0, none⟩)])] jkx0) #[6] (rfAssign (sub [1, 0, 1, 0] B38)) (rfBody (sub [1, 0, 1, 0] B38)) rx0 .ready none)) :: (some gx0q5b0, .row 22 [.int .u32 y2.2] 1 0) :: (some gx0q1, .row 22 [.int .u32 y2.1] 1 0) :: Lr) := p3.front 2 _ rfl
    exact Goes.jump 17 [(0, yieldV lx0), (1, .pointer (some ⟨gx0q5b0, 0, none⟩)), (3, .int .i64 (wr .i64 (x3 + 1)))] (by kernel_rfl) (ih_crc_bits_1_l0 _ _ h _ _ ((hx.trans z2).trans z3) p3)
  · rw [if_neg h1] at h
    rw [decide_eq_false h1]
    refine Goes.runs 2 [] [] (by kernel_rfl) ?_
    have p1 : Hp nz wz S1 w1 ((some gx0q5b0, .row 22 [.int .u32 x1v0] 1 0) :: (some lx0, .obj (lpst 38 (lfr 9 [(1, .pointer (some ⟨gx0q1, 0, none⟩)), (5, .func (.func 49) #[] #[.pointer (some ⟨gx0q5b0, 0, none⟩)])] jkx0) #[6] (rfAssign (sub [1, 0, 1, 0] B38)) (rfBody (sub [1, 0, 1, 0] B38)) rx0 .ready none)) :: (some gx0q1, .row 22 [.int .u32 eE1v0] 1 0) :: Lr) := p1.front 1 _ rfl
    have p1 : Hp nz wz S1 w1 ((some gx0q1, .row 22 [.int .u32 eE1v0] 1 0) :: (some gx0q5b0, .row 22 [.int .u32 x1v0] 1 0) :: (some lx0, .obj (lpst 38 (lfr 9 [(1, .pointer (some ⟨gx0q1, 0, none⟩)), (5, .func (.func 49) #[] #[.pointer (some ⟨gx0q5b0, 0, none⟩)])] jkx0) #[6] (rfAssign (sub [1, 0, 1, 0] B38)) (rfBody (sub [1, 0, 1, 0] B38)) rx0 .ready none)) :: Lr) := p1.front 2 _ rfl
    have p1 : Hp nz wz S1 w1 ((some lx0, .obj (lpst 38 (lfr 9 [(1, .pointer (some ⟨gx0q1, 0, none⟩)), (5, .func (.func 49) #[] #[.pointer (some ⟨gx0q5b0, 0, none⟩)])] jkx0) #[6] (rfAssign (sub [1, 0, 1, 0] B38)) (rfBody (sub [1, 0, 1, 0] B38)) rx0 .ready none)) :: (some gx0q1, .row 22 [.int .u32 eE1v0] 1 0) :: (some gx0q5b0, .row 22 [.int .u32 x1v0] 1 0) :: Lr) := p1.front 2 _ rfl
    obtain rfl := Option.some.inj h
    exact Goes.end_ (fn := Try.f49) (by kernel_rfl) (v := .tuple #[]) (by kernel_rfl) ⟨S1, rfl, hx, p1⟩

theorem W.crc_bits_1 (x0q1v0 : Int) (x0q5b0v0 : Int) (r : Int × Int) (h : M.crc_bits_1 x0q1v0 x0q5b0v0 = some r) (nz : Nat) (wz : World) (S0 : Fz) (w0 : World) (Lr : List Ent) (lx0 : Nat) (rx0 : Nat) (jkx0 : Nat → Value) (gx0q1 : Nat) (gx0q5b0 : Nat) (p0 : Hp nz wz S0 w0 ((some lx0, .obj (lpst 38 (lfr 9 [(1, .pointer (some ⟨gx0q1, 0, none⟩)), (5, .func (.func 49) #[] #[.pointer (some ⟨gx0q5b0, 0, none⟩)])] jkx0) #[6] (rfAssign (sub [1, 0, 1, 0] B38)) (rfBody (sub [1, 0, 1, 0] B38)) rx0 .ready none)) :: (some gx0q1, .row 22 [.int .u32 x0q1v0] 1 0) :: (some gx0q5b0, .row 22 [.int .u32 x0q5b0v0] 1 0) :: Lr)) :
    Calls Try.prog 49 #[yieldV lx0, .pointer (some ⟨gx0q5b0, 0, none⟩)] w0 (Rets (Post.crc_bits_1 nz wz S0 w0 Lr lx0 rx0 jkx0 gx0q1 gx0q5b0 r)) := by
  refine calls_of_goes (fn := Try.f49) (c := B49) (by kernel_rfl) (by kernel_rfl) 15 (by kernel_rfl) ?_
  refine Goes.jump 17 [(0, yieldV lx0), (1, .pointer (some ⟨gx0q5b0, 0, none⟩))] (by kernel_rfl) (fun junk => ?_)
  rw [M.crc_bits_1] at h
  try dsimp only at h
  refine Goes.runs 6 [(3, .int .i64 0)] [.code (sub [1, 0, 0] B49), .inLoop (sub [1, 0, 0] B49), .inBlock 0] (by kernel_rfl) ?_
  have p0 : Hp nz wz S0 w0 ((some gx0q1, .row 22 [.int .u32 x0q1v0] 1 0) :: (some lx0, .obj (lpst 38 (lfr 9 [(1, .pointer (some ⟨gx0q1, 0, none⟩)), (5, .func (.func 49) #[] #[.pointer (some ⟨gx0q5b0, 0, none⟩)])] jkx0) #[6] (rfAssign (sub [1, 0, 1, 0] B38)) (rfBody (sub [1, 0, 1, 0] B38)) rx0 .ready none)) :: (some gx0q5b0, .row 22 [.int .u32 x0q5b0v0] 1 0) :: Lr) := p0.front 1 _ rfl
  have p0 : Hp nz wz S0 w0 ((some gx0q5b0, .row 22 [.int .u32 x0q5b0v0] 1 0) :: (some gx0q1, .row 22 [.int .u32 x0q1v0] 1 0) :: (some lx0, .obj (lpst 38 (lfr 9 [(1, .pointer (some ⟨gx0q1, 0, none⟩)), (5, .func (.func 49) #[] #[.pointer (some ⟨gx0q5b0, 0, none⟩)])] jkx0) #[6] (rfAssign (sub [1, 0, 1, 0] B38)) (rfBody (sub [1, 0, 1, 0] B38)) rx0 .ready none)) :: Lr) := p0.front 2 _ rfl
  have p0 : Hp nz wz S0 w0 ((some lx0, .obj (lpst 38 (lfr 9 [(1, .pointer (some ⟨gx0q1, 0, none⟩)), (5, .func (.func 49) #[] #[.pointer (some ⟨gx0q5b0, 0, none⟩)])] jkx0) #[6] (rfAssign (sub [1, 0, 1, 0] B38)) (rfBody (sub [1, 0, 1, 0] B38)) rx0 .ready none)) :: (some gx0q5b0, .row 22 [.int .u32 x0q5b0v0] 1 0) :: (some gx0q1, .row 22 [.int .u32 x0q1v0] 1 0) :: Lr) := p0.front 2 _ rfl
  exact Goes.jump 17 [(0, yieldV lx0), (1, .pointer (some ⟨gx0q5b0, 0, none⟩)), (3, .int .i64 0)] (by kernel_rfl) (W.crc_bits_1_l0 nz wz S0 w0 Lr lx0 rx0 jkx0 gx0q1 gx0q5b0 _ _ h _ _ (Ext.refl S0 w0) p0)

/-! tidepole/crc.step -/
def Post.crc_step (nz : Nat) (wz : World) (S0 : Fz) (w0 : World) (Lr : List Ent) (r : Int) (v : Value) (w' : World) : Prop :=
  ∃ (S' : Fz) , v = .int .u32 r ∧ Ext S0 w0 S' w' ∧ Hp nz wz S' w' (Lr)

theorem W.crc_step (x0 : Int) (r : Int) (h : M.crc_step x0 = some r) (nz : Nat) (wz : World) (S0 : Fz) (w0 : World) (Lr : List Ent) (p0 : Hp nz wz S0 w0 (Lr)) :
    Calls Try.prog 38 #[.int .u32 x0] w0 (Rets (Post.crc_step nz wz S0 w0 Lr r)) := by
  refine calls_of_goes (fn := Try.f38) (c := B38) (by kernel_rfl) (by kernel_rfl) 8 (by kernel_rfl) ?_
  refine Goes.jump 9 [(0, .int .u32 x0)] (by kernel_rfl) (fun junk => ?_)
  rw [M.crc_step] at h
  try dsimp only at h
  refine Goes.runs 2 [] [.inRegion (opsOf (sub [0] B38)) [0, 1], .code (sub [1] B38)] (by kernel_rfl) ?_
  refine Op_.box 22 (.tmp 0) 1 0 (.int .u32 x0) [.int .u32 x0] p0 (Goes.vs (by kernel_rfl)) (by kernel_rfl) (by kernel_rfl) ?_
  intro b1 w2 z2 p2
  have p2 : Hp nz wz S0 w2 ((some b1, .row 22 [.int .u32 x0] 1 0) :: Lr) := p2
  refine Goes.runs 5 [(2, .int .u32 0)] [.inRegion (opsOf (sub [1, 0, 0] B38)) [0, 1], .code (sub [1, 0, 1] B38), .code (sub [1, 1] B38)] (by kernel_rfl) ?_
  refine Op_.ld1 22 (.tmp 1) 4 22 ⟨b1, 0, none⟩ (.int .u32 x0) (Goes.vs (by kernel_rfl)) (by kernel_rfl) (by kernel_rfl) ((p2.mem 0 rfl).cell 0 _ rfl) ?_
  obtain ⟨y3, e4, h⟩ := bind_some h
  try dsimp only at h
  refine Op_.call (.call { callee := .value (.func 45), args := #[(.tmp 4)], argTypes := #[22] }) 5 75 45 #[.int .u32 x0] (Goes.cs (by kernel_rfl)) (by kernel_rfl) (W.crc_bits x0 y3 e4 nz wz S0 w2 ((some b1, .row 22 [.int .u32 x0] 1 0) :: Lr)  p2 ) ?_
  rintro _ w3 ⟨S3, b6, rfl, z3, p3⟩
  have p3 : Hp nz wz S3 w3 ((some b6, .row 22 [.int .u32 y3] 1 0) :: (some b1, .row 22 [.int .u32 x0] 1 0) :: Lr) := p3
  refine Goes.runs 2 [] [.code (sub [1, 0, 1, 0] B38), .inBlock 0, .code (sub [1, 1] B38)] (by kernel_rfl) ?_
  refine Goes.jump 9 [(1, .pointer (some ⟨b1, 0, none⟩)), (5, .func (.func 49) #[] #[.pointer (some ⟨b6, 0, none⟩)])] (by kernel_rfl) (fun junk7 => ?_)
  refine Goes.rangeF (f := 38) (.tmp 5) #[6] 49 #[] #[.pointer (some ⟨b6, 0, none⟩)] (by kernel_rfl) (by kernel_rfl) (fun _ => by kernel_rfl) p3 ?_
  intro r8 l9 w4 z4 p4
  have p4 : Hp nz wz S3 w4 ((some l9, .obj (lpst 38 (lfr 9 [(1, .pointer (some ⟨b1, 0, none⟩)), (5, .func (.func 49) #[] #[.pointer (some ⟨b6, 0, none⟩)])] junk7) #[6] (rfAssign (sub [1, 0, 1, 0] B38)) (rfBody (sub [1, 0, 1, 0] B38)) r8 .ready none)) :: (some r8, .obj (.deferred (some []))) :: (some b6, .row 22 [.int .u32 y3] 1 0) :: (some b1, .row 22 [.int .u32 x0] 1 0) :: Lr) := p4
  have p4 : Hp nz wz S3 w4 ((some b6, .row 22 [.int .u32 y3] 1 0) :: (some l9, .obj (lpst 38 (lfr 9 [(1, .pointer (some ⟨b1, 0, none⟩)), (5, .func (.func 49) #[] #[.pointer (some ⟨b6, 0, none⟩)])] junk7) #[6] (rfAssign (sub [1, 0, 1, 0] B38)) (rfBody (sub [1, 0, 1, 0] B38)) r8 .ready none)) :: (some r8, .obj (.deferred (some []))) :: (some b1, .row 22 [.int .u32 x0] 1 0) :: Lr) := p4.front 2 _ rfl
  have p4 : Hp nz wz S3 w4 ((some b1, .row 22 [.int .u32 x0] 1 0) :: (some b6, .row 22 [.int .u32 y3] 1 0) :: (some l9, .obj (lpst 38 (lfr 9 [(1, .pointer (some ⟨b1, 0, none⟩)), (5, .func (.func 49) #[] #[.pointer (some ⟨b6, 0, none⟩)])] junk7) #[6] (rfAssign (sub [1, 0, 1, 0] B38)) (rfBody (sub [1, 0, 1, 0] B38)) r8 .ready none)) :: (some r8, .obj (.deferred (some []))) :: Lr) := p4.front 3 _ rfl
  have p4 : Hp nz wz S3 w4 ((some l9, .obj (lpst 38 (lfr 9 [(1, .pointer (some ⟨b1, 0, none⟩)), (5, .func (.func 49) #[] #[.pointer (some ⟨b6, 0, none⟩)])] junk7) #[6] (rfAssign (sub [1, 0, 1, 0] B38)) (rfBody (sub [1, 0, 1, 0] B38)) r8 .ready none)) :: (some b1, .row 22 [.int .u32 x0] 1 0) :: (some b6, .row 22 [.int .u32 y3] 1 0) :: (some r8, .obj (.deferred (some []))) :: Lr) := p4.front 2 _ rfl
  obtain ⟨y12, e13, h⟩ := bind_some h
  try dsimp only at h
  refine ⟨_, W.crc_bits_1 x0 y3 y12 e13 nz wz S3 w4 ((some r8, .obj (.deferred (some []))) :: Lr) l9 r8 junk7 b1 b6 p4 , ?_⟩
  rintro _ w5 ⟨S5, rfl, z5, p5⟩
  have p5 : Hp nz wz S5 w5 ((some l9, .obj (lpst 38 (lfr 9 [(1, .pointer (some ⟨b1, 0, none⟩)), (5, .func (.func 49) #[] #[.pointer (some ⟨b6, 0, none⟩)])] junk7) #[6] (rfAssign (sub [1, 0, 1, 0] B38)) (rfBody (sub [1, 0, 1, 0] B38)) r8 .ready none)) :: (some b1, .row 22 [.int .u32 y12.1] 1 0) :: (some b6, .row 22 [.int .u32 y12.2] 1 0) :: (some r8, .obj (.deferred (some []))) :: Lr) := p5
  refine Goes.endF 0 p5 rfl rfl ?_
  intro w6 z6 p6
  replace p6 : Hp nz wz S5 w6 ((some b1, .row 22 [.int .u32 y12.1] 1 0) :: (some b6, .row 22 [.int .u32 y12.2] 1 0) :: (some r8, .obj (.deferred (some []))) :: Lr) := (p6.front 0 _ rfl).drop
  show Goes _ _ [.inBlock 0, .code (sub [1, 1] B38)] _ _ _
  refine Goes.runs 3 [] [.inRegion (opsOf (sub [1, 1, 0] B38)) [0, 1], .code (sub [1, 1, 1] B38)] (by kernel_rfl) ?_
  refine Op_.ld1 22 (.tmp 1) 8 22 ⟨b1, 0, none⟩ (.int .u32 y12.1) (Goes.vs (by kernel_rfl)) (by kernel_rfl) (by kernel_rfl) ((p6.mem 0 rfl).cell 0 _ rfl) ?_
  refine Goes.runs 2 [(2, .int .u32 y12.1)] [.code (sub [1, 1, 1] B38)] (by kernel_rfl) ?_
  have p6 : Hp nz wz S5 w6 ((some b6, .row 22 [.int .u32 y12.2] 1 0) :: (some r8, .obj (.deferred (some []))) :: Lr) := (p6.front 0 _ rfl).drop
  have p6 : Hp nz wz S5 w6 ((some r8, .obj (.deferred (some []))) :: Lr) := (p6.front 0 _ rfl).drop
  obtain rfl := Option.some.inj h
  refine Goes.retL ?_
  refine lvs_mark 0 rfl rfl p6 rfl ?_
  intro w7 z7 p7
  replace p7 : Hp nz wz S5 w7 (Lr) := p7.drop
  exact lvs_done (fn := Try.f38) rfl rfl rfl rfl (by kernel_rfl) (v := .int .u32 y12.1) (by kernel_rfl) ⟨S5, rfl, (((((((Ext.refl S0 w0).trans z2).trans z3).trans z4).trans z5).trans z6).trans z7), p7⟩

/-! tidepole/crc.More -/
def Post.crc_More (nz : Nat) (wz : World) (S0 : Fz) (w0 : World) (Lr : List Ent) (r : Int) (v : Value) (w' : World) : Prop :=
  ∃ (S' : Fz) , v = .int .u32 r ∧ Ext S0 w0 S' w' ∧ Hp nz wz S' w' (Lr)

def L.crc_More_l0 (nz : Nat) (wz : World) (S0 : Fz) (w0 : World) (Lr : List Ent) : Int × List Int × Int × Int → Int → Prop := fun ⟨x5, x10, x11, x12⟩ r => ∀ S1 w1, Ext S0 w0 S1 w1 → ∀ (Ax10 : Option Addr) (cx10 : Nat) (_ : Hp nz wz S1 w1 (Lr)) (_ : Rd (kInt .u8) S1 w1 Ax10 cx10 x10) (junk : Nat → Value),
  Goes Try.prog (base 15) [.code (sub [1, 1, 0, 1, 0, 0] B15), .inLoop (sub [1, 1, 0, 1, 0, 0] B15), .inBlock 0, .code (sub [1, 1, 1] B15)] ⟨lfr 24 [(5, .int .u32 x5), (10, .slice Ax10 x10.length cx10), (11, .int .i64 x11), (12, .int .i64 x12)] junk, []⟩ w1 (Done Try.prog 15 (Rets (Post.crc_More nz wz S0 w0 Lr r)))

theorem W.crc_More_l0 (nz : Nat) (wz : World) (S0 : Fz) (w0 : World) (Lr : List Ent) : ∀ a r, M.crc_More_l0 a = some r → L.crc_More_l0 nz wz S0 w0 Lr a r := by
  refine M.crc_More_l0.partial_correctness (motive := L.crc_More_l0 nz wz S0 w0 Lr) ?_
  intro rec_crc_More_l0 ih_crc_More_l0 ⟨x5, x10, x11, x12⟩ r h S1 w1 hx Ax10 cx10 p1 fx10 junk
  dsimp only at h
  refine Goes.runs 5 [(13, .bool (decide (x12 < x11)))] [.code (sub [1, 1, 0, 1, 0, 0, 1, 0] B15), .code (sub [1, 1, 0, 1, 0, 0, 1, 1] B15), .inLoop (sub [1, 1, 0, 1, 0, 0] B15), .inBlock 0, .code (sub [1, 1, 1] B15)] (by kernel_rfl) ?_
  by_cases h1 : x12 < x11
  · rw [if_pos h1] at h
    rw [decide_eq_true h1]
    refine Goes.runs 6 [] [.inRegion (opsOf (sub [1, 1, 0, 1, 0, 0, 1, 1, 0, 0, 0] B15)) [0, 1, 2], .code (sub [1, 1, 0, 1, 0, 0, 1, 1, 0, 0, 1] B15), .inBlock 1, .code (sub [1, 1, 0, 1, 0, 0, 1, 1, 1] B15), .inLoop (sub [1, 1, 0, 1, 0, 0] B15), .inBlock 0, .code (sub [1, 1, 1] B15)] (by kernel_rfl) ?_
    obtain ⟨g2, h⟩ := guard_some h
    obtain ⟨g3, h⟩ := guard_some h
    refine Op_.ixR 23 (.tmp 10) (.tmp 12) 14 0 5 .i64 x12 fx10 (Goes.vs (by kernel_rfl)) (by kernel_rfl) (by kernel_rfl) (by kernel_rfl) (by kernel_rfl) g2 g3 ?_
    rintro a4 _ f5 rfl
    refine Op_.ld1 5 (.tmp 14) 15 5 a4 (.int .u8 (gi x10 x12)) (Goes.vs (by kernel_rfl)) (by kernel_rfl) (by kernel_rfl) (f5.cell 0 _ rfl) ?_
    refine Goes.runs 7 [(7, .int .u8 (gi x10 x12)), (16, .int .u32 x5), (17, .int .u8 (gi x10 x12)), (18, .int .u32 (wr .u32 (gi x10 x12))), (19, .int .u32 (ixor .u32 x5 (wr .u32 (gi x10 x12))))] [.inRegion (opsOf (sub [1, 1, 0, 1, 0, 0, 1, 1, 0, 0, 1] B15)) [4, 5], .inBlock 1, .code (sub [1, 1, 0, 1, 0, 0, 1, 1, 1] B15), .inLoop (sub [1, 1, 0, 1, 0, 0] B15), .inBlock 0, .code (sub [1, 1, 1] B15)] (by kernel_rfl) ?_
    obtain ⟨y6, e7, h⟩ := bind_some h
    try dsimp only at h
    refine Op_.call (.call { callee := .value (.func 38), args := #[(.tmp 19)], argTypes := #[22] }) 20 22 38 #[.int .u32 (ixor .u32 x5 (wr .u32 (gi x10 x12)))] (Goes.cs (by kernel_rfl)) (by kernel_rfl) (W.crc_step (ixor .u32 x5 (wr .u32 (gi x10 x12))) y6 e7 nz wz S1 w1 (Lr)  p1 ) ?_
    rintro _ w2 ⟨S2, rfl, z2, p2⟩
    have p2 : Hp nz wz S2 w2 (Lr) := p2
    refine Goes.runs 8 [(5, .int .u32 y6), (21, .int .i64 (wr .i64 (x12 + 1))), (12, .int .i64 (wr .i64 (x12 + 1)))] [.code (sub [1, 1, 0, 1, 0, 0] B15), .inLoop (sub [1, 1, 0, 1, 0, 0] B15), .inBlock 0, .code (sub [1, 1, 1] B15)] (by kernel_rfl) ?_
    exact Goes.jump 24 [(5, .int .u32 y6), (10, .slice Ax10 x10.length cx10), (11, .int .i64 x11), (12, .int .i64 (wr .i64 (x12 + 1)))] (by kernel_rfl) (ih_crc_More_l0 _ _ h _ _ (hx.trans z2) Ax10 cx10 p2 (fx10.ext z2))
  · rw [if_neg h1] at h
    rw [decide_eq_false h1]
    refine Goes.runs 8 [(22, .int .u32 x5), (23, .int .u32 (ixor .u32 4294967295 x5)), (4, .int .u32 (ixor .u32 4294967295 x5))] [.code (sub [1, 1, 1, 1] B15)] (by kernel_rfl) ?_
    obtain rfl := Option.some.inj h
    exact Goes.ret (fn := Try.f15) (by kernel_rfl) (v := .int .u32 (ixor .u32 4294967295 x5)) (by kernel_rfl) ⟨S1, rfl, hx, p1⟩

theorem W.crc_More (x0 : Int) (x1 : List Int) (r : Int) (h : M.crc_More x0 x1 = some r) (nz : Nat) (wz : World) (S0 : Fz) (w0 : World) (Lr : List Ent) (Ax1 : Option Addr) (cx1 : Nat) (p0 : Hp nz wz S0 w0 (Lr)) (fx1 : Rd (kInt .u8) S0 w0 Ax1 cx1 x1) :
    Calls Try.prog 15 #[.int .u32 x0, .slice Ax1 x1.length cx1] w0 (Rets (Post.crc_More nz wz S0 w0 Lr r)) := by
  refine calls_of_goes (fn := Try.f15) (c := B15) (by kernel_rfl) (by kernel_rfl) 22 (by kernel_rfl) ?_
  refine Goes.jump 24 [(0, .int .u32 x0), (1, .slice Ax1 x1.length cx1)] (by kernel_rfl) (fun junk => ?_)
  rw [M.crc_More] at h
  try dsimp only at h
  refine Goes.runs 19 [(4, .int .u32 0), (8, .int .u32 x0), (9, .int .u32 (ixor .u32 4294967295 x0)), (5, .int .u32 (ixor .u32 4294967295 x0)), (10, .slice Ax1 x1.length cx1), (11, .int .i64 (x1.length : Int)), (12, .int .i64 0)] [.code (sub [1, 1, 0, 1, 0, 0] B15), .inLoop (sub [1, 1, 0, 1, 0, 0] B15), .inBlock 0, .code (sub [1, 1, 1] B15)] (by kernel_rfl) ?_
  exact Goes.jump 24 [(5, .int .u32 (ixor .u32 4294967295 x0)), (10, .slice Ax1 x1.length cx1), (11, .int .i64 (x1.length : Int)), (12, .int .i64 0)] (by kernel_rfl) (W.crc_More_l0 nz wz S0 w0 Lr _ _ h _ _ (Ext.refl S0 w0) Ax1 cx1 p0 fx1)

/-! tidepole/crc.Sum -/
def Post.crc_Sum (nz : Nat) (wz : World) (S0 : Fz) (w0 : World) (Lr : List Ent) (r : Int) (v : Value) (w' : World) : Prop :=
  ∃ (S' : Fz) , v = .int .u32 r ∧ Ext S0 w0 S' w' ∧ Hp nz wz S' w' (Lr)

theorem W.crc_Sum (x0 : List Int) (r : Int) (h : M.crc_Sum x0 = some r) (nz : Nat) (wz : World) (S0 : Fz) (w0 : World) (Lr : List Ent) (Ax0 : Option Addr) (cx0 : Nat) (p0 : Hp nz wz S0 w0 (Lr)) (fx0 : Rd (kInt .u8) S0 w0 Ax0 cx0 x0) :
    Calls Try.prog 13 #[.slice Ax0 x0.length cx0] w0 (Rets (Post.crc_Sum nz wz S0 w0 Lr r)) := by
  refine calls_of_goes (fn := Try.f13) (c := B13) (by kernel_rfl) (by kernel_rfl) 4 (by kernel_rfl) ?_
  refine Goes.jump 5 [(0, .slice Ax0 x0.length cx0)] (by kernel_rfl) (fun junk => ?_)
  rw [M.crc_Sum] at h
  try dsimp only at h
  refine Goes.runs 7 [(2, .int .u32 0), (3, .slice Ax0 x0.length cx0)] [.inRegion (opsOf (sub [1, 0] B13)) [1, 2], .code (sub [1, 1] B13)] (by kernel_rfl) ?_
  obtain ⟨y1, e2, h⟩ := bind_some h
  try dsimp only at h
  refine Op_.call (.call { callee := .value (.func 15), args := #[(.const (.int .u32 0)), (.tmp 3)], argTypes := #[22, 23] }) 4 22 15 #[.int .u32 0, .slice Ax0 x0.length cx0] (Goes.cs (by kernel_rfl)) (by kernel_rfl) (W.crc_More 0 x0 y1 e2 nz wz S0 w0 (Lr) Ax0 cx0 p0 fx0) ?_
  rintro _ w2 ⟨S2, rfl, z2, p2⟩
  have p2 : Hp nz wz S2 w2 (Lr) := p2
  refine Goes.runs 2 [(2, .int .u32 y1)] [.code (sub [1, 1] B13)] (by kernel_rfl) ?_
  obtain rfl := Option.some.inj h
  exact Goes.ret (fn := Try.f13) (by kernel_rfl) (v := .int .u32 y1) (by kernel_rfl) ⟨S2, rfl, ((Ext.refl S0 w0).trans z2), p2⟩

/-! tidepole/tidepoleref02.step -/
def Post.tidepoleref02_step (nz : Nat) (wz : World) (S0 : Fz) (w0 : World) (Lr : List Ent) (r : Int) (v : Value) (w' : World) : Prop :=
  ∃ (S' : Fz) , v = .int .u32 r ∧ Ext S0 w0 S' w' ∧ Hp nz wz S' w' (Lr)

def L.tidepoleref02_step_l0 (nz : Nat) (wz : World) (S0 : Fz) (w0 : World) (Lr : List Ent) : Int × Int → Int → Prop := fun ⟨x0, x3⟩ r => ∀ S1 w1, Ext S0 w0 S1 w1 → ∀ (_ : Hp nz wz S1 w1 (Lr)) (junk : Nat → Value),
  Goes Try.prog (base 39) [.code (sub [1, 0, 1, 0, 0] B39), .inLoop (sub [1, 0, 1, 0, 0] B39), .inBlock 0, .code (sub [1, 1] B39)] ⟨lfr 17 [(0, .int .u32 x0), (3, .int .i64 x3)] junk, []⟩ w1 (Done Try.prog 39 (Rets (Post.tidepoleref02_step nz wz S0 w0 Lr r)))

def L.tidepoleref02_step_l1 (nz : Nat) (wz : World) (S0 : Fz) (w0 : World) (Lr : List Ent) : Int × Int → Int → Prop := fun ⟨x0, x3⟩ r => ∀ S1 w1, Ext S0 w0 S1 w1 → ∀ (_ : Hp nz wz S1 w1 (Lr)) (junk : Nat → Value),
  Goes Try.prog (base 39) [.inBlock 1, .code (sub [1, 0, 1, 0, 0, 1, 1] B39), .inLoop (sub [1, 0, 1, 0, 0] B39), .inBlock 0, .code (sub [1, 1] B39)] ⟨lfr 17 [(0, .int .u32 x0), (3, .int .i64 x3)] junk, []⟩ w1 (Done Try.prog 39 (Rets (Post.tidepoleref02_step nz wz S0 w0 Lr r)))

theorem W.tidepoleref02_step_l0_all (nz : Nat) (wz : World) (S0 : Fz) (w0 : World) (Lr : List Ent) : (∀ a r, M.tidepoleref02_step_l0 a = some r → L.tidepoleref02_step_l0 nz wz S0 w0 Lr a r) ∧ (∀ a r, M.tidepoleref02_step_l1 a = some r → L.tidepoleref02_step_l1 nz wz S0 w0 Lr a r) := by
  refine M.tidepoleref02_step_l0.mutual_partial_correctness (L.tidepoleref02_step_l0 nz wz S0 w0 Lr) (L.tidepoleref02_step_l1 nz wz S0 w0 Lr) ?_ ?_
  · intro rec_tidepoleref02_step_l1 ih_tidepoleref02_step_l1 ⟨x0, x3⟩ r h S1 w1 hx p1 junk
    dsimp only at h
    refine Goes.runs 6 [(4, .int .i64 x3), (5, .bool (decide (x3 < 8)))] [.code (sub [1, 0, 1, 0, 0, 0, 1] B39), .code (sub [1, 0, 1, 0, 0, 1] B39), .inLoop (sub [1, 0, 1, 0, 0] B39), .inBlock 0, .code (sub [1, 1] B39)] (by kernel_rfl) ?_
    by_cases h1 : x3 < 8
    · rw [if_pos h1] at h
      rw [decide_eq_true h1]
      refine Goes.runs 10 [(8, .int .u32 x0), (9, .int .u32 (irem .u32 x0 2)), (10, .bool (decide (irem .u32 x0 2 = 1)))] [.code (sub [1, 0, 1, 0, 0, 1, 0, 0, 1] B39), .inBlock 1, .code (sub [1, 0, 1, 0, 0, 1, 1] B39), .inLoop (sub [1, 0, 1, 0, 0] B39), .inBlock 0, .code (sub [1, 1] B39)] (by kernel_rfl) ?_
      by_cases h2 : irem .u32 x0 2 = 1
      · rw [if_pos h2] at h
        rw [decide_eq_true h2]
        refine Goes.runs 7 [(11, .int .u32 x0), (12, .int .u32 (iquo .u32 x0 2)), (13, .int .u32 (ixor .u32 (iquo .u32 x0 2) 2197175160)), (0, .int .u32 (ixor .u32 (iquo .u32 x0 2) 2197175160))] [.inBlock 1, .code (sub [1, 0, 1, 0, 0, 1, 1] B39), .inLoop (sub [1, 0, 1, 0, 0] B39), .inBlock 0, .code (sub [1, 1] B39)] (by kernel_rfl) ?_
        exact Goes.jump 17 [(0, .int .u32 (ixor .u32 (iquo .u32 x0 2) 2197175160)), (3, .int .i64 x3)] (by kernel_rfl) (ih_tidepoleref02_step_l1 _ _ h _ _ hx p1)
      · rw [if_neg h2] at h
        rw [decide_eq_false h2]
        refine Goes.runs 6 [(14, .int .u32 x0), (15, .int .u32 (iquo .u32 x0 2)), (0, .int .u32 (iquo .u32 x0 2))] [.inBlock 1, .code (sub [1, 0, 1, 0, 0, 1, 1] B39), .inLoop (sub [1, 0, 1, 0, 0] B39), .inBlock 0, .code (sub [1, 1] B39)] (by kernel_rfl) ?_
        exact Goes.jump 17 [(0, .int .u32 (iquo .u32 x0 2)), (3, .int .i64 x3)] (by kernel_rfl) (ih_tidepoleref02_step_l1 _ _ h _ _ hx p1)
    · rw [if_neg h1] at h
      rw [decide_eq_false h1]
      refine Goes.runs 7 [(16, .int .u32 x0), (2, .int .u32 x0)] [.code (sub [1, 1, 1] B39)] (by kernel_rfl) ?_
      obtain rfl := Option.some.inj h
      exact Goes.ret (fn := Try.f39) (by kernel_rfl) (v := .int .u32 x0) (by kernel_rfl) ⟨S1, rfl, hx, p1⟩
  · intro rec_tidepoleref02_step_l0 ih_tidepoleref02_step_l0 ⟨x0, x3⟩ r h S1 w1 hx p1 junk
    dsimp only at h
    refine Goes.runs 7 [(6, .int .i64 x3), (7, .int .i64 (wr .i64 (x3 + 1))), (3, .int .i64 (wr .i64 (x3 + 1)))] [.code (sub [1, 0, 1, 0, 0] B39), .inLoop (sub [1, 0, 1, 0, 0] B39), .inBlock 0, .code (sub [1, 1] B39)] (by kernel_rfl) ?_
    exact Goes.jump 17 [(0, .int .u32 x0), (3, .int .i64 (wr .i64 (x3 + 1)))] (by kernel_rfl) (ih_tidepoleref02_step_l0 _ _ h _ _ hx p1)

theorem W.tidepoleref02_step_l0 (nz : Nat) (wz : World) (S0 : Fz) (w0 : World) (Lr : List Ent) : ∀ a r, M.tidepoleref02_step_l0 a = some r → L.tidepoleref02_step_l0 nz wz S0 w0 Lr a r := (W.tidepoleref02_step_l0_all nz wz S0 w0 Lr).1

theorem W.tidepoleref02_step_l1 (nz : Nat) (wz : World) (S0 : Fz) (w0 : World) (Lr : List Ent) : ∀ a r, M.tidepoleref02_step_l1 a = some r → L.tidepoleref02_step_l1 nz wz S0 w0 Lr a r := (W.tidepoleref02_step_l0_all nz wz S0 w0 Lr).2

theorem W.tidepoleref02_step (x0 : Int) (r : Int) (h : M.tidepoleref02_step x0 = some r) (nz : Nat) (wz : World) (S0 : Fz) (w0 : World) (Lr : List Ent) (p0 : Hp nz wz S0 w0 (Lr)) :
    Calls Try.prog 39 #[.int .u32 x0] w0 (Rets (Post.tidepoleref02_step nz wz S0 w0 Lr r)) := by
  refine calls_of_goes (fn := Try.f39) (c := B39) (by kernel_rfl) (by kernel_rfl) 16 (by kernel_rfl) ?_
  refine Goes.jump 17 [(0, .int .u32 x0)] (by kernel_rfl) (fun junk => ?_)
  rw [M.tidepoleref02_step] at h
  try dsimp only at h
  refine Goes.runs 11 [(2, .int .u32 0), (3, .int .i64 0)] [.code (sub [1, 0, 1, 0, 0] B39), .inLoop (sub [1, 0, 1, 0, 0] B39), .inBlock 0, .code (sub [1, 1] B39)] (by kernel_rfl) ?_
  exact Goes.jump 17 [(0, .int .u32 x0), (3, .int .i64 0)] (by kernel_rfl) (W.tidepoleref02_step_l0 nz wz S0 w0 Lr _ _ h _ _ (Ext.refl S0 w0) p0)

/-! tidepole/tidepoleref02.More -/
def Post.tidepoleref02_More (nz : Nat) (wz : World) (S0 : Fz) (w0 : World) (Lr : List Ent) (r : Int) (v : Value) (w' : World) : Prop :=
  ∃ (S' : Fz) , v = .int .u32 r ∧ Ext S0 w0 S' w' ∧ Hp nz wz S' w' (Lr)

def L.tidepoleref02_More_l0 (nz : Nat) (wz : World) (S0 : Fz) (w0 : World) (Lr : List Ent) : List Int × Int × Int → Int → Prop := fun ⟨x1, x5, x6⟩ r => ∀ S1 w1, Ext S0 w0 S1 w1 → ∀ (Ax1 : Option Addr) (cx1 : Nat) (_ : Hp nz wz S1 w1 (Lr)) (_ : Rd (kInt .u8) S1 w1 Ax1 cx1 x1) (junk : Nat → Value),
  Goes Try.prog (base 16) [.code (sub [1, 1, 0, 1, 0, 0] B16), .inLoop (sub [1, 1, 0, 1, 0, 0] B16), .inBlock 0, .code (sub [1, 1, 1] B16)] ⟨lfr 25 [(1, .slice Ax1 x1.length cx1), (5, .int .u32 x5), (6, .int .i64 x6)] junk, []⟩ w1 (Done Try.prog 16 (Rets (Post.tidepoleref02_More nz wz S0 w0 Lr r)))

theorem W.tidepoleref02_More_l0 (nz : Nat) (wz : World) (S0 : Fz) (w0 : World) (Lr : List Ent) : ∀ a r, M.tidepoleref02_More_l0 a = some r → L.tidepoleref02_More_l0 nz wz S0 w0 Lr a r := by
  refine M.tidepoleref02_More_l0.partial_correctness (motive := L.tidepoleref02_More_l0 nz wz S0 w0 Lr) ?_
  intro rec_tidepoleref02_More_l0 ih_tidepoleref02_More_l0 ⟨x1, x5, x6⟩ r h S1 w1 hx Ax1 cx1 p1 fx1 junk
  dsimp only at h
  refine Goes.runs 8 [(9, .int .i64 x6), (10, .slice Ax1 x1.length cx1), (11, .int .i64 (x1.length : Int)), (12, .bool (decide (x6 < (x1.length : Int))))] [.code (sub [1, 1, 0, 1, 0, 0, 0, 1] B16), .code (sub [1, 1, 0, 1, 0, 0, 1] B16), .inLoop (sub [1, 1, 0, 1, 0, 0] B16), .inBlock 0, .code (sub [1, 1, 1] B16)] (by kernel_rfl) ?_
  by_cases h1 : x6 < (x1.length : Int)
  · rw [if_pos h1] at h
    rw [decide_eq_true h1]
    refine Goes.runs 8 [(15, .int .u32 x5), (16, .slice Ax1 x1.length cx1), (17, .int .i64 x6)] [.inRegion (opsOf (sub [1, 1, 0, 1, 0, 0, 1, 0, 0] B16)) [3, 4, 5, 6, 7, 8], .inBlock 1, .code (sub [1, 1, 0, 1, 0, 0, 1, 1] B16), .inLoop (sub [1, 1, 0, 1, 0, 0] B16), .inBlock 0, .code (sub [1, 1, 1] B16)] (by kernel_rfl) ?_
    obtain ⟨g2, h⟩ := guard_some h
    refine Op_.ixR 23 (.tmp 16) (.tmp 17) 18 0 5 .i64 x6 fx1 (Goes.vs (by kernel_rfl)) (by kernel_rfl) (by kernel_rfl) (by kernel_rfl) (by kernel_rfl) g2 h1 ?_
    rintro a3 _ f4 rfl
    refine Op_.ld1 5 (.tmp 18) 19 5 a3 (.int .u8 (gi x1 x6)) (Goes.vs (by kernel_rfl)) (by kernel_rfl) (by kernel_rfl) (f4.cell 0 _ rfl) ?_
    refine Goes.runs 2 [(20, .int .u32 (wr .u32 (gi x1 x6))), (21, .int .u32 (ixor .u32 x5 (wr .u32 (gi x1 x6))))] [.inRegion (opsOf (sub [1, 1, 0, 1, 0, 0, 1, 0, 0] B16)) [7, 8], .inBlock 1, .code (sub [1, 1, 0, 1, 0, 0, 1, 1] B16), .inLoop (sub [1, 1, 0, 1, 0, 0] B16), .inBlock 0, .code (sub [1, 1, 1] B16)] (by kernel_rfl) ?_
    obtain ⟨y5, e6, h⟩ := bind_some h
    try dsimp only at h
    refine Op_.call (.call { callee := .value (.func 39), args := #[(.tmp 21)], argTypes := #[22] }) 22 22 39 #[.int .u32 (ixor .u32 x5 (wr .u32 (gi x1 x6)))] (Goes.cs (by kernel_rfl)) (by kernel_rfl) (W.tidepoleref02_step (ixor .u32 x5 (wr .u32 (gi x1 x6))) y5 e6 nz wz S1 w1 (Lr)  p1 ) ?_
    rintro _ w2 ⟨S2, rfl, z2, p2⟩
    have p2 : Hp nz wz S2 w2 (Lr) := p2
    refine Goes.runs 9 [(5, .int .u32 y5), (13, .int .i64 x6), (14, .int .i64 (wr .i64 (x6 + 1))), (6, .int .i64 (wr .i64 (x6 + 1)))] [.code (sub [1, 1, 0, 1, 0, 0] B16), .inLoop (sub [1, 1, 0, 1, 0, 0] B16), .inBlock 0, .code (sub [1, 1, 1] B16)] (by kernel_rfl) ?_
    exact Goes.jump 25 [(1, .slice Ax1 x1.length cx1), (5, .int .u32 y5), (6, .int .i64 (wr .i64 (x6 + 1)))] (by kernel_rfl) (ih_tidepoleref02_More_l0 _ _ h _ _ (hx.trans z2) Ax1 cx1 p2 (fx1.ext z2))
  · rw [if_neg h1] at h
    rw [decide_eq_false h1]
    refine Goes.runs 8 [(23, .int .u32 x5), (24, .int .u32 (ixor .u32 x5 4294967295)), (4, .int .u32 (ixor .u32 x5 4294967295))] [.code (sub [1, 1, 1, 1] B16)] (by kernel_rfl) ?_
    obtain rfl := Option.some.inj h
    exact Goes.ret (fn := Try.f16) (by kernel_rfl) (v := .int .u32 (ixor .u32 x5 4294967295)) (by kernel_rfl) ⟨S1, rfl, hx, p1⟩

theorem W.tidepoleref02_More (x0 : Int) (x1 : List Int) (r : Int) (h : M.tidepoleref02_More x0 x1 = some r) (nz : Nat) (wz : World) (S0 : Fz) (w0 : World) (Lr : List Ent) (Ax1 : Option Addr) (cx1 : Nat) (p0 : Hp nz wz S0 w0 (Lr)) (fx1 : Rd (kInt .u8) S0 w0 Ax1 cx1 x1) :
    Calls Try.prog 16 #[.int .u32 x0, .slice Ax1 x1.length cx1] w0 (Rets (Post.tidepoleref02_More nz wz S0 w0 Lr r)) := by
  refine calls_of_goes (fn := Try.f16) (c := B16) (by kernel_rfl) (by kernel_rfl) 23 (by kernel_rfl) ?_
  refine Goes.jump 25 [(0, .int .u32 x0), (1, .slice Ax1 x1.length cx1)] (by kernel_rfl) (fun junk => ?_)
  rw [M.tidepoleref02_More] at h
  try dsimp only at h
  refine Goes.runs 17 [(4, .int .u32 0), (7, .int .u32 x0), (8, .int .u32 (ixor .u32 x0 4294967295)), (5, .int .u32 (ixor .u32 x0 4294967295)), (6, .int .i64 0)] [.code (sub [1, 1, 0, 1, 0, 0] B16), .inLoop (sub [1, 1, 0, 1, 0, 0] B16), .inBlock 0, .code (sub [1, 1, 1] B16)] (by kernel_rfl) ?_
  exact Goes.jump 25 [(1, .slice Ax1 x1.length cx1), (5, .int .u32 (ixor .u32 x0 4294967295)), (6, .int .i64 0)] (by kernel_rfl) (W.tidepoleref02_More_l0 nz wz S0 w0 Lr _ _ h _ _ (Ext.refl S0 w0) Ax1 cx1 p0 fx1)

/-! tidepole/tidepoleref02.Sum -/
def Post.tidepoleref02_Sum (nz : Nat) (wz : World) (S0 : Fz) (w0 : World) (Lr : List Ent) (r : Int) (v : Value) (w' : World) : Prop :=
  ∃ (S' : Fz) , v = .int .u32 r ∧ Ext S0 w0 S' w' ∧ Hp nz wz S' w' (Lr)

theorem W.tidepoleref02_Sum (x0 : List Int) (r : Int) (h : M.tidepoleref02_Sum x0 = some r) (nz : Nat) (wz : World) (S0 : Fz) (w0 : World) (Lr : List Ent) (Ax0 : Option Addr) (cx0 : Nat) (p0 : Hp nz wz S0 w0 (Lr)) (fx0 : Rd (kInt .u8) S0 w0 Ax0 cx0 x0) :
    Calls Try.prog 14 #[.slice Ax0 x0.length cx0] w0 (Rets (Post.tidepoleref02_Sum nz wz S0 w0 Lr r)) := by
  refine calls_of_goes (fn := Try.f14) (c := B14) (by kernel_rfl) (by kernel_rfl) 4 (by kernel_rfl) ?_
  refine Goes.jump 5 [(0, .slice Ax0 x0.length cx0)] (by kernel_rfl) (fun junk => ?_)
  rw [M.tidepoleref02_Sum] at h
  try dsimp only at h
  refine Goes.runs 7 [(2, .int .u32 0), (3, .slice Ax0 x0.length cx0)] [.inRegion (opsOf (sub [1, 0] B14)) [1, 2], .code (sub [1, 1] B14)] (by kernel_rfl) ?_
  obtain ⟨y1, e2, h⟩ := bind_some h
  try dsimp only at h
  refine Op_.call (.call { callee := .value (.func 16), args := #[(.const (.int .u32 0)), (.tmp 3)], argTypes := #[22, 23] }) 4 22 16 #[.int .u32 0, .slice Ax0 x0.length cx0] (Goes.cs (by kernel_rfl)) (by kernel_rfl) (W.tidepoleref02_More 0 x0 y1 e2 nz wz S0 w0 (Lr) Ax0 cx0 p0 fx0) ?_
  rintro _ w2 ⟨S2, rfl, z2, p2⟩
  have p2 : Hp nz wz S2 w2 (Lr) := p2
  refine Goes.runs 2 [(2, .int .u32 y1)] [.code (sub [1, 1] B14)] (by kernel_rfl) ?_
  obtain rfl := Option.some.inj h
  exact Goes.ret (fn := Try.f14) (by kernel_rfl) (v := .int .u32 y1) (by kernel_rfl) ⟨S2, rfl, ((Ext.refl S0 w0).trans z2), p2⟩

/-! tidepole/tidepolebase.SameBytes -/
def Post.tidepolebase_SameBytes (nz : Nat) (wz : World) (S0 : Fz) (w0 : World) (Lr : List Ent) (r : Bool) (v : Value) (w' : World) : Prop :=
  ∃ (S' : Fz) , v = .bool r ∧ Ext S0 w0 S' w' ∧ Hp nz wz S' w' (Lr)

theorem W.tidepolebase_SameBytes (x0 : List Int) (x1 : List Int) (r : Bool) (h : M.tidepolebase_SameBytes x0 x1 = some r) (nz : Nat) (wz : World) (S0 : Fz) (w0 : World) (Lr : List Ent) (Ax0 : Option Addr) (cx0 : Nat) (Ax1 : Option Addr) (cx1 : Nat) (p0 : Hp nz wz S0 w0 (Lr)) (fx0 : Rd (kInt .u8) S0 w0 Ax0 cx0 x0) (fx1 : Rd (kInt .u8) S0 w0 Ax1 cx1 x1) :
    Calls Try.prog 17 #[.slice Ax0 x0.length cx0, .slice Ax1 x1.length cx1] w0 (Rets (Post.tidepolebase_SameBytes nz wz S0 w0 Lr r)) := by
  refine calls_of_goes (fn := Try.f17) (c := B17) (by kernel_rfl) (by kernel_rfl) 8 (by kernel_rfl) ?_
  refine Goes.jump 10 [(0, .slice Ax0 x0.length cx0), (1, .slice Ax1 x1.length cx1)] (by kernel_rfl) (fun junk => ?_)
  rw [M.tidepolebase_SameBytes] at h
  try dsimp only at h
  refine Goes.runs 7 [(4, .bool false), (5, .slice Ax0 x0.length cx0)] [.inRegion (opsOf (sub [1, 0] B17)) [1, 2, 3, 4, 5], .code (sub [1, 1] B17)] (by kernel_rfl) ?_
  refine Op_.b2s 23 9 (.tmp 5) 6 9 5 fx0 (Goes.vs (by kernel_rfl)) (by kernel_rfl) (by kernel_rfl) (by kernel_rfl) (by kernel_rfl) ?_
  refine Goes.runs 1 [(7, .slice Ax1 x1.length cx1)] [.inRegion (opsOf (sub [1, 0] B17)) [3, 4, 5], .code (sub [1, 1] B17)] (by kernel_rfl) ?_
  refine Op_.b2s 23 9 (.tmp 7) 8 9 5 fx1 (Goes.vs (by kernel_rfl)) (by kernel_rfl) (by kernel_rfl) (by kernel_rfl) (by kernel_rfl) ?_
  refine Goes.runs 3 [(9, .bool ((b2s x0).toList == (b2s x1).toList)), (4, .bool ((b2s x0).toList == (b2s x1).toList))] [.code (sub [1, 1] B17)] (by kernel_rfl) ?_
  obtain rfl := Option.some.inj h
  exact Goes.ret (fn := Try.f17) (by kernel_rfl) (v := .bool ((b2s x0).toList == (b2s x1).toList)) (by kernel_rfl) ⟨S0, rfl, (Ext.refl S0 w0), p0⟩

/-! tidepole/crc.Put -/
def Post.crc_Put (nz : Nat) (wz : World) (S0 : Fz) (w0 : World) (Lr : List Ent) (r : List Int) (v : Value) (w' : World) : Prop :=
  ∃ (S' : Fz) (G1 : Option Nat) (c2 : Nat) (cs3 : List Value), v = .slice (Gp G1) r.length c2 ∧ Ext S0 w0 S' w' ∧ Hp nz wz S' w' ((G1, .row 5 cs3 (c2 * (kInt .u8).size) 0) :: Lr) ∧ Els (kInt .u8) S' w' cs3 r

def L.crc_Put_l0 (nz : Nat) (wz : World) (S0 : Fz) (w0 : World) (Lr : List Ent) : Int × List Int × Int → (List Int) → Prop := fun ⟨x1, x5, x13⟩ r => ∀ S1 w1, Ext S0 w0 S1 w1 → ∀ (Gx5 : Option Nat) (cx5 : Nat) (csx5 : List Value) (_ : Hp nz wz S1 w1 ((Gx5, .row 5 csx5 (cx5 * (kInt .u8).size) 0) :: Lr)) (_ : Els (kInt .u8) S1 w1 csx5 x5) (junk : Nat → Value),
  Goes Try.prog (base 23) [.code (sub [1, 1, 0, 1, 0, 0] B23), .inLoop (sub [1, 1, 0, 1, 0, 0] B23), .inBlock 0, .code (sub [1, 1, 1] B23)] ⟨lfr 26 [(1, .int .u32 x1), (5, .slice (Gp Gx5) x5.length cx5), (13, .int .i64 x13)] junk, []⟩ w1 (Done Try.prog 23 (Rets (Post.crc_Put nz wz S0 w0 Lr r)))

theorem W.crc_Put_l0 (nz : Nat) (wz : World) (S0 : Fz) (w0 : World) (Lr : List Ent) : ∀ a r, M.crc_Put_l0 a = some r → L.crc_Put_l0 nz wz S0 w0 Lr a r := by
  refine M.crc_Put_l0.partial_correctness (motive := L.crc_Put_l0 nz wz S0 w0 Lr) ?_
  intro rec_crc_Put_l0 ih_crc_Put_l0 ⟨x1, x5, x13⟩ r h S1 w1 hx Gx5 cx5 csx5 p1 fx5 junk
  dsimp only at h
  refine Goes.runs 5 [(14, .bool (decide (x13 < 4)))] [.code (sub [1, 1, 0, 1, 0, 0, 1, 0] B23), .code (sub [1, 1, 0, 1, 0, 0, 1, 1] B23), .inLoop (sub [1, 1, 0, 1, 0, 0] B23), .inBlock 0, .code (sub [1, 1, 1] B23)] (by kernel_rfl) ?_
  by_cases h15 : x13 < 4
  · rw [if_pos h15] at h
    rw [decide_eq_true h15]
    refine Goes.runs 14 [(15, .int .i64 x13), (6, .int .i64 x13), (16, .slice (Gp Gx5) x5.length cx5), (17, .int .u32 x1), (18, .int .i64 x13), (19, .int .i64 (wr .i64 (8 * x13)))] [.inRegion (opsOf (sub [1, 1, 0, 1, 0, 0, 1, 1, 0, 0, 1] B23)) [4, 5, 6, 7, 8], .inBlock 1, .code (sub [1, 1, 0, 1, 0, 0, 1, 1, 1] B23), .inLoop (sub [1, 1, 0, 1, 0, 0] B23), .inBlock 0, .code (sub [1, 1, 1] B23)] (by kernel_rfl) ?_
    obtain ⟨g16, h⟩ := guard_some h
    refine Op_.binshr 22 (.tmp 17) (.tmp 19) 3 20 22 .u32 .i64 x1 (wr .i64 (8 * x13)) (Goes.vs (by kernel_rfl)) (by kernel_rfl) (by kernel_rfl) g16 ?_
    refine Goes.runs 1 [(21, .int .u8 (wr .u8 (ishr .u32 x1 (wr .i64 (8 * x13)))))] [.inRegion (opsOf (sub [1, 1, 0, 1, 0, 0, 1, 1, 0, 0, 1] B23)) [6, 7, 8], .inBlock 1, .code (sub [1, 1, 0, 1, 0, 0, 1, 1, 1] B23), .inLoop (sub [1, 1, 0, 1, 0, 0] B23), .inBlock 0, .code (sub [1, 1, 1] B23)] (by kernel_rfl) ?_
    have f18 : Els (kInt .u8) S1 w1 ([.int .u8 (wr .u8 (ishr .u32 x1 (wr .i64 (8 * x13))))] : List Value) [wr .u8 (ishr .u32 x1 (wr .i64 (8 * x13)))] := (Els.cons (K := (kInt .u8)) (vs := [.int .u8 (wr .u8 (ishr .u32 x1 (wr .i64 (8 * x13))))]) (x := wr .u8 (ishr .u32 x1 (wr .i64 (8 * x13)))) rfl Els.nil)
    refine Op_.made (.buildSlice 23 1 #[(0, (.tmp 21))]) 22 23 (fun b => .slice (Gp (some b)) 1 1) 5 ([.int .u8 (wr .u8 (ishr .u32 x1 (wr .i64 (8 * x13))))] : List Value) p1 (Goes.vs (by kernel_rfl)) (by kernel_rfl) ?_
    intro b17 w4 z4 p4
    have p4 : Hp nz wz S1 w4 (((some b17), .row 5 ([.int .u8 (wr .u8 (ishr .u32 x1 (wr .i64 (8 * x13))))] : List Value) (1 * (kInt .u8).size) 0) :: (Gx5, .row 5 csx5 (cx5 * (kInt .u8).size) 0) :: Lr) := p4
    obtain ⟨g23, h⟩ := guard_some h
    refine Op_.ap (K := (kInt .u8)) 23 (.tmp 16) (.tmp 22) 23 23 5 1 (.int .u8 0) 1 cx5 x5 [wr .u8 (ishr .u32 x1 (wr .i64 (8 * x13)))] (Gp (some b17)) 1 p4 rfl (fx5.ext z4) (Goes.vs (by kernel_rfl)) (by kernel_rfl) (by kernel_rfl) (by kernel_rfl) (by kernel_rfl) rfl (by decide) (f18.ext z4) (src_own p4 (q := 0) rfl) (by have := g23; omega) (by have := g23; omega) ?_
    intro w5 G24 c25 cs26 z5 p5 f27
    have p5 : Hp nz wz S1 w5 (((some b17), .row 5 ([.int .u8 (wr .u8 (ishr .u32 x1 (wr .i64 (8 * x13))))] : List Value) (1 * (kInt .u8).size) 0) :: (G24, .row 5 cs26 (c25 * (kInt .u8).size) 0) :: Lr) := p5
    refine Goes.runs 8 [(5, .slice (Gp G24) (x5 ++ [wr .u8 (ishr .u32 x1 (wr .i64 (8 * x13)))]).length c25), (24, .int .i64 (wr .i64 (x13 + 1))), (13, .int .i64 (wr .i64 (x13 + 1)))] [.code (sub [1, 1, 0, 1, 0, 0] B23), .inLoop (sub [1, 1, 0, 1, 0, 0] B23), .inBlock 0, .code (sub [1, 1, 1] B23)] (by kernel_rfl) ?_
    have p5 : Hp nz wz S1 w5 ((G24, .row 5 cs26 (c25 * (kInt .u8).size) 0) :: Lr) := (p5.front 0 _ rfl).drop
    exact Goes.jump 26 [(1, .int .u32 x1), (5, .slice (Gp G24) (x5 ++ [wr .u8 (ishr .u32 x1 (wr .i64 (8 * x13)))]).length c25), (13, .int .i64 (wr .i64 (x13 + 1)))] (by kernel_rfl) (ih_crc_Put_l0 _ _ h _ _ ((hx.trans z4).trans z5) G24 c25 cs26 p5 f27)
  · rw [if_neg h15] at h
    rw [decide_eq_false h15]
    refine Goes.runs 7 [(25, .slice (Gp Gx5) x5.length cx5), (4, .slice (Gp Gx5) x5.length cx5)] [.code (sub [1, 1, 1, 1] B23)] (by kernel_rfl) ?_
    obtain rfl := Option.some.inj h
    exact Goes.ret (fn := Try.f23) (by kernel_rfl) (v := .slice (Gp Gx5) x5.length cx5) (by kernel_rfl) ⟨S1, Gx5, cx5, csx5, rfl, hx, p1, fx5⟩

theorem W.crc_Put (x0 : List Int) (x1 : Int) (r : List Int) (h : M.crc_Put x0 x1 = some r) (nz : Nat) (wz : World) (S0 : Fz) (w0 : World) (Lr : List Ent) (Ax0 : Option Addr) (cx0 : Nat) (p0 : Hp nz wz S0 w0 (Lr)) (fx0 : Rd (kInt .u8) S0 w0 Ax0 cx0 x0) :
    Calls Try.prog 23 #[.slice Ax0 x0.length cx0, .int .u32 x1] w0 (Rets (Post.crc_Put nz wz S0 w0 Lr r)) := by
  refine calls_of_goes (fn := Try.f23) (c := B23) (by kernel_rfl) (by kernel_rfl) 24 (by kernel_rfl) ?_
  refine Goes.jump 26 [(0, .slice Ax0 x0.length cx0), (1, .int .u32 x1)] (by kernel_rfl) (fun junk => ?_)
  rw [M.crc_Put] at h
  try dsimp only at h
  refine Goes.runs 9 [(4, .slice none 0 0), (7, .slice Ax0 x0.length cx0), (8, .int .i64 (x0.length : Int)), (9, .int .i64 (wr .i64 ((x0.length : Int) + 4)))] [.inRegion (opsOf (sub [1, 0] B23)) [3, 4, 5, 6], .code (sub [1, 1] B23)] (by kernel_rfl) ?_
  obtain ⟨g1, h⟩ := guard_some h
  obtain ⟨g2, h⟩ := guard_some h
  refine Op_.mk (K := (kInt .u8)) 23 (.const (.int .i64 0)) (.tmp 9) 10 23 5 .i64 .i64 0 (wr .i64 ((x0.length : Int) + 4)) (.int .u8 0) [.int .u8 0] 1 0 p0 (Goes.vs (by kernel_rfl)) (by kernel_rfl) (by kernel_rfl) (by kernel_rfl) (by kernel_rfl) (by kernel_rfl) (fun _ => rfl) (by decide) g1 (by have := g2; omega) (by have := g2; omega) ?_
  intro b3 w2 cs4 z2 p2 f5
  refine Goes.runs 1 [(11, .slice Ax0 x0.length cx0)] [.inRegion (opsOf (sub [1, 0] B23)) [5, 6], .code (sub [1, 1] B23)] (by kernel_rfl) ?_
  obtain ⟨ns7, f8, f9⟩ := src_rd (fx0.ext z2)
  obtain ⟨g10, h⟩ := guard_some h
  refine Op_.ap (K := (kInt .u8)) 23 (.tmp 10) (.tmp 11) 12 23 5 0 (.int .u8 0) 1 ((wr .i64 ((x0.length : Int) + 4) : Int).toNat) (List.replicate (0 : Int).toNat 0) x0 Ax0 cx0 p2 rfl f5 (Goes.vs (by kernel_rfl)) (by kernel_rfl) (by kernel_rfl) (by kernel_rfl) (by kernel_rfl) rfl (by decide) f8 f9 (by have := g10; omega) (by have := g10; omega) ?_
  intro w3 G11 c12 cs13 z3 p3 f14
  have p3 : Hp nz wz S0 w3 ((G11, .row 5 cs13 (c12 * (kInt .u8).size) 0) :: Lr) := p3
  refine Goes.runs 9 [(5, .slice (Gp G11) ((List.replicate (0 : Int).toNat 0) ++ x0).length c12), (13, .int .i64 0)] [.code (sub [1, 1, 0, 1, 0, 0] B23), .inLoop (sub [1, 1, 0, 1, 0, 0] B23), .inBlock 0, .code (sub [1, 1, 1] B23)] (by kernel_rfl) ?_
  exact Goes.jump 26 [(1, .int .u32 x1), (5, .slice (Gp G11) ((List.replicate (0 : Int).toNat 0) ++ x0).length c12), (13, .int .i64 0)] (by kernel_rfl) (W.crc_Put_l0 nz wz S0 w0 Lr _ _ h _ _ (((Ext.refl S0 w0).trans z2).trans z3) G11 c12 cs13 p3 f14)

/-! tidepole/crc.Sealed -/
def Post.crc_Sealed (nz : Nat) (wz : World) (S0 : Fz) (w0 : World) (Lr : List Ent) (r : List Int) (v : Value) (w' : World) : Prop :=
  ∃ (S' : Fz) (G1 : Option Nat) (c2 : Nat) (cs3 : List Value), v = .slice (Gp G1) r.length c2 ∧ Ext S0 w0 S' w' ∧ Hp nz wz S' w' ((G1, .row 5 cs3 (c2 * (kInt .u8).size) 0) :: Lr) ∧ Els (kInt .u8) S' w' cs3 r

theorem W.crc_Sealed (x0 : List Int) (r : List Int) (h : M.crc_Sealed x0 = some r) (nz : Nat) (wz : World) (S0 : Fz) (w0 : World) (Lr : List Ent) (Ax0 : Option Addr) (cx0 : Nat) (p0 : Hp nz wz S0 w0 (Lr)) (fx0 : Rd (kInt .u8) S0 w0 Ax0 cx0 x0) :
    Calls Try.prog 25 #[.slice Ax0 x0.length cx0] w0 (Rets (Post.crc_Sealed nz wz S0 w0 Lr r)) := by
  refine calls_of_goes (fn := Try.f25) (c := B25) (by kernel_rfl) (by kernel_rfl) 6 (by kernel_rfl) ?_
  refine Goes.jump 7 [(0, .slice Ax0 x0.length cx0)] (by kernel_rfl) (fun junk => ?_)
  rw [M.crc_Sealed] at h
  try dsimp only at h
  refine Goes.runs 8 [(2, .slice none 0 0), (3, .slice Ax0 x0.length cx0), (4, .slice Ax0 x0.length cx0)] [.inRegion (opsOf (sub [1, 0] B25)) [2, 3, 4], .code (sub [1, 1] B25)] (by kernel_rfl) ?_
  obtain ⟨y1, e2, h⟩ := bind_some h
  try dsimp only at h
  refine Op_.call (.call { callee := .value (.func 13), args := #[(.tmp 4)], argTypes := #[23] }) 5 22 13 #[.slice Ax0 x0.length cx0] (Goes.cs (by kernel_rfl)) (by kernel_rfl) (W.crc_Sum x0 y1 e2 nz wz S0 w0 (Lr) Ax0 cx0 p0 fx0) ?_
  rintro _ w2 ⟨S2, rfl, z2, p2⟩
  have p2 : Hp nz wz S2 w2 (Lr) := p2
  obtain ⟨y3, e4, h⟩ := bind_some h
  try dsimp only at h
  refine Op_.call (.call { callee := .value (.func 23), args := #[(.tmp 3), (.tmp 5)], argTypes := #[23, 22] }) 6 23 23 #[.slice Ax0 x0.length cx0, .int .u32 y1] (Goes.cs (by kernel_rfl)) (by kernel_rfl) (W.crc_Put x0 y1 y3 e4 nz wz S2 w2 (Lr) Ax0 cx0 p2 (fx0.ext z2)) ?_
  rintro _ w3 ⟨S3, G5, c6, cs7, rfl, z3, p3, f9⟩
  have p3 : Hp nz wz S3 w3 ((G5, .row 5 cs7 (c6 * (kInt .u8).size) 0) :: Lr) := p3
  refine Goes.runs 2 [(2, .slice (Gp G5) y3.length c6)] [.code (sub [1, 1] B25)] (by kernel_rfl) ?_
  obtain rfl := Option.some.inj h
  exact Goes.ret (fn := Try.f25) (by kernel_rfl) (v := .slice (Gp G5) y3.length c6) (by kernel_rfl) ⟨S3, G5, c6, cs7, rfl, (((Ext.refl S0 w0).trans z2).trans z3), p3, f9⟩

/-! tidepole/crc.Read -/
def Post.crc_Read (nz : Nat) (wz : World) (S0 : Fz) (w0 : World) (Lr : List Ent) (r : Int × Int) (v : Value) (w' : World) : Prop :=
  ∃ (S' : Fz) , v = .tuple #[.int .u32 r.1, .int .i64 r.2] ∧ Ext S0 w0 S' w' ∧ Hp nz wz S' w' (Lr)

def L.crc_Read_l0 (nz : Nat) (wz : World) (S0 : Fz) (w0 : World) (Lr : List Ent) : List Int × Int × Int → (Int × Int) → Prop := fun ⟨x0, x4, x9⟩ r => ∀ S1 w1, Ext S0 w0 S1 w1 → ∀ (Ax0 : Option Addr) (cx0 : Nat) (_ : Hp nz wz S1 w1 (Lr)) (_ : Rd (kInt .u8) S1 w1 Ax0 cx0 x0) (junk : Nat → Value),
  Goes Try.prog (base 19) [.code (sub [1, 1, 1, 0, 1, 0, 0] B19), .inLoop (sub [1, 1, 1, 0, 1, 0, 0] B19), .inBlock 0, .code (sub [1, 1, 1, 1] B19)] ⟨lfr 24 [(0, .slice Ax0 x0.length cx0), (4, .int .u32 x4), (9, .int .i64 x9)] junk, []⟩ w1 (Done Try.prog 19 (Rets (Post.crc_Read nz wz S0 w0 Lr r)))

theorem W.crc_Read_l0 (nz : Nat) (wz : World) (S0 : Fz) (w0 : World) (Lr : List Ent) : ∀ a r, M.crc_Read_l0 a = some r → L.crc_Read_l0 nz wz S0 w0 Lr a r := by
  refine M.crc_Read_l0.partial_correctness (motive := L.crc_Read_l0 nz wz S0 w0 Lr) ?_
  intro rec_crc_Read_l0 ih_crc_Read_l0 ⟨x0, x4, x9⟩ r h S1 w1 hx Ax0 cx0 p1 fx0 junk
  dsimp only at h
  refine Goes.runs 5 [(10, .bool (decide (x9 < 4)))] [.code (sub [1, 1, 1, 0, 1, 0, 0, 1, 0] B19), .code (sub [1, 1, 1, 0, 1, 0, 0, 1, 1] B19), .inLoop (sub [1, 1, 1, 0, 1, 0, 0] B19), .inBlock 0, .code (sub [1, 1, 1, 1] B19)] (by kernel_rfl) ?_
  by_cases h2 : x9 < 4
  · rw [if_pos h2] at h
    rw [decide_eq_true h2]
    refine Goes.runs 13 [(11, .int .i64 x9), (5, .int .i64 x9), (12, .int .u32 x4), (13, .slice Ax0 x0.length cx0), (14, .int .i64 x9)] [.inRegion (opsOf (sub [1, 1, 1, 0, 1, 0, 0, 1, 1, 0, 0, 1] B19)) [3, 4, 5, 6, 7, 8, 9, 10], .inBlock 1, .code (sub [1, 1, 1, 0, 1, 0, 0, 1, 1, 1] B19), .inLoop (sub [1, 1, 1, 0, 1, 0, 0] B19), .inBlock 0, .code (sub [1, 1, 1, 1] B19)] (by kernel_rfl) ?_
    obtain ⟨g3, h⟩ := guard_some h
    obtain ⟨g4, h⟩ := guard_some h
    refine Op_.ixR 23 (.tmp 13) (.tmp 14) 15 0 5 .i64 x9 fx0 (Goes.vs (by kernel_rfl)) (by kernel_rfl) (by kernel_rfl) (by kernel_rfl) (by kernel_rfl) g3 g4 ?_
    rintro a5 _ f6 rfl
    refine Op_.ld1 5 (.tmp 15) 16 5 a5 (.int .u8 (gi x0 x9)) (Goes.vs (by kernel_rfl)) (by kernel_rfl) (by kernel_rfl) (f6.cell 0 _ rfl) ?_
    refine Goes.runs 3 [(17, .int .u32 (wr .u32 (gi x0 x9))), (18, .int .i64 x9), (19, .int .i64 (wr .i64 (8 * x9)))] [.inRegion (opsOf (sub [1, 1, 1, 0, 1, 0, 0, 1, 1, 0, 0, 1] B19)) [8, 9, 10], .inBlock 1, .code (sub [1, 1, 1, 0, 1, 0, 0, 1, 1, 1] B19), .inLoop (sub [1, 1, 1, 0, 1, 0, 0] B19), .inBlock 0, .code (sub [1, 1, 1, 1] B19)] (by kernel_rfl) ?_
    obtain ⟨g7, h⟩ := guard_some h
    refine Op_.binshl 22 (.tmp 17) (.tmp 19) 3 20 22 .u32 .i64 (wr .u32 (gi x0 x9)) (wr .i64 (8 * x9)) (Goes.vs (by kernel_rfl)) (by kernel_rfl) (by kernel_rfl) g7 ?_
    refine Goes.runs 9 [(21, .int .u32 (ior .u32 x4 (ishl .u32 (wr .u32 (gi x0 x9)) (wr .i64 (8 * x9))))), (4, .int .u32 (ior .u32 x4 (ishl .u32 (wr .u32 (gi x0 x9)) (wr .i64 (8 * x9))))), (22, .int .i64 (wr .i64 (x9 + 1))), (9, .int .i64 (wr .i64 (x9 + 1)))] [.code (sub [1, 1, 1, 0, 1, 0, 0] B19), .inLoop (sub [1, 1, 1, 0, 1, 0, 0] B19), .inBlock 0, .code (sub [1, 1, 1, 1] B19)] (by kernel_rfl) ?_
    exact Goes.jump 24 [(0, .slice Ax0 x0.length cx0), (4, .int .u32 (ior .u32 x4 (ishl .u32 (wr .u32 (gi x0 x9)) (wr .i64 (8 * x9))))), (9, .int .i64 (wr .i64 (x9 + 1)))] (by kernel_rfl) (ih_crc_Read_l0 _ _ h _ _ hx Ax0 cx0 p1 fx0)
  · rw [if_neg h2] at h
    rw [decide_eq_false h2]
    refine Goes.runs 8 [(23, .int .u32 x4), (2, .int .u32 x4), (3, .int .i64 0)] [.code (sub [1, 1, 1, 1, 1] B19)] (by kernel_rfl) ?_
    obtain rfl := Option.some.inj h
    exact Goes.ret (fn := Try.f19) (by kernel_rfl) (v := .tuple #[.int .u32 x4, .int .i64 0]) (by kernel_rfl) ⟨S1, rfl, hx, p1⟩

theorem W.crc_Read (x0 : List Int) (r : Int × Int) (h : M.crc_Read x0 = some r) (nz : Nat) (wz : World) (S0 : Fz) (w0 : World) (Lr : List Ent) (Ax0 : Option Addr) (cx0 : Nat) (p0 : Hp nz wz S0 w0 (Lr)) (fx0 : Rd (kInt .u8) S0 w0 Ax0 cx0 x0) :
    Calls Try.prog 19 #[.slice Ax0 x0.length cx0] w0 (Rets (Post.crc_Read nz wz S0 w0 Lr r)) := by
  refine calls_of_goes (fn := Try.f19) (c := B19) (by kernel_rfl) (by kernel_rfl) 23 (by kernel_rfl) ?_
  refine Goes.jump 24 [(0, .slice Ax0 x0.length cx0)] (by kernel_rfl) (fun junk => ?_)
  rw [M.crc_Read] at h
  try dsimp only at h
  refine Goes.runs 12 [(2, .int .u32 0), (3, .int .i64 0), (6, .slice Ax0 x0.length cx0), (7, .int .i64 (x0.length : Int)), (8, .bool (decide ((x0.length : Int) < 4)))] [.code (sub [1, 0, 1] B19), .code (sub [1, 1] B19)] (by kernel_rfl) ?_
  by_cases h1 : (x0.length : Int) < 4
  · rw [if_pos h1] at h
    rw [decide_eq_true h1]
    refine Goes.runs 6 [(2, .int .u32 0), (3, .int .i64 7)] [.code (sub [1, 0, 1, 0, 1] B19), .code (sub [1, 1] B19)] (by kernel_rfl) ?_
    obtain rfl := Option.some.inj h
    exact Goes.ret (fn := Try.f19) (by kernel_rfl) (v := .tuple #[.int .u32 0, .int .i64 7]) (by kernel_rfl) ⟨S0, rfl, (Ext.refl S0 w0), p0⟩
  · rw [if_neg h1] at h
    rw [decide_eq_false h1]
    refine Goes.runs 13 [(4, .int .u32 0), (9, .int .i64 0)] [.code (sub [1, 1, 1, 0, 1, 0, 0] B19), .inLoop (sub [1, 1, 1, 0, 1, 0, 0] B19), .inBlock 0, .code (sub [1, 1, 1, 1] B19)] (by kernel_rfl) ?_
    exact Goes.jump 24 [(0, .slice Ax0 x0.length cx0), (4, .int .u32 0), (9, .int .i64 0)] (by kernel_rfl) (W.crc_Read_l0 nz wz S0 w0 Lr _ _ h _ _ (Ext.refl S0 w0) Ax0 cx0 p0 fx0)

/-! tidepole/crc.Open -/
def Post.crc_Open (nz : Nat) (wz : World) (S0 : Fz) (w0 : World) (Lr : List Ent) (r : (List Int) × Bool) (v : Value) (w' : World) : Prop :=
  ∃ (S' : Fz) (G1 : Option Nat) (c2 : Nat) (cs3 : List Value), v = .tuple #[.slice (Gp G1) r.1.length c2, .bool r.2] ∧ Ext S0 w0 S' w' ∧ Hp nz wz S' w' ((G1, .row 5 cs3 (c2 * (kInt .u8).size) 0) :: Lr) ∧ Els (kInt .u8) S' w' cs3 r.1

theorem W.crc_Open (x0 : List Int) (r : (List Int) × Bool) (h : M.crc_Open x0 = some r) (nz : Nat) (wz : World) (S0 : Fz) (w0 : World) (Lr : List Ent) (Ax0 : Option Addr) (cx0 : Nat) (p0 : Hp nz wz S0 w0 (Lr)) (fx0 : Rd (kInt .u8) S0 w0 Ax0 cx0 x0) :
    Calls Try.prog 21 #[.slice Ax0 x0.length cx0] w0 (Rets (Post.crc_Open nz wz S0 w0 Lr r)) := by
  refine calls_of_goes (fn := Try.f21) (c := B21) (by kernel_rfl) (by kernel_rfl) 29 (by kernel_rfl) ?_
  refine Goes.jump 30 [(0, .slice Ax0 x0.length cx0)] (by kernel_rfl) (fun junk => ?_)
  rw [M.crc_Open] at h
  try dsimp only at h
  refine Goes.runs 18 [(2, .slice none 0 0), (3, .bool false), (7, .slice Ax0 x0.length cx0), (8, .int .i64 (x0.length : Int)), (9, .int .i64 (wr .i64 ((x0.length : Int) - 4))), (4, .int .i64 (wr .i64 ((x0.length : Int) - 4))), (10, .int .i64 (wr .i64 ((x0.length : Int) - 4))), (11, .bool (decide (wr .i64 ((x0.length : Int) - 4) < 0)))] [.code (sub [1, 1, 0, 1] B21), .code (sub [1, 1, 1] B21)] (by kernel_rfl) ?_
  by_cases h1 : wr .i64 ((x0.length : Int) - 4) < 0
  · rw [if_pos h1] at h
    rw [decide_eq_true h1]
    refine Goes.runs 6 [(2, .slice none 0 0), (3, .bool false)] [.code (sub [1, 1, 0, 1, 0, 1] B21), .code (sub [1, 1, 1] B21)] (by kernel_rfl) ?_
    have p0 : Hp nz wz S0 w0 ((none, .row 5 [] (0 * (kInt .u8).size) 0) :: Lr) := p0.nilRow 5
    obtain rfl := Option.some.inj h
    exact Goes.ret (fn := Try.f21) (by kernel_rfl) (v := .tuple #[.slice (Gp none) [].length 0, .bool false]) (by kernel_rfl) ⟨S0, none, 0, [], rfl, (Ext.refl S0 w0), p0, (Els.nil : Els (kInt .u8) S0 w0 [] [])⟩
  · rw [if_neg h1] at h
    rw [decide_eq_false h1]
    refine Goes.runs 6 [(13, .slice Ax0 x0.length cx0), (14, .int .i64 (wr .i64 ((x0.length : Int) - 4)))] [.inRegion (opsOf (sub [1, 1, 1, 0] B21)) [2, 3, 4, 5, 6, 7, 8], .code (sub [1, 1, 1, 1] B21)] (by kernel_rfl) ?_
    obtain ⟨g3, h⟩ := guard_some h
    obtain ⟨g4, h⟩ := guard_some h
    refine Op_.slR 23 (.tmp 13) (some (.tmp 14)) none 15 23 5 (wr .i64 ((x0.length : Int) - 4)) (x0.length : Int) fx0 (Goes.vs (by kernel_rfl)) (by kernel_rfl) (by kernel_rfl) (by kernel_rfl) (Bnd.at_ .i64 (by kernel_rfl)) Bnd.no g3 g4 (Int.le_refl _) ?_
    intro A5 c6 f7
    obtain ⟨y8, e9, h⟩ := bind_some h
    try dsimp only at h
    refine Op_.call (.call { callee := .value (.func 19), args := #[(.tmp 15)], argTypes := #[23] }) 16 31 19 #[.slice A5 (sl x0 (wr .i64 ((x0.length : Int) - 4)) (x0.length : Int)).length c6] (Goes.cs (by kernel_rfl)) (by kernel_rfl) (W.crc_Read (sl x0 (wr .i64 ((x0.length : Int) - 4)) (x0.length : Int)) y8 e9 nz wz S0 w0 (Lr) A5 c6 p0 f7) ?_
    rintro _ w2 ⟨S2, rfl, z2, p2⟩
    have p2 : Hp nz wz S2 w2 (Lr) := p2
    refine Goes.runs 12 [(12, .tuple #[.int .u32 y8.1, .int .i64 y8.2]), (17, .int .u32 y8.1), (18, .int .i64 y8.2), (5, .int .u32 y8.1), (6, .int .i64 y8.2), (19, .int .u32 y8.1), (20, .slice Ax0 x0.length cx0), (21, .int .i64 (wr .i64 ((x0.length : Int) - 4)))] [.inRegion (opsOf (sub [1, 1, 1, 1, 0, 0] B21)) [3, 4, 5], .code (sub [1, 1, 1, 1, 0, 1] B21), .code (sub [1, 1, 1, 1, 1] B21)] (by kernel_rfl) ?_
    refine Op_.slR 23 (.tmp 20) none (some (.tmp 21)) 22 23 5 0 (wr .i64 ((x0.length : Int) - 4)) (fx0.ext z2) (Goes.vs (by kernel_rfl)) (by kernel_rfl) (by kernel_rfl) (by kernel_rfl) Bnd.no (Bnd.at_ .i64 (by kernel_rfl)) (by decide) g3 g4 ?_
    intro A10 c11 f12
    obtain ⟨y13, e14, h⟩ := bind_some h
    try dsimp only at h
    refine Op_.call (.call { callee := .value (.func 13), args := #[(.tmp 22)], argTypes := #[23] }) 23 22 13 #[.slice A10 (sl x0 0 (wr .i64 ((x0.length : Int) - 4))).length c11] (Goes.cs (by kernel_rfl)) (by kernel_rfl) (W.crc_Sum (sl x0 0 (wr .i64 ((x0.length : Int) - 4))) y13 e14 nz wz S2 w2 (Lr) A10 c11 p2 f12) ?_
    rintro _ w3 ⟨S3, rfl, z3, p3⟩
    have p3 : Hp nz wz S3 w3 (Lr) := p3
    refine Goes.runs 2 [(24, .bool (!(decide (y8.1 = y13))))] [.code (sub [1, 1, 1, 1, 0, 1] B21), .code (sub [1, 1, 1, 1, 1] B21)] (by kernel_rfl) ?_
    by_cases h15 : y8.1 = y13
    · rw [if_pos h15] at h
      rw [decide_eq_true h15]
      refine Goes.runs 4 [] [.inRegion (opsOf (sub [1, 1, 1, 1, 1, 0] B21)) [0, 1, 2, 3, 4, 5, 6], .code (sub [1, 1, 1, 1, 1, 1] B21)] (by kernel_rfl) ?_
      have f17 : Els (kInt .u8) S3 w3 ([] : List Value) ([] : List Int) := Els.nil
      refine Op_.made (.buildSlice 23 0 #[]) 25 23 (fun b => .slice (Gp (some b)) 0 0) 5 ([] : List Value) p3 (Goes.vs (by kernel_rfl)) (by kernel_rfl) ?_
      intro b16 w4 z4 p4
      have p4 : Hp nz wz S3 w4 (((some b16), .row 5 ([] : List Value) (0 * (kInt .u8).size) 0) :: Lr) := p4
      refine Goes.runs 2 [(26, .slice Ax0 x0.length cx0), (27, .int .i64 (wr .i64 ((x0.length : Int) - 4)))] [.inRegion (opsOf (sub [1, 1, 1, 1, 1, 0] B21)) [3, 4, 5, 6], .code (sub [1, 1, 1, 1, 1, 1] B21)] (by kernel_rfl) ?_
      refine Op_.slR 23 (.tmp 26) none (some (.tmp 27)) 28 23 5 0 (wr .i64 ((x0.length : Int) - 4)) (((fx0.ext z2).ext z3).ext z4) (Goes.vs (by kernel_rfl)) (by kernel_rfl) (by kernel_rfl) (by kernel_rfl) Bnd.no (Bnd.at_ .i64 (by kernel_rfl)) (by decide) g3 g4 ?_
      intro A19 c20 f21
      obtain ⟨ns22, f23, f24⟩ := src_rd f21
      obtain ⟨g25, h⟩ := guard_some h
      refine Op_.ap (K := (kInt .u8)) 23 (.tmp 25) (.tmp 28) 29 23 5 0 (.int .u8 0) 1 0 ([] : List Int) (sl x0 0 (wr .i64 ((x0.length : Int) - 4))) A19 c20 p4 rfl (f17.ext z4) (Goes.vs (by kernel_rfl)) (by kernel_rfl) (by kernel_rfl) (by kernel_rfl) (by kernel_rfl) rfl (by decide) f23 f24 (by have := g25; simp only [List.nil_append]; omega) (by have := g25; simp only [List.nil_append]; omega) ?_
      intro w5 G26 c27 cs28 z5 p5 f29
      have p5 : Hp nz wz S3 w5 ((G26, .row 5 cs28 (c27 * (kInt .u8).size) 0) :: Lr) := p5
      refine Goes.runs 3 [(2, .slice (Gp G26) (sl x0 0 (wr .i64 ((x0.length : Int) - 4))).length c27), (3, .bool true)] [.code (sub [1, 1, 1, 1, 1, 1] B21)] (by kernel_rfl) ?_
      obtain rfl := Option.some.inj h
      exact Goes.ret (fn := Try.f21) (by kernel_rfl) (v := .tuple #[.slice (Gp G26) (sl x0 0 (wr .i64 ((x0.length : Int) - 4))).length c27, .bool true]) (by kernel_rfl) ⟨S3, G26, c27, cs28, rfl, (((((Ext.refl S0 w0).trans z2).trans z3).trans z4).trans z5), p5, f29⟩
    · rw [if_neg h15] at h
      rw [decide_eq_false h15]
      refine Goes.runs 6 [(2, .slice none 0 0), (3, .bool false)] [.code (sub [1, 1, 1, 1, 0, 1, 0, 1] B21), .code (sub [1, 1, 1, 1, 1] B21)] (by kernel_rfl) ?_
      have p3 : Hp nz wz S3 w3 ((none, .row 5 [] (0 * (kInt .u8).size) 0) :: Lr) := p3.nilRow 5
      obtain rfl := Option.some.inj h
      exact Goes.ret (fn := Try.f21) (by kernel_rfl) (v := .tuple #[.slice (Gp none) [].length 0, .bool false]) (by kernel_rfl) ⟨S3, none, 0, [], rfl, (((Ext.refl S0 w0).trans z2).trans z3), p3, (Els.nil : Els (kInt .u8) S3 w3 [] [])⟩

/-! tidepole/tidepolelaw02.works -/
def Post.tidepolelaw02_works (nz : Nat) (wz : World) (S0 : Fz) (w0 : World) (Lr : List Ent) (r : Bool) (v : Value) (w' : World) : Prop :=
  ∃ (S' : Fz) , v = .bool r ∧ Ext S0 w0 S' w' ∧ Hp nz wz S' w' (Lr)

theorem W.tidepolelaw02_works (r : Bool) (h : M.tidepolelaw02_works = some r) (nz : Nat) (wz : World) (S0 : Fz) (w0 : World) (Lr : List Ent) (p0 : Hp nz wz S0 w0 (Lr)) :
    Calls Try.prog 18 #[] w0 (Rets (Post.tidepolelaw02_works nz wz S0 w0 Lr r)) := by
  refine calls_of_goes (fn := Try.f18) (c := B18) (by kernel_rfl) (by kernel_rfl) 22 (by kernel_rfl) ?_
  refine Goes.jump 22 [] (by kernel_rfl) (fun junk => ?_)
  rw [M.tidepolelaw02_works] at h
  try dsimp only at h
  refine Goes.runs 6 [(0, .bool false)] [.inRegion (opsOf (sub [1, 0] B18)) [0, 1, 2, 3, 4, 5, 6, 7, 8], .code (sub [1, 1] B18)] (by kernel_rfl) ?_
  have f2 : Els (kInt .u8) S0 w0 ([.int .u8 97, .int .u8 98] : List Value) [97, 98] := (Els.cons (K := (kInt .u8)) (vs := [.int .u8 97]) (x := 97) rfl (Els.cons (K := (kInt .u8)) (vs := [.int .u8 98]) (x := 98) rfl Els.nil))
  refine Op_.made (.buildSlice 23 2 #[(0, (.const (.int .u8 97))), (1, (.const (.int .u8 98)))]) 4 23 (fun b => .slice (Gp (some b)) 2 2) 5 ([.int .u8 97, .int .u8 98] : List Value) p0 (Goes.vs (by kernel_rfl)) (by kernel_rfl) ?_
  intro b1 w2 z2 p2
  have p2 : Hp nz wz S0 w2 (((some b1), .row 5 ([.int .u8 97, .int .u8 98] : List Value) (2 * (kInt .u8).size) 0) :: Lr) := p2
  refine Op_.mks 23 (.tmp 4) 5 23 5 0 p2 rfl (f2.ext z2) (Goes.vs (by kernel_rfl)) (by kernel_rfl) (by kernel_rfl) (by kernel_rfl) ?_
  intro S3 w3 z3 p3 f4
  have p3 : Hp nz wz S3 w3 (Lr) := p3
  obtain ⟨y5, e6, h⟩ := bind_some h
  try dsimp only at h
  refine Op_.call (.call { callee := .value (.func 25), args := #[(.tmp 5)], argTypes := #[23] }) 6 23 25 #[.slice (Gp (some b1)) [97, 98].length 2] (Goes.cs (by kernel_rfl)) (by kernel_rfl) (W.crc_Sealed [97, 98] y5 e6 nz wz S3 w3 (Lr) (Gp (some b1)) 2 p3 f4) ?_
  rintro _ w4 ⟨S4, G7, c8, cs9, rfl, z4, p4, f11⟩
  have p4 : Hp nz wz S4 w4 ((G7, .row 5 cs9 (c8 * (kInt .u8).size) 0) :: Lr) := p4
  obtain ⟨S5, z5, p5, f13⟩ := p4.freezeRd 0 rfl f11 (by decide)
  have p5 : Hp nz wz S5 w4 ((G7, .row 5 cs9 (c8 * (kInt .u8).size) cs9.length) :: Lr) := p5
  obtain ⟨y14, e15, h⟩ := bind_some h
  try dsimp only at h
  refine Op_.call (.call { callee := .value (.func 21), args := #[(.tmp 6)], argTypes := #[23] }) 7 33 21 #[.slice (Gp G7) y5.length c8] (Goes.cs (by kernel_rfl)) (by kernel_rfl) (W.crc_Open y5 y14 e15 nz wz S5 w4 ((G7, .row 5 cs9 (c8 * (kInt .u8).size) cs9.length) :: Lr) (Gp G7) c8 p5 f13) ?_
  rintro _ w6 ⟨S6, G16, c17, cs18, rfl, z6, p6, f20⟩
  have p6 : Hp nz wz S6 w6 ((G16, .row 5 cs18 (c17 * (kInt .u8).size) 0) :: (G7, .row 5 cs9 (c8 * (kInt .u8).size) cs9.length) :: Lr) := p6
  refine Goes.runs 8 [(3, .tuple #[.slice (Gp G16) y14.1.length c17, .bool y14.2]), (8, .slice (Gp G16) y14.1.length c17), (9, .bool y14.2), (1, .slice (Gp G16) y14.1.length c17), (2, .bool y14.2)] [.inRegion (opsOf (sub [1, 1, 0] B18)) [0, 1, 2, 3, 4, 5, 6, 7, 8, 9, 10, 11, 12], .code (sub [1, 1, 1] B18)] (by kernel_rfl) ?_
  have f23 : Els (kInt .u8) S6 w6 ([.int .u8 49, .int .u8 50, .int .u8 51, .int .u8 52, .int .u8 53, .int .u8 54, .int .u8 55, .int .u8 56, .int .u8 57] : List Value) [49, 50, 51, 52, 53, 54, 55, 56, 57] := (Els.cons (K := (kInt .u8)) (vs := [.int .u8 49]) (x := 49) rfl (Els.cons (K := (kInt .u8)) (vs := [.int .u8 50]) (x := 50) rfl (Els.cons (K := (kInt .u8)) (vs := [.int .u8 51]) (x := 51) rfl (Els.cons (K := (kInt .u8)) (vs := [.int .u8 52]) (x := 52) rfl (Els.cons (K := (kInt .u8)) (vs := [.int .u8 53]) (x := 53) rfl (Els.cons (K := (kInt .u8)) (vs := [.int .u8 54]) (x := 54) rfl (Els.cons (K := (kInt .u8)) (vs := [.int .u8 55]) (x := 55) rfl (Els.cons (K := (kInt .u8)) (vs := [.int .u8 56]) (x := 56) rfl (Els.cons (K := (kInt .u8)) (vs := [.int .u8 57]) (x := 57) rfl Els.nil)))))))))
  refine Op_.made (.buildSlice 23 9 #[(0, (.const (.int .u8 49))), (1, (.const (.int .u8 50))), (2, (.const (.int .u8 51))), (3, (.const (.int .u8 52))), (4, (.const (.int .u8 53))), (5, (.const (.int .u8 54))), (6, (.const (.int .u8 55))), (7, (.const (.int .u8 56))), (8, (.const (.int .u8 57)))]) 10 23 (fun b => .slice (Gp (some b)) 9 9) 5 ([.int .u8 49, .int .u8 50, .int .u8 51, .int .u8 52, .int .u8 53, .int .u8 54, .int .u8 55, .int .u8 56, .int .u8 57] : List Value) p6 (Goes.vs (by kernel_rfl)) (by kernel_rfl) ?_
  intro b22 w7 z7 p7
  have p7 : Hp nz wz S6 w7 (((some b22), .row 5 ([.int .u8 49, .int .u8 50, .int .u8 51, .int .u8 52, .int .u8 53, .int .u8 54, .int .u8 55, .int .u8 56, .int .u8 57] : List Value) (9 * (kInt .u8).size) 0) :: (G16, .row 5 cs18 (c17 * (kInt .u8).size) 0) :: (G7, .row 5 cs9 (c8 * (kInt .u8).size) cs9.length) :: Lr) := p7
  refine Op_.mks 23 (.tmp 10) 11 23 5 0 p7 rfl (f23.ext z7) (Goes.vs (by kernel_rfl)) (by kernel_rfl) (by kernel_rfl) (by kernel_rfl) ?_
  intro S8 w8 z8 p8 f25
  have p8 : Hp nz wz S8 w8 ((G16, .row 5 cs18 (c17 * (kInt .u8).size) 0) :: (G7, .row 5 cs9 (c8 * (kInt .u8).size) cs9.length) :: Lr) := p8
  obtain ⟨y26, e27, h⟩ := bind_some h
  try dsimp only at h
  refine Op_.call (.call { callee := .value (.func 13), args := #[(.tmp 11)], argTypes := #[23] }) 12 22 13 #[.slice (Gp (some b22)) [49, 50, 51, 52, 53, 54, 55, 56, 57].length 9] (Goes.cs (by kernel_rfl)) (by kernel_rfl) (W.crc_Sum [49, 50, 51, 52, 53, 54, 55, 56, 57] y26 e27 nz wz S8 w8 ((G16, .row 5 cs18 (c17 * (kInt .u8).size) 0) :: (G7, .row 5 cs9 (c8 * (kInt .u8).size) cs9.length) :: Lr) (Gp (some b22)) 9 p8 f25) ?_
  rintro _ w9 ⟨S9, rfl, z9, p9⟩
  have p9 : Hp nz wz S9 w9 ((G16, .row 5 cs18 (c17 * (kInt .u8).size) 0) :: (G7, .row 5 cs9 (c8 * (kInt .u8).size) cs9.length) :: Lr) := p9
  refine Goes.runs 2 [(13, .bool (decide (y26 = 3808858755))), (14, .bool (decide (y26 = 3808858755)))] [.inRegion (opsOf (sub [1, 1, 0] B18)) [5, 6, 7, 8, 9, 10, 11, 12], .code (sub [1, 1, 1] B18)] (by kernel_rfl) ?_
  by_cases h28 : y26 = 3808858755
  · rw [if_pos h28] at h
    rw [decide_eq_true h28]
    refine Goes.runs 1 [(15, .slice (Gp G16) y14.1.length c17)] [.inRegion (opsOf (sub [1, 1, 0] B18)) [6, 7, 8, 9, 10, 11, 12], .code (sub [1, 1, 1] B18)] (by kernel_rfl) ?_
    obtain ⟨S10, z10, p10, f29⟩ := p9.freezeRd 0 rfl (((f20.ext z7).ext z8).ext z9) (by decide)
    have p10 : Hp nz wz S10 w9 ((G16, .row 5 cs18 (c17 * (kInt .u8).size) cs18.length) :: (G7, .row 5 cs9 (c8 * (kInt .u8).size) cs9.length) :: Lr) := p10
    refine Op_.b2s 23 9 (.tmp 15) 16 9 5 f29 (Goes.vs (by kernel_rfl)) (by kernel_rfl) (by kernel_rfl) (by kernel_rfl) (by kernel_rfl) ?_
    refine Goes.runs 3 [(17, .bool ((b2s y14.1).toList == (⟨#[97, 98]⟩ : ByteArray).toList)), (18, .bool ((b2s y14.1).toList == (⟨#[97, 98]⟩ : ByteArray).toList)), (19, .bool ((b2s y14.1).toList == (⟨#[97, 98]⟩ : ByteArray).toList))] [.inRegion (opsOf (sub [1, 1, 0] B18)) [10, 11, 12], .code (sub [1, 1, 1] B18)] (by kernel_rfl) ?_
    by_cases h30 : ((b2s y14.1).toList == (⟨#[97, 98]⟩ : ByteArray).toList) = true
    · rw [if_pos h30] at h
      rw [h30]
      refine Goes.runs 4 [(20, .bool y14.2), (21, .bool y14.2), (0, .bool y14.2)] [.code (sub [1, 1, 1] B18)] (by kernel_rfl) ?_
      have p10 : Hp nz wz S10 w9 ((G7, .row 5 cs9 (c8 * (kInt .u8).size) cs9.length) :: Lr) := (p10.front 0 _ rfl).drop
      have p10 : Hp nz wz S10 w9 (Lr) := (p10.front 0 _ rfl).drop
      obtain rfl := Option.some.inj h
      exact Goes.ret (fn := Try.f18) (by kernel_rfl) (v := .bool y14.2) (by kernel_rfl) ⟨S10, rfl, ((((((((((Ext.refl S0 w0).trans z2).trans z3).trans z4).trans z5).trans z6).trans z7).trans z8).trans z9).trans z10), p10⟩
    · rw [if_neg h30] at h
      have h30' : ((b2s y14.1).toList == (⟨#[97, 98]⟩ : ByteArray).toList) = false := by simpa using h30
      rw [h30']
      refine Goes.runs 4 [(20, undef), (21, .bool false), (0, .bool false)] [.code (sub [1, 1, 1] B18)] (by kernel_rfl) ?_
      have p10 : Hp nz wz S10 w9 ((G7, .row 5 cs9 (c8 * (kInt .u8).size) cs9.length) :: Lr) := (p10.front 0 _ rfl).drop
      have p10 : Hp nz wz S10 w9 (Lr) := (p10.front 0 _ rfl).drop
      obtain rfl := Option.some.inj h
      exact Goes.ret (fn := Try.f18) (by kernel_rfl) (v := .bool false) (by kernel_rfl) ⟨S10, rfl, ((((((((((Ext.refl S0 w0).trans z2).trans z3).trans z4).trans z5).trans z6).trans z7).trans z8).trans z9).trans z10), p10⟩
  · rw [if_neg h28] at h
    rw [decide_eq_false h28]
    refine Goes.runs 9 [(15, undef), (16, undef), (17, undef), (18, .bool false), (19, .bool false), (20, undef), (21, .bool false), (0, .bool false)] [.code (sub [1, 1, 1] B18)] (by kernel_rfl) ?_
    have p9 : Hp nz wz S9 w9 ((G7, .row 5 cs9 (c8 * (kInt .u8).size) cs9.length) :: Lr) := (p9.front 0 _ rfl).drop
    have p9 : Hp nz wz S9 w9 (Lr) := (p9.front 0 _ rfl).drop
    obtain rfl := Option.some.inj h
    exact Goes.ret (fn := Try.f18) (by kernel_rfl) (v := .bool false) (by kernel_rfl) ⟨S9, rfl, (((((((((Ext.refl S0 w0).trans z2).trans z3).trans z4).trans z5).trans z6).trans z7).trans z8).trans z9), p9⟩

/-! tidepole/tidepolelaw02.CrcSums -/
def Post.tidepolelaw02_CrcSums (nz : Nat) (wz : World) (S0 : Fz) (w0 : World) (Lr : List Ent) (r : Bool) (v : Value) (w' : World) : Prop :=
  ∃ (S' : Fz) , v = .bool r ∧ Ext S0 w0 S' w' ∧ Hp nz wz S' w' (Lr)

theorem W.tidepolelaw02_CrcSums (x0 : Int) (x1 : List Int) (r : Bool) (h : M.tidepolelaw02_CrcSums x0 x1 = some r) (nz : Nat) (wz : World) (S0 : Fz) (w0 : World) (Lr : List Ent) (Ax1 : Option Addr) (cx1 : Nat) (p0 : Hp nz wz S0 w0 (Lr)) (fx1 : Rd (kInt .u8) S0 w0 Ax1 cx1 x1) :
    Calls Try.prog 3 #[.int .u32 x0, .slice Ax1 x1.length cx1] w0 (Rets (Post.tidepolelaw02_CrcSums nz wz S0 w0 Lr r)) := by
  refine calls_of_goes (fn := Try.f3) (c := B3) (by kernel_rfl) (by kernel_rfl) 30 (by kernel_rfl) ?_
  refine Goes.jump 32 [(0, .int .u32 x0), (1, .slice Ax1 x1.length cx1)] (by kernel_rfl) (fun junk => ?_)
  rw [M.tidepolelaw02_CrcSums] at h
  try dsimp only at h
  refine Goes.runs 7 [(4, .bool false), (6, .slice Ax1 x1.length cx1)] [.inRegion (opsOf (sub [1, 0] B3)) [1, 2], .code (sub [1, 1] B3)] (by kernel_rfl) ?_
  obtain ⟨y1, e2, h⟩ := bind_some h
  try dsimp only at h
  refine Op_.call (.call { callee := .value (.func 11), args := #[(.tmp 6)], argTypes := #[23] }) 7 23 11 #[.slice Ax1 x1.length cx1] (Goes.cs (by kernel_rfl)) (by kernel_rfl) (W.tidepolelaw02_short x1 y1 e2 nz wz S0 w0 (Lr) Ax1 cx1 p0 fx1) ?_
  rintro _ w2 ⟨S2, A3, c4, rfl, z2, p2, f5⟩
  have p2 : Hp nz wz S2 w2 (Lr) := p2
  refine Goes.runs 5 [(1, .slice A3 y1.length c4), (8, .slice A3 y1.length c4)] [.inRegion (opsOf (sub [1, 1, 0] B3)) [1, 2], .code (sub [1, 1, 1] B3)] (by kernel_rfl) ?_
  obtain ⟨y6, e7, h⟩ := bind_some h
  try dsimp only at h
  refine Op_.call (.call { callee := .value (.func 12), args := #[(.tmp 8)], argTypes := #[23] }) 9 23 12 #[.slice A3 y1.length c4] (Goes.cs (by kernel_rfl)) (by kernel_rfl) (W.tidepolebase_Bytes y1 y6 e7 nz wz S2 w2 (Lr) A3 c4 p2 f5) ?_
  rintro _ w3 ⟨S3, G8, c9, cs10, rfl, z3, p3, f12⟩
  have p3 : Hp nz wz S3 w3 ((G8, .row 5 cs10 (c9 * (kInt .u8).size) 0) :: Lr) := p3
  refine Goes.runs 5 [(5, .slice (Gp G8) y6.length c9), (10, .slice (Gp G8) y6.length c9)] [.inRegion (opsOf (sub [1, 1, 1, 0] B3)) [1, 2, 3, 4, 5, 6, 7, 8, 9, 10, 11, 12, 13, 14, 15, 16, 17, 18, 19, 20, 21, 22], .code (sub [1, 1, 1, 1] B3)] (by kernel_rfl) ?_
  obtain ⟨S4, z4, p4, f14⟩ := p3.freezeRd 0 rfl f12 (by decide)
  have p4 : Hp nz wz S4 w3 ((G8, .row 5 cs10 (c9 * (kInt .u8).size) cs10.length) :: Lr) := p4
  obtain ⟨y15, e16, h⟩ := bind_some h
  try dsimp only at h
  refine Op_.call (.call { callee := .value (.func 13), args := #[(.tmp 10)], argTypes := #[23] }) 11 22 13 #[.slice (Gp G8) y6.length c9] (Goes.cs (by kernel_rfl)) (by kernel_rfl) (W.crc_Sum y6 y15 e16 nz wz S4 w3 ((G8, .row 5 cs10 (c9 * (kInt .u8).size) cs10.length) :: Lr) (Gp G8) c9 p4 f14) ?_
  rintro _ w5 ⟨S5, rfl, z5, p5⟩
  have p5 : Hp nz wz S5 w5 ((G8, .row 5 cs10 (c9 * (kInt .u8).size) cs10.length) :: Lr) := p5
  refine Goes.runs 1 [(12, .slice A3 y1.length c4)] [.inRegion (opsOf (sub [1, 1, 1, 0] B3)) [3, 4, 5, 6, 7, 8, 9, 10, 11, 12, 13, 14, 15, 16, 17, 18, 19, 20, 21, 22], .code (sub [1, 1, 1, 1] B3)] (by kernel_rfl) ?_
  obtain ⟨y17, e18, h⟩ := bind_some h
  try dsimp only at h
  refine Op_.call (.call { callee := .value (.func 14), args := #[(.tmp 12)], argTypes := #[23] }) 13 22 14 #[.slice A3 y1.length c4] (Goes.cs (by kernel_rfl)) (by kernel_rfl) (W.tidepoleref02_Sum y1 y17 e18 nz wz S5 w5 ((G8, .row 5 cs10 (c9 * (kInt .u8).size) cs10.length) :: Lr) A3 c4 p5 (((f5.ext z3).ext z4).ext z5)) ?_
  rintro _ w6 ⟨S6, rfl, z6, p6⟩
  have p6 : Hp nz wz S6 w6 ((G8, .row 5 cs10 (c9 * (kInt .u8).size) cs10.length) :: Lr) := p6
  refine Goes.runs 2 [(14, .bool (decide (y15 = y17))), (15, .bool (decide (y15 = y17)))] [.inRegion (opsOf (sub [1, 1, 1, 0] B3)) [6, 7, 8, 9, 10, 11, 12, 13, 14, 15, 16, 17, 18, 19, 20, 21, 22], .code (sub [1, 1, 1, 1] B3)] (by kernel_rfl) ?_
  by_cases h19 : y15 = y17
  · rw [if_pos h19] at h
    rw [decide_eq_true h19]
    refine Goes.runs 2 [(16, .int .u32 x0), (17, .slice (Gp G8) y6.length c9)] [.inRegion (opsOf (sub [1, 1, 1, 0] B3)) [8, 9, 10, 11, 12, 13, 14, 15, 16, 17, 18, 19, 20, 21, 22], .code (sub [1, 1, 1, 1] B3)] (by kernel_rfl) ?_
    obtain ⟨y20, e21, h⟩ := bind_some h
    try dsimp only at h
    refine Op_.call (.call { callee := .value (.func 15), args := #[(.tmp 16), (.tmp 17)], argTypes := #[22, 23] }) 18 22 15 #[.int .u32 x0, .slice (Gp G8) y6.length c9] (Goes.cs (by kernel_rfl)) (by kernel_rfl) (W.crc_More x0 y6 y20 e21 nz wz S6 w6 ((G8, .row 5 cs10 (c9 * (kInt .u8).size) cs10.length) :: Lr) (Gp G8) c9 p6 ((f14.ext z5).ext z6)) ?_
    rintro _ w7 ⟨S7, rfl, z7, p7⟩
    have p7 : Hp nz wz S7 w7 ((G8, .row 5 cs10 (c9 * (kInt .u8).size) cs10.length) :: Lr) := p7
    refine Goes.runs 2 [(19, .int .u32 x0), (20, .slice A3 y1.length c4)] [.inRegion (opsOf (sub [1, 1, 1, 0] B3)) [11, 12, 13, 14, 15, 16, 17, 18, 19, 20, 21, 22], .code (sub [1, 1, 1, 1] B3)] (by kernel_rfl) ?_
    obtain ⟨y22, e23, h⟩ := bind_some h
    try dsimp only at h
    refine Op_.call (.call { callee := .value (.func 16), args := #[(.tmp 19), (.tmp 20)], argTypes := #[22, 23] }) 21 22 16 #[.int .u32 x0, .slice A3 y1.length c4] (Goes.cs (by kernel_rfl)) (by kernel_rfl) (W.tidepoleref02_More x0 y1 y22 e23 nz wz S7 w7 ((G8, .row 5 cs10 (c9 * (kInt .u8).size) cs10.length) :: Lr) A3 c4 p7 (((((f5.ext z3).ext z4).ext z5).ext z6).ext z7)) ?_
    rintro _ w8 ⟨S8, rfl, z8, p8⟩
    have p8 : Hp nz wz S8 w8 ((G8, .row 5 cs10 (c9 * (kInt .u8).size) cs10.length) :: Lr) := p8
    refine Goes.runs 3 [(22, .bool (decide (y20 = y22))), (23, .bool (decide (y20 = y22))), (24, .bool (decide (y20 = y22)))] [.inRegion (opsOf (sub [1, 1, 1, 0] B3)) [15, 16, 17, 18, 19, 20, 21, 22], .code (sub [1, 1, 1, 1] B3)] (by kernel_rfl) ?_
    by_cases h24 : y20 = y22
    · rw [if_pos h24] at h
      rw [decide_eq_true h24]
      refine Goes.runs 2 [(25, .slice (Gp G8) y6.length c9), (26, .slice A3 y1.length c4)] [.inRegion (opsOf (sub [1, 1, 1, 0] B3)) [17, 18, 19, 20, 21, 22], .code (sub [1, 1, 1, 1] B3)] (by kernel_rfl) ?_
      obtain ⟨y25, e26, h⟩ := bind_some h
      try dsimp only at h
      refine Op_.call (.call { callee := .value (.func 17), args := #[(.tmp 25), (.tmp 26)], argTypes := #[23, 23] }) 27 4 17 #[.slice (Gp G8) y6.length c9, .slice A3 y1.length c4] (Goes.cs (by kernel_rfl)) (by kernel_rfl) (W.tidepolebase_SameBytes y6 y1 y25 e26 nz wz S8 w8 ((G8, .row 5 cs10 (c9 * (kInt .u8).size) cs10.length) :: Lr) (Gp G8) c9 A3 c4 p8 ((((f14.ext z5).ext z6).ext z7).ext z8) ((((((f5.ext z3).ext z4).ext z5).ext z6).ext z7).ext z8)) ?_
      rintro _ w9 ⟨S9, rfl, z9, p9⟩
      have p9 : Hp nz wz S9 w9 ((G8, .row 5 cs10 (c9 * (kInt .u8).size) cs10.length) :: Lr) := p9
      refine Goes.runs 2 [(28, .bool y25), (29, .bool y25)] [.inRegion (opsOf (sub [1, 1, 1, 0] B3)) [20, 21, 22], .code (sub [1, 1, 1, 1] B3)] (by kernel_rfl) ?_
      by_cases h27 : y25 = true
      · rw [if_pos h27] at h
        rw [h27]
        obtain ⟨y28, e29, h⟩ := bind_some h
        try dsimp only at h
        refine Op_.call (.call { callee := .value (.func 18), args := #[], argTypes := #[] }) 30 4 18 #[] (Goes.cs (by kernel_rfl)) (by kernel_rfl) (W.tidepolelaw02_works  y28 e29 nz wz S9 w9 ((G8, .row 5 cs10 (c9 * (kInt .u8).size) cs10.length) :: Lr)  p9 ) ?_
        rintro _ w10 ⟨S10, rfl, z10, p10⟩
        have p10 : Hp nz wz S10 w10 ((G8, .row 5 cs10 (c9 * (kInt .u8).size) cs10.length) :: Lr) := p10
        refine Goes.runs 3 [(31, .bool y28), (4, .bool y28)] [.code (sub [1, 1, 1, 1] B3)] (by kernel_rfl) ?_
        have p10 : Hp nz wz S10 w10 (Lr) := (p10.front 0 _ rfl).drop
        obtain rfl := Option.some.inj h
        exact Goes.ret (fn := Try.f3) (by kernel_rfl) (v := .bool y28) (by kernel_rfl) ⟨S10, rfl, ((((((((((Ext.refl S0 w0).trans z2).trans z3).trans z4).trans z5).trans z6).trans z7).trans z8).trans z9).trans z10), p10⟩
      · rw [if_neg h27] at h
        have h27' : y25 = false := by simpa using h27
        rw [h27']
        refine Goes.runs 4 [(30, undef), (31, .bool false), (4, .bool false)] [.code (sub [1, 1, 1, 1] B3)] (by kernel_rfl) ?_
        have p9 : Hp nz wz S9 w9 (Lr) := (p9.front 0 _ rfl).drop
        obtain rfl := Option.some.inj h
        exact Goes.ret (fn := Try.f3) (by kernel_rfl) (v := .bool false) (by kernel_rfl) ⟨S9, rfl, (((((((((Ext.refl S0 w0).trans z2).trans z3).trans z4).trans z5).trans z6).trans z7).trans z8).trans z9), p9⟩
    · rw [if_neg h24] at h
      rw [decide_eq_false h24]
      refine Goes.runs 9 [(25, undef), (26, undef), (27, undef), (28, .bool false), (29, .bool false), (30, undef), (31, .bool false), (4, .bool false)] [.code (sub [1, 1, 1, 1] B3)] (by kernel_rfl) ?_
      have p8 : Hp nz wz S8 w8 (Lr) := (p8.front 0 _ rfl).drop
      obtain rfl := Option.some.inj h
      exact Goes.ret (fn := Try.f3) (by kernel_rfl) (v := .bool false) (by kernel_rfl) ⟨S8, rfl, ((((((((Ext.refl S0 w0).trans z2).trans z3).trans z4).trans z5).trans z6).trans z7).trans z8), p8⟩
  · rw [if_neg h19] at h
    rw [decide_eq_false h19]
    refine Goes.runs 18 [(16, undef), (17, undef), (18, undef), (19, undef), (20, undef), (21, undef), (22, undef), (23, .bool false), (24, .bool false), (25, undef), (26, undef), (27, undef), (28, .bool false), (29, .bool false), (30, undef), (31, .bool false), (4, .bool false)] [.code (sub [1, 1, 1, 1] B3)] (by kernel_rfl) ?_
    have p6 : Hp nz wz S6 w6 (Lr) := (p6.front 0 _ rfl).drop
    obtain rfl := Option.some.inj h
    exact Goes.ret (fn := Try.f3) (by kernel_rfl) (v := .bool false) (by kernel_rfl) ⟨S6, rfl, ((((((Ext.refl S0 w0).trans z2).trans z3).trans z4).trans z5).trans z6), p6⟩

/-! tidepole/tidepoleref02.Read -/
def Post.tidepoleref02_Read (nz : Nat) (wz : World) (S0 : Fz) (w0 : World) (Lr : List Ent) (r : Int × Int) (v : Value) (w' : World) : Prop :=
  ∃ (S' : Fz) , v = .tuple #[.int .u32 r.1, .int .i64 r.2] ∧ Ext S0 w0 S' w' ∧ Hp nz wz S' w' (Lr)

theorem W.tidepoleref02_Read (x0 : List Int) (r : Int × Int) (h : M.tidepoleref02_Read x0 = some r) (nz : Nat) (wz : World) (S0 : Fz) (w0 : World) (Lr : List Ent) (Ax0 : Option Addr) (cx0 : Nat) (p0 : Hp nz wz S0 w0 (Lr)) (fx0 : Rd (kInt .u8) S0 w0 Ax0 cx0 x0) :
    Calls Try.prog 20 #[.slice Ax0 x0.length cx0] w0 (Rets (Post.tidepoleref02_Read nz wz S0 w0 Lr r)) := by
  refine calls_of_goes (fn := Try.f20) (c := B20) (by kernel_rfl) (by kernel_rfl) 28 (by kernel_rfl) ?_
  refine Goes.jump 29 [(0, .slice Ax0 x0.length cx0)] (by kernel_rfl) (fun junk => ?_)
  rw [M.tidepoleref02_Read] at h
  try dsimp only at h
  refine Goes.runs 12 [(2, .int .u32 0), (3, .int .i64 0), (4, .slice Ax0 x0.length cx0), (5, .int .i64 (x0.length : Int)), (6, .bool (decide ((x0.length : Int) < 4)))] [.code (sub [1, 0, 1] B20), .code (sub [1, 1] B20)] (by kernel_rfl) ?_
  by_cases h1 : (x0.length : Int) < 4
  · rw [if_pos h1] at h
    rw [decide_eq_true h1]
    refine Goes.runs 6 [(2, .int .u32 0), (3, .int .i64 7)] [.code (sub [1, 0, 1, 0, 1] B20), .code (sub [1, 1] B20)] (by kernel_rfl) ?_
    obtain rfl := Option.some.inj h
    exact Goes.ret (fn := Try.f20) (by kernel_rfl) (v := .tuple #[.int .u32 0, .int .i64 7]) (by kernel_rfl) ⟨S0, rfl, (Ext.refl S0 w0), p0⟩
  · rw [if_neg h1] at h
    rw [decide_eq_false h1]
    refine Goes.runs 3 [] [.code (sub [1, 1, 0] B20), .code (sub [1, 1, 1] B20)] (by kernel_rfl) ?_
    have z2 : Ext S0 w0 S0 (w0).drew := Ext.draw
    have p2 := p0.draw
    refine Goes.drawn (s := 24) (F := Fc S0 (w0).drew []) 3 24 (by kernel_rfl) (by kernel_rfl) (by kernel_rfl) (by kernel_rfl) ?_
    generalize (w0).drew = w2 at z2 p2 ⊢
    refine AnyG.pure (i := 0) (.move (.tmp 0)) 7 23 (.slice Ax0 x0.length cx0) (by kernel_rfl) (by kernel_rfl) (by kernel_rfl) (Fc.here trivial) ?_
    obtain ⟨g2, h⟩ := guard_some h
    refine AnyG.ixR (i := 1) 23 (.tmp 7) (.const (.int .i64 0)) 8 0 5 .i64 0 (fx0.ext z2) (by kernel_rfl) (by kernel_rfl) (Fc.here trivial) (by kernel_rfl) (by kernel_rfl) (by kernel_rfl) (by kernel_rfl) (by decide) g2 ?_
    rintro a3 _ f4 rfl
    refine AnyG.ld1 (i := 2) 5 (.tmp 8) 9 5 a3 (.int .u8 (gi x0 0)) (by kernel_rfl) (by kernel_rfl) (Fc.here trivial) (by kernel_rfl) (by kernel_rfl) (fun _ h => f4.fc h 0 _ rfl) ?_
    refine AnyG.pure (i := 3) (.convert 5 22 (.tmp 9)) 10 22 (.int .u32 (wr .u32 (gi x0 0))) (by kernel_rfl) (by kernel_rfl) (by kernel_rfl) (Fc.here trivial) ?_
    refine AnyG.pure (i := 4) (.move (.tmp 0)) 11 23 (.slice Ax0 x0.length cx0) (by kernel_rfl) (by kernel_rfl) (by kernel_rfl) (Fc.here trivial) ?_
    obtain ⟨g5, h⟩ := guard_some h
    refine AnyG.ixR (i := 5) 23 (.tmp 11) (.const (.int .i64 1)) 12 0 5 .i64 1 (fx0.ext z2) (by kernel_rfl) (by kernel_rfl) (Fc.here trivial) (by kernel_rfl) (by kernel_rfl) (by kernel_rfl) (by kernel_rfl) (by decide) g5 ?_
    rintro a6 _ f7 rfl
    refine AnyG.ld1 (i := 6) 5 (.tmp 12) 13 5 a6 (.int .u8 (gi x0 1)) (by kernel_rfl) (by kernel_rfl) (Fc.here trivial) (by kernel_rfl) (by kernel_rfl) (fun _ h => f7.fc h 0 _ rfl) ?_
    refine AnyG.pure (i := 7) (.convert 5 22 (.tmp 13)) 14 22 (.int .u32 (wr .u32 (gi x0 1))) (by kernel_rfl) (by kernel_rfl) (by kernel_rfl) (Fc.here trivial) ?_
    refine AnyG.pure (i := 8) (.binOp .mul 22 (.const (.int .u32 256)) (.tmp 14) 22) 15 22 (.int .u32 (wr .u32 (256 * (wr .u32 (gi x0 1))))) (by kernel_rfl) (by kernel_rfl) (by kernel_rfl) (Fc.here trivial) ?_
    refine AnyG.pure (i := 9) (.binOp .add 22 (.tmp 10) (.tmp 15) 22) 16 22 (.int .u32 (wr .u32 ((wr .u32 (gi x0 0)) + (wr .u32 (256 * (wr .u32 (gi x0 1))))))) (by kernel_rfl) (by kernel_rfl) (by kernel_rfl) (Fc.here trivial) ?_
    refine AnyG.pure (i := 10) (.move (.tmp 0)) 17 23 (.slice Ax0 x0.length cx0) (by kernel_rfl) (by kernel_rfl) (by kernel_rfl) (Fc.here trivial) ?_
    obtain ⟨g8, h⟩ := guard_some h
    refine AnyG.ixR (i := 11) 23 (.tmp 17) (.const (.int .i64 2)) 18 0 5 .i64 2 (fx0.ext z2) (by kernel_rfl) (by kernel_rfl) (Fc.here trivial) (by kernel_rfl) (by kernel_rfl) (by kernel_rfl) (by kernel_rfl) (by decide) g8 ?_
    rintro a9 _ f10 rfl
    refine AnyG.ld1 (i := 12) 5 (.tmp 18) 19 5 a9 (.int .u8 (gi x0 2)) (by kernel_rfl) (by kernel_rfl) (Fc.here trivial) (by kernel_rfl) (by kernel_rfl) (fun _ h => f10.fc h 0 _ rfl) ?_
    refine AnyG.pure (i := 13) (.convert 5 22 (.tmp 19)) 20 22 (.int .u32 (wr .u32 (gi x0 2))) (by kernel_rfl) (by kernel_rfl) (by kernel_rfl) (Fc.here trivial) ?_
    refine AnyG.pure (i := 14) (.binOp .mul 22 (.const (.int .u32 65536)) (.tmp 20) 22) 21 22 (.int .u32 (wr .u32 (65536 * (wr .u32 (gi x0 2))))) (by kernel_rfl) (by kernel_rfl) (by kernel_rfl) (Fc.here trivial) ?_
    refine AnyG.pure (i := 15) (.binOp .add 22 (.tmp 16) (.tmp 21) 22) 22 22 (.int .u32 (wr .u32 ((wr .u32 ((wr .u32 (gi x0 0)) + (wr .u32 (256 * (wr .u32 (gi x0 1)))))) + (wr .u32 (65536 * (wr .u32 (gi x0 2))))))) (by kernel_rfl) (by kernel_rfl) (by kernel_rfl) (Fc.here trivial) ?_
    refine AnyG.pure (i := 16) (.move (.tmp 0)) 23 23 (.slice Ax0 x0.length cx0) (by kernel_rfl) (by kernel_rfl) (by kernel_rfl) (Fc.here trivial) ?_
    obtain ⟨g11, h⟩ := guard_some h
    refine AnyG.ixR (i := 17) 23 (.tmp 23) (.const (.int .i64 3)) 24 0 5 .i64 3 (fx0.ext z2) (by kernel_rfl) (by kernel_rfl) (Fc.here trivial) (by kernel_rfl) (by kernel_rfl) (by kernel_rfl) (by kernel_rfl) (by decide) g11 ?_
    rintro a12 _ f13 rfl
    refine AnyG.ld1 (i := 18) 5 (.tmp 24) 25 5 a12 (.int .u8 (gi x0 3)) (by kernel_rfl) (by kernel_rfl) (Fc.here trivial) (by kernel_rfl) (by kernel_rfl) (fun _ h => f13.fc h 0 _ rfl) ?_
    refine AnyG.pure (i := 19) (.convert 5 22 (.tmp 25)) 26 22 (.int .u32 (wr .u32 (gi x0 3))) (by kernel_rfl) (by kernel_rfl) (by kernel_rfl) (Fc.here trivial) ?_
    refine AnyG.pure (i := 20) (.binOp .mul 22 (.const (.int .u32 16777216)) (.tmp 26) 22) 27 22 (.int .u32 (wr .u32 (16777216 * (wr .u32 (gi x0 3))))) (by kernel_rfl) (by kernel_rfl) (by kernel_rfl) (Fc.here trivial) ?_
    refine AnyG.pure (i := 21) (.binOp .add 22 (.tmp 22) (.tmp 27) 22) 28 22 (.int .u32 (wr .u32 ((wr .u32 ((wr .u32 ((wr .u32 (gi x0 0)) + (wr .u32 (256 * (wr .u32 (gi x0 1)))))) + (wr .u32 (65536 * (wr .u32 (gi x0 2)))))) + (wr .u32 (16777216 * (wr .u32 (gi x0 3))))))) (by kernel_rfl) (by kernel_rfl) (by kernel_rfl) (Fc.here trivial) ?_
    refine AnyG.pure (i := 22) (.assign (.tmp 28)) 2 22 (.int .u32 (wr .u32 ((wr .u32 ((wr .u32 ((wr .u32 (gi x0 0)) + (wr .u32 (256 * (wr .u32 (gi x0 1)))))) + (wr .u32 (65536 * (wr .u32 (gi x0 2)))))) + (wr .u32 (16777216 * (wr .u32 (gi x0 3))))))) (by kernel_rfl) (by kernel_rfl) (by kernel_rfl) (Fc.here trivial) ?_
    refine AnyG.pure (i := 23) (.assign (.const (.int .i64 0))) 3 30 (.int .i64 0) (by kernel_rfl) (by kernel_rfl) (by kernel_rfl) (Fc.here trivial) ?_
    refine AnyG.done (by kernel_rfl) ?_ _
    obtain rfl := Option.some.inj h
    exact Goes.ret (fn := Try.f20) (by kernel_rfl) (v := .tuple #[.int .u32 (wr .u32 ((wr .u32 ((wr .u32 ((wr .u32 (gi x0 0)) + (wr .u32 (256 * (wr .u32 (gi x0 1)))))) + (wr .u32 (65536 * (wr .u32 (gi x0 2)))))) + (wr .u32 (16777216 * (wr .u32 (gi x0 3)))))), .int .i64 0]) (by kernel_rfl) ⟨S0, rfl, ((Ext.refl S0 w0).trans z2), p2⟩

/-! tidepole/tidepoleref02.Open -/
def Post.tidepoleref02_Open (nz : Nat) (wz : World) (S0 : Fz) (w0 : World) (Lr : List Ent) (r : (List Int) × Bool) (v : Value) (w' : World) : Prop :=
  ∃ (S' : Fz) (G1 : Option Nat) (c2 : Nat) (cs3 : List Value), v = .tuple #[.slice (Gp G1) r.1.length c2, .bool r.2] ∧ Ext S0 w0 S' w' ∧ Hp nz wz S' w' ((G1, .row 5 cs3 (c2 * (kInt .u8).size) 0) :: Lr) ∧ Els (kInt .u8) S' w' cs3 r.1

theorem W.tidepoleref02_Open (x0 : List Int) (r : (List Int) × Bool) (h : M.tidepoleref02_Open x0 = some r) (nz : Nat) (wz : World) (S0 : Fz) (w0 : World) (Lr : List Ent) (Ax0 : Option Addr) (cx0 : Nat) (p0 : Hp nz wz S0 w0 (Lr)) (fx0 : Rd (kInt .u8) S0 w0 Ax0 cx0 x0) :
    Calls Try.prog 22 #[.slice Ax0 x0.length cx0] w0 (Rets (Post.tidepoleref02_Open nz wz S0 w0 Lr r)) := by
  refine calls_of_goes (fn := Try.f22) (c := B22) (by kernel_rfl) (by kernel_rfl) 30 (by kernel_rfl) ?_
  refine Goes.jump 31 [(0, .slice Ax0 x0.length cx0)] (by kernel_rfl) (fun junk => ?_)
  rw [M.tidepoleref02_Open] at h
  try dsimp only at h
  refine Goes.runs 12 [(2, .slice none 0 0), (3, .bool false), (7, .slice Ax0 x0.length cx0), (8, .int .i64 (x0.length : Int)), (9, .bool (decide ((x0.length : Int) < 4)))] [.code (sub [1, 0, 1] B22), .code (sub [1, 1] B22)] (by kernel_rfl) ?_
  by_cases h1 : (x0.length : Int) < 4
  · rw [if_pos h1] at h
    rw [decide_eq_true h1]
    refine Goes.runs 6 [(2, .slice none 0 0), (3, .bool false)] [.code (sub [1, 0, 1, 0, 1] B22), .code (sub [1, 1] B22)] (by kernel_rfl) ?_
    have p0 : Hp nz wz S0 w0 ((none, .row 5 [] (0 * (kInt .u8).size) 0) :: Lr) := p0.nilRow 5
    obtain rfl := Option.some.inj h
    exact Goes.ret (fn := Try.f22) (by kernel_rfl) (v := .tuple #[.slice (Gp none) [].length 0, .bool false]) (by kernel_rfl) ⟨S0, none, 0, [], rfl, (Ext.refl S0 w0), p0, (Els.nil : Els (kInt .u8) S0 w0 [] [])⟩
  · rw [if_neg h1] at h
    rw [decide_eq_false h1]
    refine Goes.runs 13 [(10, .slice Ax0 x0.length cx0), (11, .int .i64 (x0.length : Int)), (12, .int .i64 (wr .i64 ((x0.length : Int) - 4))), (4, .int .i64 (wr .i64 ((x0.length : Int) - 4))), (14, .slice Ax0 x0.length cx0), (15, .int .i64 (wr .i64 ((x0.length : Int) - 4)))] [.inRegion (opsOf (sub [1, 1, 1, 0] B22)) [2, 3, 4, 5, 6, 7, 8], .code (sub [1, 1, 1, 1] B22)] (by kernel_rfl) ?_
    obtain ⟨g3, h⟩ := guard_some h
    obtain ⟨g4, h⟩ := guard_some h
    refine Op_.slR 23 (.tmp 14) (some (.tmp 15)) none 16 23 5 (wr .i64 ((x0.length : Int) - 4)) (x0.length : Int) fx0 (Goes.vs (by kernel_rfl)) (by kernel_rfl) (by kernel_rfl) (by kernel_rfl) (Bnd.at_ .i64 (by kernel_rfl)) Bnd.no g3 g4 (Int.le_refl _) ?_
    intro A5 c6 f7
    obtain ⟨y8, e9, h⟩ := bind_some h
    try dsimp only at h
    refine Op_.call (.call { callee := .value (.func 20), args := #[(.tmp 16)], argTypes := #[23] }) 17 31 20 #[.slice A5 (sl x0 (wr .i64 ((x0.length : Int) - 4)) (x0.length : Int)).length c6] (Goes.cs (by kernel_rfl)) (by kernel_rfl) (W.tidepoleref02_Read (sl x0 (wr .i64 ((x0.length : Int) - 4)) (x0.length : Int)) y8 e9 nz wz S0 w0 (Lr) A5 c6 p0 f7) ?_
    rintro _ w2 ⟨S2, rfl, z2, p2⟩
    have p2 : Hp nz wz S2 w2 (Lr) := p2
    refine Goes.runs 12 [(13, .tuple #[.int .u32 y8.1, .int .i64 y8.2]), (18, .int .u32 y8.1), (19, .int .i64 y8.2), (5, .int .u32 y8.1), (6, .int .i64 y8.2), (20, .int .u32 y8.1), (21, .slice Ax0 x0.length cx0), (22, .int .i64 (wr .i64 ((x0.length : Int) - 4)))] [.inRegion (opsOf (sub [1, 1, 1, 1, 0, 0] B22)) [3, 4, 5], .code (sub [1, 1, 1, 1, 0, 1] B22), .code (sub [1, 1, 1, 1, 1] B22)] (by kernel_rfl) ?_
    refine Op_.slR 23 (.tmp 21) none (some (.tmp 22)) 23 23 5 0 (wr .i64 ((x0.length : Int) - 4)) (fx0.ext z2) (Goes.vs (by kernel_rfl)) (by kernel_rfl) (by kernel_rfl) (by kernel_rfl) Bnd.no (Bnd.at_ .i64 (by kernel_rfl)) (by decide) g3 g4 ?_
    intro A10 c11 f12
    obtain ⟨y13, e14, h⟩ := bind_some h
    try dsimp only at h
    refine Op_.call (.call { callee := .value (.func 14), args := #[(.tmp 23)], argTypes := #[23] }) 24 22 14 #[.slice A10 (sl x0 0 (wr .i64 ((x0.length : Int) - 4))).length c11] (Goes.cs (by kernel_rfl)) (by kernel_rfl) (W.tidepoleref02_Sum (sl x0 0 (wr .i64 ((x0.length : Int) - 4))) y13 e14 nz wz S2 w2 (Lr) A10 c11 p2 f12) ?_
    rintro _ w3 ⟨S3, rfl, z3, p3⟩
    have p3 : Hp nz wz S3 w3 (Lr) := p3
    refine Goes.runs 2 [(25, .bool (!(decide (y8.1 = y13))))] [.code (sub [1, 1, 1, 1, 0, 1] B22), .code (sub [1, 1, 1, 1, 1] B22)] (by kernel_rfl) ?_
    by_cases h15 : y8.1 = y13
    · rw [if_pos h15] at h
      rw [decide_eq_true h15]
      refine Goes.runs 4 [] [.inRegion (opsOf (sub [1, 1, 1, 1, 1, 0] B22)) [0, 1, 2, 3, 4, 5, 6], .code (sub [1, 1, 1, 1, 1, 1] B22)] (by kernel_rfl) ?_
      have f17 : Els (kInt .u8) S3 w3 ([] : List Value) ([] : List Int) := Els.nil
      refine Op_.made (.buildSlice 23 0 #[]) 26 23 (fun b => .slice (Gp (some b)) 0 0) 5 ([] : List Value) p3 (Goes.vs (by kernel_rfl)) (by kernel_rfl) ?_
      intro b16 w4 z4 p4
      have p4 : Hp nz wz S3 w4 (((some b16), .row 5 ([] : List Value) (0 * (kInt .u8).size) 0) :: Lr) := p4
      refine Goes.runs 2 [(27, .slice Ax0 x0.length cx0), (28, .int .i64 (wr .i64 ((x0.length : Int) - 4)))] [.inRegion (opsOf (sub [1, 1, 1, 1, 1, 0] B22)) [3, 4, 5, 6], .code (sub [1, 1, 1, 1, 1, 1] B22)] (by kernel_rfl) ?_
      refine Op_.slR 23 (.tmp 27) none (some (.tmp 28)) 29 23 5 0 (wr .i64 ((x0.length : Int) - 4)) (((fx0.ext z2).ext z3).ext z4) (Goes.vs (by kernel_rfl)) (by kernel_rfl) (by kernel_rfl) (by kernel_rfl) Bnd.no (Bnd.at_ .i64 (by kernel_rfl)) (by decide) g3 g4 ?_
      intro A19 c20 f21
      obtain ⟨ns22, f23, f24⟩ := src_rd f21
      obtain ⟨g25, h⟩ := guard_some h
      refine Op_.ap (K := (kInt .u8)) 23 (.tmp 26) (.tmp 29) 30 23 5 0 (.int .u8 0) 1 0 ([] : List Int) (sl x0 0 (wr .i64 ((x0.length : Int) - 4))) A19 c20 p4 rfl (f17.ext z4) (Goes.vs (by kernel_rfl)) (by kernel_rfl) (by kernel_rfl) (by kernel_rfl) (by kernel_rfl) rfl (by decide) f23 f24 (by have := g25; simp only [List.nil_append]; omega) (by have := g25; simp only [List.nil_append]; omega) ?_
      intro w5 G26 c27 cs28 z5 p5 f29
      have p5 : Hp nz wz S3 w5 ((G26, .row 5 cs28 (c27 * (kInt .u8).size) 0) :: Lr) := p5
      refine Goes.runs 3 [(2, .slice (Gp G26) (sl x0 0 (wr .i64 ((x0.length : Int) - 4))).length c27), (3, .bool true)] [.code (sub [1, 1, 1, 1, 1, 1] B22)] (by kernel_rfl) ?_
      obtain rfl := Option.some.inj h
      exact Goes.ret (fn := Try.f22) (by kernel_rfl) (v := .tuple #[.slice (Gp G26) (sl x0 0 (wr .i64 ((x0.length : Int) - 4))).length c27, .bool true]) (by kernel_rfl) ⟨S3, G26, c27, cs28, rfl, (((((Ext.refl S0 w0).trans z2).trans z3).trans z4).trans z5), p5, f29⟩
    · rw [if_neg h15] at h
      rw [decide_eq_false h15]
      refine Goes.runs 6 [(2, .slice none 0 0), (3, .bool false)] [.code (sub [1, 1, 1, 1, 0, 1, 0, 1] B22), .code (sub [1, 1, 1, 1, 1] B22)] (by kernel_rfl) ?_
      have p3 : Hp nz wz S3 w3 ((none, .row 5 [] (0 * (kInt .u8).size) 0) :: Lr) := p3.nilRow 5
      obtain rfl := Option.some.inj h
      exact Goes.ret (fn := Try.f22) (by kernel_rfl) (v := .tuple #[.slice (Gp none) [].length 0, .bool false]) (by kernel_rfl) ⟨S3, none, 0, [], rfl, (((Ext.refl S0 w0).trans z2).trans z3), p3, (Els.nil : Els (kInt .u8) S3 w3 [] [])⟩

/-! tidepole/tidepoleref02.Put -/
def Post.tidepoleref02_Put (nz : Nat) (wz : World) (S0 : Fz) (w0 : World) (Lr : List Ent) (r : List Int) (v : Value) (w' : World) : Prop :=
  ∃ (S' : Fz) (G1 : Option Nat) (c2 : Nat) (cs3 : List Value), v = .slice (Gp G1) r.length c2 ∧ Ext S0 w0 S' w' ∧ Hp nz wz S' w' ((G1, .row 5 cs3 (c2 * (kInt .u8).size) 0) :: Lr) ∧ Els (kInt .u8) S' w' cs3 r

theorem W.tidepoleref02_Put (x0 : List Int) (x1 : Int) (r : List Int) (h : M.tidepoleref02_Put x0 x1 = some r) (nz : Nat) (wz : World) (S0 : Fz) (w0 : World) (Lr : List Ent) (Ax0 : Option Addr) (cx0 : Nat) (p0 : Hp nz wz S0 w0 (Lr)) (fx0 : Rd (kInt .u8) S0 w0 Ax0 cx0 x0) :
    Calls Try.prog 24 #[.slice Ax0 x0.length cx0, .int .u32 x1] w0 (Rets (Post.tidepoleref02_Put nz wz S0 w0 Lr r)) := by
  refine calls_of_goes (fn := Try.f24) (c := B24) (by kernel_rfl) (by kernel_rfl) 22 (by kernel_rfl) ?_
  refine Goes.jump 24 [(0, .slice Ax0 x0.length cx0), (1, .int .u32 x1)] (by kernel_rfl) (fun junk => ?_)
  rw [M.tidepoleref02_Put] at h
  try dsimp only at h
  refine Goes.runs 6 [(4, .slice none 0 0)] [.inRegion (opsOf (sub [1, 0] B24)) [0, 1, 2, 3, 4, 5, 6, 7, 8, 9, 10, 11, 12, 13, 14, 15, 16, 17, 18, 19], .code (sub [1, 1] B24)] (by kernel_rfl) ?_
  have f2 : Els (kInt .u8) S0 w0 ([] : List Value) ([] : List Int) := Els.nil
  refine Op_.made (.buildSlice 23 0 #[]) 5 23 (fun b => .slice (Gp (some b)) 0 0) 5 ([] : List Value) p0 (Goes.vs (by kernel_rfl)) (by kernel_rfl) ?_
  intro b1 w2 z2 p2
  have p2 : Hp nz wz S0 w2 (((some b1), .row 5 ([] : List Value) (0 * (kInt .u8).size) 0) :: Lr) := p2
  refine Goes.runs 1 [(6, .slice Ax0 x0.length cx0)] [.inRegion (opsOf (sub [1, 0] B24)) [2, 3, 4, 5, 6, 7, 8, 9, 10, 11, 12, 13, 14, 15, 16, 17, 18, 19], .code (sub [1, 1] B24)] (by kernel_rfl) ?_
  obtain ⟨ns4, f5, f6⟩ := src_rd (fx0.ext z2)
  obtain ⟨g7, h⟩ := guard_some h
  refine Op_.ap (K := (kInt .u8)) 23 (.tmp 5) (.tmp 6) 7 23 5 0 (.int .u8 0) 1 0 ([] : List Int) x0 Ax0 cx0 p2 rfl (f2.ext z2) (Goes.vs (by kernel_rfl)) (by kernel_rfl) (by kernel_rfl) (by kernel_rfl) (by kernel_rfl) rfl (by decide) f5 f6 (by have := g7; simp only [List.nil_append]; omega) (by have := g7; simp only [List.nil_append]; omega) ?_
  intro w3 G8 c9 cs10 z3 p3 f11
  have p3 : Hp nz wz S0 w3 ((G8, .row 5 cs10 (c9 * (kInt .u8).size) 0) :: Lr) := p3
  refine Goes.runs 14 [(8, .int .u32 x1), (9, .int .u32 (irem .u32 x1 256)), (10, .int .u8 (wr .u8 (irem .u32 x1 256))), (11, .int .u32 x1), (12, .int .u32 (iquo .u32 x1 256)), (13, .int .u32 (irem .u32 (iquo .u32 x1 256) 256)), (14, .int .u8 (wr .u8 (irem .u32 (iquo .u32 x1 256) 256))), (15, .int .u32 x1), (16, .int .u32 (iquo .u32 x1 65536)), (17, .int .u32 (irem .u32 (iquo .u32 x1 65536) 256)), (18, .int .u8 (wr .u8 (irem .u32 (iquo .u32 x1 65536) 256))), (19, .int .u32 x1), (20, .int .u32 (iquo .u32 x1 16777216)), (21, .int .u8 (wr .u8 (iquo .u32 x1 16777216)))] [.inRegion (opsOf (sub [1, 0] B24)) [17, 18, 19], .code (sub [1, 1] B24)] (by kernel_rfl) ?_
  have f13 : Els (kInt .u8) S0 w3 ([.int .u8 (wr .u8 (irem .u32 x1 256)), .int .u8 (wr .u8 (irem .u32 (iquo .u32 x1 256) 256)), .int .u8 (wr .u8 (irem .u32 (iquo .u32 x1 65536) 256)), .int .u8 (wr .u8 (iquo .u32 x1 16777216))] : List Value) [wr .u8 (irem .u32 x1 256), wr .u8 (irem .u32 (iquo .u32 x1 256) 256), wr .u8 (irem .u32 (iquo .u32 x1 65536) 256), wr .u8 (iquo .u32 x1 16777216)] := (Els.cons (K := (kInt .u8)) (vs := [.int .u8 (wr .u8 (irem .u32 x1 256))]) (x := wr .u8 (irem .u32 x1 256)) rfl (Els.cons (K := (kInt .u8)) (vs := [.int .u8 (wr .u8 (irem .u32 (iquo .u32 x1 256) 256))]) (x := wr .u8 (irem .u32 (iquo .u32 x1 256) 256)) rfl (Els.cons (K := (kInt .u8)) (vs := [.int .u8 (wr .u8 (irem .u32 (iquo .u32 x1 65536) 256))]) (x := wr .u8 (irem .u32 (iquo .u32 x1 65536) 256)) rfl (Els.cons (K := (kInt .u8)) (vs := [.int .u8 (wr .u8 (iquo .u32 x1 16777216))]) (x := wr .u8 (iquo .u32 x1 16777216)) rfl Els.nil))))
  refine Op_.made (.buildSlice 23 4 #[(0, (.tmp 10)), (1, (.tmp 14)), (2, (.tmp 18)), (3, (.tmp 21))]) 22 23 (fun b => .slice (Gp (some b)) 4 4) 5 ([.int .u8 (wr .u8 (irem .u32 x1 256)), .int .u8 (wr .u8 (irem .u32 (iquo .u32 x1 256) 256)), .int .u8 (wr .u8 (irem .u32 (iquo .u32 x1 65536) 256)), .int .u8 (wr .u8 (iquo .u32 x1 16777216))] : List Value) p3 (Goes.vs (by kernel_rfl)) (by kernel_rfl) ?_
  intro b12 w4 z4 p4
  have p4 : Hp nz wz S0 w4 (((some b12), .row 5 ([.int .u8 (wr .u8 (irem .u32 x1 256)), .int .u8 (wr .u8 (irem .u32 (iquo .u32 x1 256) 256)), .int .u8 (wr .u8 (irem .u32 (iquo .u32 x1 65536) 256)), .int .u8 (wr .u8 (iquo .u32 x1 16777216))] : List Value) (4 * (kInt .u8).size) 0) :: (G8, .row 5 cs10 (c9 * (kInt .u8).size) 0) :: Lr) := p4
  obtain ⟨g18, h⟩ := guard_some h
  refine Op_.ap (K := (kInt .u8)) 23 (.tmp 7) (.tmp 22) 23 23 5 1 (.int .u8 0) 1 c9 x0 [wr .u8 (irem .u32 x1 256), wr .u8 (irem .u32 (iquo .u32 x1 256) 256), wr .u8 (irem .u32 (iquo .u32 x1 65536) 256), wr .u8 (iquo .u32 x1 16777216)] (Gp (some b12)) 4 p4 rfl (f11.ext z4) (Goes.vs (by kernel_rfl)) (by kernel_rfl) (by kernel_rfl) (by kernel_rfl) (by kernel_rfl) rfl (by decide) (f13.ext z4) (src_own p4 (q := 0) rfl) (by have := g18; omega) (by have := g18; omega) ?_
  intro w5 G19 c20 cs21 z5 p5 f22
  have p5 : Hp nz wz S0 w5 (((some b12), .row 5 ([.int .u8 (wr .u8 (irem .u32 x1 256)), .int .u8 (wr .u8 (irem .u32 (iquo .u32 x1 256) 256)), .int .u8 (wr .u8 (irem .u32 (iquo .u32 x1 65536) 256)), .int .u8 (wr .u8 (iquo .u32 x1 16777216))] : List Value) (4 * (kInt .u8).size) 0) :: (G19, .row 5 cs21 (c20 * (kInt .u8).size) 0) :: Lr) := p5
  refine Goes.runs 2 [(4, .slice (Gp G19) (x0 ++ [wr .u8 (irem .u32 x1 256), wr .u8 (irem .u32 (iquo .u32 x1 256) 256), wr .u8 (irem .u32 (iquo .u32 x1 65536) 256), wr .u8 (iquo .u32 x1 16777216)]).length c20)] [.code (sub [1, 1] B24)] (by kernel_rfl) ?_
  have p5 : Hp nz wz S0 w5 ((G19, .row 5 cs21 (c20 * (kInt .u8).size) 0) :: Lr) := (p5.front 0 _ rfl).drop
  obtain rfl := Option.some.inj h
  exact Goes.ret (fn := Try.f24) (by kernel_rfl) (v := .slice (Gp G19) (x0 ++ [wr .u8 (irem .u32 x1 256), wr .u8 (irem .u32 (iquo .u32 x1 256) 256), wr .u8 (irem .u32 (iquo .u32 x1 65536) 256), wr .u8 (iquo .u32 x1 16777216)]).length c20) (by kernel_rfl) ⟨S0, G19, c20, cs21, rfl, (((((Ext.refl S0 w0).trans z2).trans z3).trans z4).trans z5), p5, f22⟩

/-! tidepole/tidepoleref02.Sealed -/
def Post.tidepoleref02_Sealed (nz : Nat) (wz : World) (S0 : Fz) (w0 : World) (Lr : List Ent) (r : List Int) (v : Value) (w' : World) : Prop :=
  ∃ (S' : Fz) (G1 : Option Nat) (c2 : Nat) (cs3 : List Value), v = .slice (Gp G1) r.length c2 ∧ Ext S0 w0 S' w' ∧ Hp nz wz S' w' ((G1, .row 5 cs3 (c2 * (kInt .u8).size) 0) :: Lr) ∧ Els (kInt .u8) S' w' cs3 r

theorem W.tidepoleref02_Sealed (x0 : List Int) (r : List Int) (h : M.tidepoleref02_Sealed x0 = some r) (nz : Nat) (wz : World) (S0 : Fz) (w0 : World) (Lr : List Ent) (Ax0 : Option Addr) (cx0 : Nat) (p0 : Hp nz wz S0 w0 (Lr)) (fx0 : Rd (kInt .u8) S0 w0 Ax0 cx0 x0) :
    Calls Try.prog 26 #[.slice Ax0 x0.length cx0] w0 (Rets (Post.tidepoleref02_Sealed nz wz S0 w0 Lr r)) := by
  refine calls_of_goes (fn := Try.f26) (c := B26) (by kernel_rfl) (by kernel_rfl) 6 (by kernel_rfl) ?_
  refine Goes.jump 7 [(0, .slice Ax0 x0.length cx0)] (by kernel_rfl) (fun junk => ?_)
  rw [M.tidepoleref02_Sealed] at h
  try dsimp only at h
  refine Goes.runs 8 [(2, .slice none 0 0), (3, .slice Ax0 x0.length cx0), (4, .slice Ax0 x0.length cx0)] [.inRegion (opsOf (sub [1, 0] B26)) [2, 3, 4], .code (sub [1, 1] B26)] (by kernel_rfl) ?_
  obtain ⟨y1, e2, h⟩ := bind_some h
  try dsimp only at h
  refine Op_.call (.call { callee := .value (.func 14), args := #[(.tmp 4)], argTypes := #[23] }) 5 22 14 #[.slice Ax0 x0.length cx0] (Goes.cs (by kernel_rfl)) (by kernel_rfl) (W.tidepoleref02_Sum x0 y1 e2 nz wz S0 w0 (Lr) Ax0 cx0 p0 fx0) ?_
  rintro _ w2 ⟨S2, rfl, z2, p2⟩
  have p2 : Hp nz wz S2 w2 (Lr) := p2
  obtain ⟨y3, e4, h⟩ := bind_some h
  try dsimp only at h
  refine Op_.call (.call { callee := .value (.func 24), args := #[(.tmp 3), (.tmp 5)], argTypes := #[23, 22] }) 6 23 24 #[.slice Ax0 x0.length cx0, .int .u32 y1] (Goes.cs (by kernel_rfl)) (by kernel_rfl) (W.tidepoleref02_Put x0 y1 y3 e4 nz wz S2 w2 (Lr) Ax0 cx0 p2 (fx0.ext z2)) ?_
  rintro _ w3 ⟨S3, G5, c6, cs7, rfl, z3, p3, f9⟩
  have p3 : Hp nz wz S3 w3 ((G5, .row 5 cs7 (c6 * (kInt .u8).size) 0) :: Lr) := p3
  refine Goes.runs 2 [(2, .slice (Gp G5) y3.length c6)] [.code (sub [1, 1] B26)] (by kernel_rfl) ?_
  obtain rfl := Option.some.inj h
  exact Goes.ret (fn := Try.f26) (by kernel_rfl) (v := .slice (Gp G5) y3.length c6) (by kernel_rfl) ⟨S3, G5, c6, cs7, rfl, (((Ext.refl S0 w0).trans z2).trans z3), p3, f9⟩

/-! tidepole/tidepolelaw02.CrcSeals -/
def Post.tidepolelaw02_CrcSeals (nz : Nat) (wz : World) (S0 : Fz) (w0 : World) (Lr : List Ent) (r : Bool) (v : Value) (w' : World) : Prop :=
  ∃ (S' : Fz) , v = .bool r ∧ Ext S0 w0 S' w' ∧ Hp nz wz S' w' (Lr)

theorem W.tidepolelaw02_CrcSeals (x0 : List Int) (x1 : Int) (r : Bool) (h : M.tidepolelaw02_CrcSeals x0 x1 = some r) (nz : Nat) (wz : World) (S0 : Fz) (w0 : World) (Lr : List Ent) (Ax0 : Option Addr) (cx0 : Nat) (p0 : Hp nz wz S0 w0 (Lr)) (fx0 : Rd (kInt .u8) S0 w0 Ax0 cx0 x0) :
    Calls Try.prog 4 #[.slice Ax0 x0.length cx0, .int .u32 x1] w0 (Rets (Post.tidepolelaw02_CrcSeals nz wz S0 w0 Lr r)) := by
  refine calls_of_goes (fn := Try.f4) (c := B4) (by kernel_rfl) (by kernel_rfl) 74 (by kernel_rfl) ?_
  refine Goes.jump 76 [(0, .slice Ax0 x0.length cx0), (1, .int .u32 x1)] (by kernel_rfl) (fun junk => ?_)
  rw [M.tidepolelaw02_CrcSeals] at h
  try dsimp only at h
  refine Goes.runs 7 [(4, .bool false), (13, .slice Ax0 x0.length cx0)] [.inRegion (opsOf (sub [1, 0] B4)) [1, 2], .code (sub [1, 1] B4)] (by kernel_rfl) ?_
  obtain ⟨y1, e2, h⟩ := bind_some h
  try dsimp only at h
  refine Op_.call (.call { callee := .value (.func 11), args := #[(.tmp 13)], argTypes := #[23] }) 14 23 11 #[.slice Ax0 x0.length cx0] (Goes.cs (by kernel_rfl)) (by kernel_rfl) (W.tidepolelaw02_short x0 y1 e2 nz wz S0 w0 (Lr) Ax0 cx0 p0 fx0) ?_
  rintro _ w2 ⟨S2, A3, c4, rfl, z2, p2, f5⟩
  have p2 : Hp nz wz S2 w2 (Lr) := p2
  refine Goes.runs 5 [(0, .slice A3 y1.length c4), (16, .slice A3 y1.length c4)] [.inRegion (opsOf (sub [1, 1, 0] B4)) [1, 2, 3, 4, 5, 6, 7], .code (sub [1, 1, 1] B4)] (by kernel_rfl) ?_
  obtain ⟨y6, e7, h⟩ := bind_some h
  try dsimp only at h
  refine Op_.call (.call { callee := .value (.func 12), args := #[(.tmp 16)], argTypes := #[23] }) 17 23 12 #[.slice A3 y1.length c4] (Goes.cs (by kernel_rfl)) (by kernel_rfl) (W.tidepolebase_Bytes y1 y6 e7 nz wz S2 w2 (Lr) A3 c4 p2 f5) ?_
  rintro _ w3 ⟨S3, G8, c9, cs10, rfl, z3, p3, f12⟩
  have p3 : Hp nz wz S3 w3 ((G8, .row 5 cs10 (c9 * (kInt .u8).size) 0) :: Lr) := p3
  obtain ⟨S4, z4, p4, f14⟩ := p3.freezeRd 0 rfl f12 (by decide)
  have p4 : Hp nz wz S4 w3 ((G8, .row 5 cs10 (c9 * (kInt .u8).size) cs10.length) :: Lr) := p4
  obtain ⟨y15, e16, h⟩ := bind_some h
  try dsimp only at h
  refine Op_.call (.call { callee := .value (.func 19), args := #[(.tmp 17)], argTypes := #[23] }) 18 31 19 #[.slice (Gp G8) y6.length c9] (Goes.cs (by kernel_rfl)) (by kernel_rfl) (W.crc_Read y6 y15 e16 nz wz S4 w3 ((G8, .row 5 cs10 (c9 * (kInt .u8).size) cs10.length) :: Lr) (Gp G8) c9 p4 f14) ?_
  rintro _ w5 ⟨S5, rfl, z5, p5⟩
  have p5 : Hp nz wz S5 w5 ((G8, .row 5 cs10 (c9 * (kInt .u8).size) cs10.length) :: Lr) := p5
  refine Goes.runs 9 [(15, .tuple #[.int .u32 y15.1, .int .i64 y15.2]), (19, .int .u32 y15.1), (20, .int .i64 y15.2), (5, .int .u32 y15.1), (6, .int .i64 y15.2), (22, .slice A3 y1.length c4)] [.inRegion (opsOf (sub [1, 1, 1, 0] B4)) [1, 2, 3, 4, 5, 6], .code (sub [1, 1, 1, 1] B4)] (by kernel_rfl) ?_
  obtain ⟨y17, e18, h⟩ := bind_some h
  try dsimp only at h
  refine Op_.call (.call { callee := .value (.func 20), args := #[(.tmp 22)], argTypes := #[23] }) 23 31 20 #[.slice A3 y1.length c4] (Goes.cs (by kernel_rfl)) (by kernel_rfl) (W.tidepoleref02_Read y1 y17 e18 nz wz S5 w5 ((G8, .row 5 cs10 (c9 * (kInt .u8).size) cs10.length) :: Lr) A3 c4 p5 (((f5.ext z3).ext z4).ext z5)) ?_
  rintro _ w6 ⟨S6, rfl, z6, p6⟩
  have p6 : Hp nz wz S6 w6 ((G8, .row 5 cs10 (c9 * (kInt .u8).size) cs10.length) :: Lr) := p6
  refine Goes.runs 9 [(21, .tuple #[.int .u32 y17.1, .int .i64 y17.2]), (24, .int .u32 y17.1), (25, .int .i64 y17.2), (7, .int .u32 y17.1), (8, .int .i64 y17.2), (27, .slice A3 y1.length c4)] [.inRegion (opsOf (sub [1, 1, 1, 1, 0] B4)) [1, 2, 3, 4, 5, 6, 7], .code (sub [1, 1, 1, 1, 1] B4)] (by kernel_rfl) ?_
  obtain ⟨y19, e20, h⟩ := bind_some h
  try dsimp only at h
  refine Op_.call (.call { callee := .value (.func 12), args := #[(.tmp 27)], argTypes := #[23] }) 28 23 12 #[.slice A3 y1.length c4] (Goes.cs (by kernel_rfl)) (by kernel_rfl) (W.tidepolebase_Bytes y1 y19 e20 nz wz S6 w6 ((G8, .row 5 cs10 (c9 * (kInt .u8).size) cs10.length) :: Lr) A3 c4 p6 ((((f5.ext z3).ext z4).ext z5).ext z6)) ?_
  rintro _ w7 ⟨S7, G21, c22, cs23, rfl, z7, p7, f25⟩
  have p7 : Hp nz wz S7 w7 ((G21, .row 5 cs23 (c22 * (kInt .u8).size) 0) :: (G8, .row 5 cs10 (c9 * (kInt .u8).size) cs10.length) :: Lr) := p7
  obtain ⟨S8, z8, p8, f27⟩ := p7.freezeRd 0 rfl f25 (by decide)
  have p8 : Hp nz wz S8 w7 ((G21, .row 5 cs23 (c22 * (kInt .u8).size) cs23.length) :: (G8, .row 5 cs10 (c9 * (kInt .u8).size) cs10.length) :: Lr) := p8
  obtain ⟨y28, e29, h⟩ := bind_some h
  try dsimp only at h
  refine Op_.call (.call { callee := .value (.func 21), args := #[(.tmp 28)], argTypes := #[23] }) 29 33 21 #[.slice (Gp G21) y19.length c22] (Goes.cs (by kernel_rfl)) (by kernel_rfl) (W.crc_Open y19 y28 e29 nz wz S8 w7 ((G21, .row 5 cs23 (c22 * (kInt .u8).size) cs23.length) :: (G8, .row 5 cs10 (c9 * (kInt .u8).size) cs10.length) :: Lr) (Gp G21) c22 p8 f27) ?_
  rintro _ w9 ⟨S9, G30, c31, cs32, rfl, z9, p9, f34⟩
  have p9 : Hp nz wz S9 w9 ((G30, .row 5 cs32 (c31 * (kInt .u8).size) 0) :: (G21, .row 5 cs23 (c22 * (kInt .u8).size) cs23.length) :: (G8, .row 5 cs10 (c9 * (kInt .u8).size) cs10.length) :: Lr) := p9
  refine Goes.runs 9 [(26, .tuple #[.slice (Gp G30) y28.1.length c31, .bool y28.2]), (30, .slice (Gp G30) y28.1.length c31), (31, .bool y28.2), (9, .slice (Gp G30) y28.1.length c31), (10, .bool y28.2), (33, .slice A3 y1.length c4)] [.inRegion (opsOf (sub [1, 1, 1, 1, 1, 0] B4)) [1, 2, 3, 4, 5, 6], .code (sub [1, 1, 1, 1, 1, 1] B4)] (by kernel_rfl) ?_
  obtain ⟨y36, e37, h⟩ := bind_some h
  try dsimp only at h
  refine Op_.call (.call { callee := .value (.func 22), args := #[(.tmp 33)], argTypes := #[23] }) 34 33 22 #[.slice A3 y1.length c4] (Goes.cs (by kernel_rfl)) (by kernel_rfl) (W.tidepoleref02_Open y1 y36 e37 nz wz S9 w9 ((G30, .row 5 cs32 (c31 * (kInt .u8).size) 0) :: (G21, .row 5 cs23 (c22 * (kInt .u8).size) cs23.length) :: (G8, .row 5 cs10 (c9 * (kInt .u8).size) cs10.length) :: Lr) A3 c4 p9 (((((((f5.ext z3).ext z4).ext z5).ext z6).ext z7).ext z8).ext z9)) ?_
  rintro _ w10 ⟨S10, G38, c39, cs40, rfl, z10, p10, f42⟩
  have p10 : Hp nz wz S10 w10 ((G38, .row 5 cs40 (c39 * (kInt .u8).size) 0) :: (G30, .row 5 cs32 (c31 * (kInt .u8).size) 0) :: (G21, .row 5 cs23 (c22 * (kInt .u8).size) cs23.length) :: (G8, .row 5 cs10 (c9 * (kInt .u8).size) cs10.length) :: Lr) := p10
  refine Goes.runs 9 [(32, .tuple #[.slice (Gp G38) y36.1.length c39, .bool y36.2]), (35, .slice (Gp G38) y36.1.length c39), (36, .bool y36.2), (11, .slice (Gp G38) y36.1.length c39), (12, .bool y36.2), (37, .slice A3 y1.length c4)] [.inRegion (opsOf (sub [1, 1, 1, 1, 1, 1, 0] B4)) [1, 2, 3, 4, 5, 6, 7, 8, 9, 10, 11, 12, 13, 14, 15, 16, 17, 18, 19, 20, 21, 22, 23, 24, 25, 26, 27, 28, 29, 30, 31, 32, 33, 34, 35, 36, 37, 38, 39], .code (sub [1, 1, 1, 1, 1, 1, 1] B4)] (by kernel_rfl) ?_
  obtain ⟨y44, e45, h⟩ := bind_some h
  try dsimp only at h
  refine Op_.call (.call { callee := .value (.func 12), args := #[(.tmp 37)], argTypes := #[23] }) 38 23 12 #[.slice A3 y1.length c4] (Goes.cs (by kernel_rfl)) (by kernel_rfl) (W.tidepolebase_Bytes y1 y44 e45 nz wz S10 w10 ((G38, .row 5 cs40 (c39 * (kInt .u8).size) 0) :: (G30, .row 5 cs32 (c31 * (kInt .u8).size) 0) :: (G21, .row 5 cs23 (c22 * (kInt .u8).size) cs23.length) :: (G8, .row 5 cs10 (c9 * (kInt .u8).size) cs10.length) :: Lr) A3 c4 p10 ((((((((f5.ext z3).ext z4).ext z5).ext z6).ext z7).ext z8).ext z9).ext z10)) ?_
  rintro _ w11 ⟨S11, G46, c47, cs48, rfl, z11, p11, f50⟩
  have p11 : Hp nz wz S11 w11 ((G46, .row 5 cs48 (c47 * (kInt .u8).size) 0) :: (G38, .row 5 cs40 (c39 * (kInt .u8).size) 0) :: (G30, .row 5 cs32 (c31 * (kInt .u8).size) 0) :: (G21, .row 5 cs23 (c22 * (kInt .u8).size) cs23.length) :: (G8, .row 5 cs10 (c9 * (kInt .u8).size) cs10.length) :: Lr) := p11
  refine Goes.runs 1 [(39, .int .u32 x1)] [.inRegion (opsOf (sub [1, 1, 1, 1, 1, 1, 0] B4)) [3, 4, 5, 6, 7, 8, 9, 10, 11, 12, 13, 14, 15, 16, 17, 18, 19, 20, 21, 22, 23, 24, 25, 26, 27, 28, 29, 30, 31, 32, 33, 34, 35, 36, 37, 38, 39], .code (sub [1, 1, 1, 1, 1, 1, 1] B4)] (by kernel_rfl) ?_
  obtain ⟨S12, z12, p12, f52⟩ := p11.freezeRd 0 rfl f50 (by decide)
  have p12 : Hp nz wz S12 w11 ((G46, .row 5 cs48 (c47 * (kInt .u8).size) cs48.length) :: (G38, .row 5 cs40 (c39 * (kInt .u8).size) 0) :: (G30, .row 5 cs32 (c31 * (kInt .u8).size) 0) :: (G21, .row 5 cs23 (c22 * (kInt .u8).size) cs23.length) :: (G8, .row 5 cs10 (c9 * (kInt .u8).size) cs10.length) :: Lr) := p12
  obtain ⟨y53, e54, h⟩ := bind_some h
  try dsimp only at h
  refine Op_.call (.call { callee := .value (.func 23), args := #[(.tmp 38), (.tmp 39)], argTypes := #[23, 22] }) 40 23 23 #[.slice (Gp G46) y44.length c47, .int .u32 x1] (Goes.cs (by kernel_rfl)) (by kernel_rfl) (W.crc_Put y44 x1 y53 e54 nz wz S12 w11 ((G46, .row 5 cs48 (c47 * (kInt .u8).size) cs48.length) :: (G38, .row 5 cs40 (c39 * (kInt .u8).size) 0) :: (G30, .row 5 cs32 (c31 * (kInt .u8).size) 0) :: (G21, .row 5 cs23 (c22 * (kInt .u8).size) cs23.length) :: (G8, .row 5 cs10 (c9 * (kInt .u8).size) cs10.length) :: Lr) (Gp G46) c47 p12 f52) ?_
  rintro _ w13 ⟨S13, G55, c56, cs57, rfl, z13, p13, f59⟩
  have p13 : Hp nz wz S13 w13 ((G55, .row 5 cs57 (c56 * (kInt .u8).size) 0) :: (G46, .row 5 cs48 (c47 * (kInt .u8).size) cs48.length) :: (G38, .row 5 cs40 (c39 * (kInt .u8).size) 0) :: (G30, .row 5 cs32 (c31 * (kInt .u8).size) 0) :: (G21, .row 5 cs23 (c22 * (kInt .u8).size) cs23.length) :: (G8, .row 5 cs10 (c9 * (kInt .u8).size) cs10.length) :: Lr) := p13
  refine Goes.runs 2 [(41, .slice A3 y1.length c4), (42, .int .u32 x1)] [.inRegion (opsOf (sub [1, 1, 1, 1, 1, 1, 0] B4)) [6, 7, 8, 9, 10, 11, 12, 13, 14, 15, 16, 17, 18, 19, 20, 21, 22, 23, 24, 25, 26, 27, 28, 29, 30, 31, 32, 33, 34, 35, 36, 37, 38, 39], .code (sub [1, 1, 1, 1, 1, 1, 1] B4)] (by kernel_rfl) ?_
  obtain ⟨y61, e62, h⟩ := bind_some h
  try dsimp only at h
  refine Op_.call (.call { callee := .value (.func 24), args := #[(.tmp 41), (.tmp 42)], argTypes := #[23, 22] }) 43 23 24 #[.slice A3 y1.length c4, .int .u32 x1] (Goes.cs (by kernel_rfl)) (by kernel_rfl) (W.tidepoleref02_Put y1 x1 y61 e62 nz wz S13 w13 ((G55, .row 5 cs57 (c56 * (kInt .u8).size) 0) :: (G46, .row 5 cs48 (c47 * (kInt .u8).size) cs48.length) :: (G38, .row 5 cs40 (c39 * (kInt .u8).size) 0) :: (G30, .row 5 cs32 (c31 * (kInt .u8).size) 0) :: (G21, .row 5 cs23 (c22 * (kInt .u8).size) cs23.length) :: (G8, .row 5 cs10 (c9 * (kInt .u8).size) cs10.length) :: Lr) A3 c4 p13 (((((((((((f5.ext z3).ext z4).ext z5).ext z6).ext z7).ext z8).ext z9).ext z10).ext z11).ext z12).ext z13)) ?_
  rintro _ w14 ⟨S14, G63, c64, cs65, rfl, z14, p14, f67⟩
  have p14 : Hp nz wz S14 w14 ((G63, .row 5 cs65 (c64 * (kInt .u8).size) 0) :: (G55, .row 5 cs57 (c56 * (kInt .u8).size) 0) :: (G46, .row 5 cs48 (c47 * (kInt .u8).size) cs48.length) :: (G38, .row 5 cs40 (c39 * (kInt .u8).size) 0) :: (G30, .row 5 cs32 (c31 * (kInt .u8).size) 0) :: (G21, .row 5 cs23 (c22 * (kInt .u8).size) cs23.length) :: (G8, .row 5 cs10 (c9 * (kInt .u8).size) cs10.length) :: Lr) := p14
  obtain ⟨S15, z15, p15, f69⟩ := p14.freezeRd 1 rfl (f59.ext z14) (by decide)
  have p15 : Hp nz wz S15 w14 ((G63, .row 5 cs65 (c64 * (kInt .u8).size) 0) :: (G55, .row 5 cs57 (c56 * (kInt .u8).size) cs57.length) :: (G46, .row 5 cs48 (c47 * (kInt .u8).size) cs48.length) :: (G38, .row 5 cs40 (c39 * (kInt .u8).size) 0) :: (G30, .row 5 cs32 (c31 * (kInt .u8).size) 0) :: (G21, .row 5 cs23 (c22 * (kInt .u8).size) cs23.length) :: (G8, .row 5 cs10 (c9 * (kInt .u8).size) cs10.length) :: Lr) := p15
  obtain ⟨S16, z16, p16, f70⟩ := p15.freezeRd 0 rfl (f67.ext z15) (by decide)
  have p16 : Hp nz wz S16 w14 ((G63, .row 5 cs65 (c64 * (kInt .u8).size) cs65.length) :: (G55, .row 5 cs57 (c56 * (kInt .u8).size) cs57.length) :: (G46, .row 5 cs48 (c47 * (kInt .u8).size) cs48.length) :: (G38, .row 5 cs40 (c39 * (kInt .u8).size) 0) :: (G30, .row 5 cs32 (c31 * (kInt .u8).size) 0) :: (G21, .row 5 cs23 (c22 * (kInt .u8).size) cs23.length) :: (G8, .row 5 cs10 (c9 * (kInt .u8).size) cs10.length) :: Lr) := p16
  obtain ⟨y71, e72, h⟩ := bind_some h
  try dsimp only at h
  refine Op_.call (.call { callee := .value (.func 17), args := #[(.tmp 40), (.tmp 43)], argTypes := #[23, 23] }) 44 4 17 #[.slice (Gp G55) y53.length c56, .slice (Gp G63) y61.length c64] (Goes.cs (by kernel_rfl)) (by kernel_rfl) (W.tidepolebase_SameBytes y53 y61 y71 e72 nz wz S16 w14 ((G63, .row 5 cs65 (c64 * (kInt .u8).size) cs65.length) :: (G55, .row 5 cs57 (c56 * (kInt .u8).size) cs57.length) :: (G46, .row 5 cs48 (c47 * (kInt .u8).size) cs48.length) :: (G38, .row 5 cs40 (c39 * (kInt .u8).size) 0) :: (G30, .row 5 cs32 (c31 * (kInt .u8).size) 0) :: (G21, .row 5 cs23 (c22 * (kInt .u8).size) cs23.length) :: (G8, .row 5 cs10 (c9 * (kInt .u8).size) cs10.length) :: Lr) (Gp G55) c56 (Gp G63) c64 p16 (f69.ext z16) f70) ?_
  rintro _ w17 ⟨S17, rfl, z17, p17⟩
  have p17 : Hp nz wz S17 w17 ((G63, .row 5 cs65 (c64 * (kInt .u8).size) cs65.length) :: (G55, .row 5 cs57 (c56 * (kInt .u8).size) cs57.length) :: (G46, .row 5 cs48 (c47 * (kInt .u8).size) cs48.length) :: (G38, .row 5 cs40 (c39 * (kInt .u8).size) 0) :: (G30, .row 5 cs32 (c31 * (kInt .u8).size) 0) :: (G21, .row 5 cs23 (c22 * (kInt .u8).size) cs23.length) :: (G8, .row 5 cs10 (c9 * (kInt .u8).size) cs10.length) :: Lr) := p17
  refine Goes.runs 1 [(45, .bool y71)] [.inRegion (opsOf (sub [1, 1, 1, 1, 1, 1, 0] B4)) [9, 10, 11, 12, 13, 14, 15, 16, 17, 18, 19, 20, 21, 22, 23, 24, 25, 26, 27, 28, 29, 30, 31, 32, 33, 34, 35, 36, 37, 38, 39], .code (sub [1, 1, 1, 1, 1, 1, 1] B4)] (by kernel_rfl) ?_
  by_cases h73 : y71 = true
  · rw [if_pos h73] at h
    rw [h73]
    refine Goes.runs 5 [(46, .int .u32 y15.1), (47, .int .u32 y17.1), (48, .bool (decide (y15.1 = y17.1))), (49, .bool (decide (y15.1 = y17.1))), (50, .bool (decide (y15.1 = y17.1)))] [.inRegion (opsOf (sub [1, 1, 1, 1, 1, 1, 0] B4)) [14, 15, 16, 17, 18, 19, 20, 21, 22, 23, 24, 25, 26, 27, 28, 29, 30, 31, 32, 33, 34, 35, 36, 37, 38, 39], .code (sub [1, 1, 1, 1, 1, 1, 1] B4)] (by kernel_rfl) ?_
    by_cases h74 : y15.1 = y17.1
    · rw [if_pos h74] at h
      rw [decide_eq_true h74]
      refine Goes.runs 5 [(51, .int .i64 y15.2), (52, .int .i64 y17.2), (53, .bool (decide (y15.2 = y17.2))), (54, .bool (decide (y15.2 = y17.2))), (55, .bool (decide (y15.2 = y17.2)))] [.inRegion (opsOf (sub [1, 1, 1, 1, 1, 1, 0] B4)) [19, 20, 21, 22, 23, 24, 25, 26, 27, 28, 29, 30, 31, 32, 33, 34, 35, 36, 37, 38, 39], .code (sub [1, 1, 1, 1, 1, 1, 1] B4)] (by kernel_rfl) ?_
      by_cases h75 : y15.2 = y17.2
      · rw [if_pos h75] at h
        rw [decide_eq_true h75]
        refine Goes.runs 1 [(56, .slice A3 y1.length c4)] [.inRegion (opsOf (sub [1, 1, 1, 1, 1, 1, 0] B4)) [20, 21, 22, 23, 24, 25, 26, 27, 28, 29, 30, 31, 32, 33, 34, 35, 36, 37, 38, 39], .code (sub [1, 1, 1, 1, 1, 1, 1] B4)] (by kernel_rfl) ?_
        obtain ⟨y76, e77, h⟩ := bind_some h
        try dsimp only at h
        refine Op_.call (.call { callee := .value (.func 12), args := #[(.tmp 56)], argTypes := #[23] }) 57 23 12 #[.slice A3 y1.length c4] (Goes.cs (by kernel_rfl)) (by kernel_rfl) (W.tidepolebase_Bytes y1 y76 e77 nz wz S17 w17 ((G63, .row 5 cs65 (c64 * (kInt .u8).size) cs65.length) :: (G55, .row 5 cs57 (c56 * (kInt .u8).size) cs57.length) :: (G46, .row 5 cs48 (c47 * (kInt .u8).size) cs48.length) :: (G38, .row 5 cs40 (c39 * (kInt .u8).size) 0) :: (G30, .row 5 cs32 (c31 * (kInt .u8).size) 0) :: (G21, .row 5 cs23 (c22 * (kInt .u8).size) cs23.length) :: (G8, .row 5 cs10 (c9 * (kInt .u8).size) cs10.length) :: Lr) A3 c4 p17 (((((((((((((((f5.ext z3).ext z4).ext z5).ext z6).ext z7).ext z8).ext z9).ext z10).ext z11).ext z12).ext z13).ext z14).ext z15).ext z16).ext z17)) ?_
        rintro _ w18 ⟨S18, G78, c79, cs80, rfl, z18, p18, f82⟩
        have p18 : Hp nz wz S18 w18 ((G78, .row 5 cs80 (c79 * (kInt .u8).size) 0) :: (G63, .row 5 cs65 (c64 * (kInt .u8).size) cs65.length) :: (G55, .row 5 cs57 (c56 * (kInt .u8).size) cs57.length) :: (G46, .row 5 cs48 (c47 * (kInt .u8).size) cs48.length) :: (G38, .row 5 cs40 (c39 * (kInt .u8).size) 0) :: (G30, .row 5 cs32 (c31 * (kInt .u8).size) 0) :: (G21, .row 5 cs23 (c22 * (kInt .u8).size) cs23.length) :: (G8, .row 5 cs10 (c9 * (kInt .u8).size) cs10.length) :: Lr) := p18
        obtain ⟨S19, z19, p19, f84⟩ := p18.freezeRd 0 rfl f82 (by decide)
        have p19 : Hp nz wz S19 w18 ((G78, .row 5 cs80 (c79 * (kInt .u8).size) cs80.length) :: (G63, .row 5 cs65 (c64 * (kInt .u8).size) cs65.length) :: (G55, .row 5 cs57 (c56 * (kInt .u8).size) cs57.length) :: (G46, .row 5 cs48 (c47 * (kInt .u8).size) cs48.length) :: (G38, .row 5 cs40 (c39 * (kInt .u8).size) 0) :: (G30, .row 5 cs32 (c31 * (kInt .u8).size) 0) :: (G21, .row 5 cs23 (c22 * (kInt .u8).size) cs23.length) :: (G8, .row 5 cs10 (c9 * (kInt .u8).size) cs10.length) :: Lr) := p19
        obtain ⟨y85, e86, h⟩ := bind_some h
        try dsimp only at h
        refine Op_.call (.call { callee := .value (.func 25), args := #[(.tmp 57)], argTypes := #[23] }) 58 23 25 #[.slice (Gp G78) y76.length c79] (Goes.cs (by kernel_rfl)) (by kernel_rfl) (W.crc_Sealed y76 y85 e86 nz wz S19 w18 ((G78, .row 5 cs80 (c79 * (kInt .u8).size) cs80.length) :: (G63, .row 5 cs65 (c64 * (kInt .u8).size) cs65.length) :: (G55, .row 5 cs57 (c56 * (kInt .u8).size) cs57.length) :: (G46, .row 5 cs48 (c47 * (kInt .u8).size) cs48.length) :: (G38, .row 5 cs40 (c39 * (kInt .u8).size) 0) :: (G30, .row 5 cs32 (c31 * (kInt .u8).size) 0) :: (G21, .row 5 cs23 (c22 * (kInt .u8).size) cs23.length) :: (G8, .row 5 cs10 (c9 * (kInt .u8).size) cs10.length) :: Lr) (Gp G78) c79 p19 f84) ?_
        rintro _ w20 ⟨S20, G87, c88, cs89, rfl, z20, p20, f91⟩
        have p20 : Hp nz wz S20 w20 ((G87, .row 5 cs89 (c88 * (kInt .u8).size) 0) :: (G78, .row 5 cs80 (c79 * (kInt .u8).size) cs80.length) :: (G63, .row 5 cs65 (c64 * (kInt .u8).size) cs65.length) :: (G55, .row 5 cs57 (c56 * (kInt .u8).size) cs57.length) :: (G46, .row 5 cs48 (c47 * (kInt .u8).size) cs48.length) :: (G38, .row 5 cs40 (c39 * (kInt .u8).size) 0) :: (G30, .row 5 cs32 (c31 * (kInt .u8).size) 0) :: (G21, .row 5 cs23 (c22 * (kInt .u8).size) cs23.length) :: (G8, .row 5 cs10 (c9 * (kInt .u8).size) cs10.length) :: Lr) := p20
        refine Goes.runs 1 [(59, .slice A3 y1.length c4)] [.inRegion (opsOf (sub [1, 1, 1, 1, 1, 1, 0] B4)) [23, 24, 25, 26, 27, 28, 29, 30, 31, 32, 33, 34, 35, 36, 37, 38, 39], .code (sub [1, 1, 1, 1, 1, 1, 1] B4)] (by kernel_rfl) ?_
        obtain ⟨y93, e94, h⟩ := bind_some h
        try dsimp only at h
        refine Op_.call (.call { callee := .value (.func 26), args := #[(.tmp 59)], argTypes := #[23] }) 60 23 26 #[.slice A3 y1.length c4] (Goes.cs (by kernel_rfl)) (by kernel_rfl) (W.tidepoleref02_Sealed y1 y93 e94 nz wz S20 w20 ((G87, .row 5 cs89 (c88 * (kInt .u8).size) 0) :: (G78, .row 5 cs80 (c79 * (kInt .u8).size) cs80.length) :: (G63, .row 5 cs65 (c64 * (kInt .u8).size) cs65.length) :: (G55, .row 5 cs57 (c56 * (kInt .u8).size) cs57.length) :: (G46, .row 5 cs48 (c47 * (kInt .u8).size) cs48.length) :: (G38, .row 5 cs40 (c39 * (kInt .u8).size) 0) :: (G30, .row 5 cs32 (c31 * (kInt .u8).size) 0) :: (G21, .row 5 cs23 (c22 * (kInt .u8).size) cs23.length) :: (G8, .row 5 cs10 (c9 * (kInt .u8).size) cs10.length) :: Lr) A3 c4 p20 ((((((((((((((((((f5.ext z3).ext z4).ext z5).ext z6).ext z7).ext z8).ext z9).ext z10).ext z11).ext z12).ext z13).ext z14).ext z15).ext z16).ext z17).ext z18).ext z19).ext z20)) ?_
        rintro _ w21 ⟨S21, G95, c96, cs97, rfl, z21, p21, f99⟩
        have p21 : Hp nz wz S21 w21 ((G95, .row 5 cs97 (c96 * (kInt .u8).size) 0) :: (G87, .row 5 cs89 (c88 * (kInt .u8).size) 0) :: (G78, .row 5 cs80 (c79 * (kInt .u8).size) cs80.length) :: (G63, .row 5 cs65 (c64 * (kInt .u8).size) cs65.length) :: (G55, .row 5 cs57 (c56 * (kInt .u8).size) cs57.length) :: (G46, .row 5 cs48 (c47 * (kInt .u8).size) cs48.length) :: (G38, .row 5 cs40 (c39 * (kInt .u8).size) 0) :: (G30, .row 5 cs32 (c31 * (kInt .u8).size) 0) :: (G21, .row 5 cs23 (c22 * (kInt .u8).size) cs23.length) :: (G8, .row 5 cs10 (c9 * (kInt .u8).size) cs10.length) :: Lr) := p21
        obtain ⟨S22, z22, p22, f101⟩ := p21.freezeRd 1 rfl (f91.ext z21) (by decide)
        have p22 : Hp nz wz S22 w21 ((G95, .row 5 cs97 (c96 * (kInt .u8).size) 0) :: (G87, .row 5 cs89 (c88 * (kInt .u8).size) cs89.length) :: (G78, .row 5 cs80 (c79 * (kInt .u8).size) cs80.length) :: (G63, .row 5 cs65 (c64 * (kInt .u8).size) cs65.length) :: (G55, .row 5 cs57 (c56 * (kInt .u8).size) cs57.length) :: (G46, .row 5 cs48 (c47 * (kInt .u8).size) cs48.length) :: (G38, .row 5 cs40 (c39 * (kInt .u8).size) 0) :: (G30, .row 5 cs32 (c31 * (kInt .u8).size) 0) :: (G21, .row 5 cs23 (c22 * (kInt .u8).size) cs23.length) :: (G8, .row 5 cs10 (c9 * (kInt .u8).size) cs10.length) :: Lr) := p22
        obtain ⟨S23, z23, p23, f102⟩ := p22.freezeRd 0 rfl (f99.ext z22) (by decide)
        have p23 : Hp nz wz S23 w21 ((G95, .row 5 cs97 (c96 * (kInt .u8).size) cs97.length) :: (G87, .row 5 cs89 (c88 * (kInt .u8).size) cs89.length) :: (G78, .row 5 cs80 (c79 * (kInt .u8).size) cs80.length) :: (G63, .row 5 cs65 (c64 * (kInt .u8).size) cs65.length) :: (G55, .row 5 cs57 (c56 * (kInt .u8).size) cs57.length) :: (G46, .row 5 cs48 (c47 * (kInt .u8).size) cs48.length) :: (G38, .row 5 cs40 (c39 * (kInt .u8).size) 0) :: (G30, .row 5 cs32 (c31 * (kInt .u8).size) 0) :: (G21, .row 5 cs23 (c22 * (kInt .u8).size) cs23.length) :: (G8, .row 5 cs10 (c9 * (kInt .u8).size) cs10.length) :: Lr) := p23
        obtain ⟨y103, e104, h⟩ := bind_some h
        try dsimp only at h
        refine Op_.call (.call { callee := .value (.func 17), args := #[(.tmp 58), (.tmp 60)], argTypes := #[23, 23] }) 61 4 17 #[.slice (Gp G87) y85.length c88, .slice (Gp G95) y93.length c96] (Goes.cs (by kernel_rfl)) (by kernel_rfl) (W.tidepolebase_SameBytes y85 y93 y103 e104 nz wz S23 w21 ((G95, .row 5 cs97 (c96 * (kInt .u8).size) cs97.length) :: (G87, .row 5 cs89 (c88 * (kInt .u8).size) cs89.length) :: (G78, .row 5 cs80 (c79 * (kInt .u8).size) cs80.length) :: (G63, .row 5 cs65 (c64 * (kInt .u8).size) cs65.length) :: (G55, .row 5 cs57 (c56 * (kInt .u8).size) cs57.length) :: (G46, .row 5 cs48 (c47 * (kInt .u8).size) cs48.length) :: (G38, .row 5 cs40 (c39 * (kInt .u8).size) 0) :: (G30, .row 5 cs32 (c31 * (kInt .u8).size) 0) :: (G21, .row 5 cs23 (c22 * (kInt .u8).size) cs23.length) :: (G8, .row 5 cs10 (c9 * (kInt .u8).size) cs10.length) :: Lr) (Gp G87) c88 (Gp G95) c96 p23 (f101.ext z23) f102) ?_
        rintro _ w24 ⟨S24, rfl, z24, p24⟩
        have p24 : Hp nz wz S24 w24 ((G95, .row 5 cs97 (c96 * (kInt .u8).size) cs97.length) :: (G87, .row 5 cs89 (c88 * (kInt .u8).size) cs89.length) :: (G78, .row 5 cs80 (c79 * (kInt .u8).size) cs80.length) :: (G63, .row 5 cs65 (c64 * (kInt .u8).size) cs65.length) :: (G55, .row 5 cs57 (c56 * (kInt .u8).size) cs57.length) :: (G46, .row 5 cs48 (c47 * (kInt .u8).size) cs48.length) :: (G38, .row 5 cs40 (c39 * (kInt .u8).size) 0) :: (G30, .row 5 cs32 (c31 * (kInt .u8).size) 0) :: (G21, .row 5 cs23 (c22 * (kInt .u8).size) cs23.length) :: (G8, .row 5 cs10 (c9 * (kInt .u8).size) cs10.length) :: Lr) := p24
        refine Goes.runs 2 [(62, .bool y103), (63, .bool y103)] [.inRegion (opsOf (sub [1, 1, 1, 1, 1, 1, 0] B4)) [27, 28, 29, 30, 31, 32, 33, 34, 35, 36, 37, 38, 39], .code (sub [1, 1, 1, 1, 1, 1, 1] B4)] (by kernel_rfl) ?_
        by_cases h105 : y103 = true
        · rw [if_pos h105] at h
          rw [h105]
          refine Goes.runs 2 [(64, .slice (Gp G30) y28.1.length c31), (65, .slice (Gp G38) y36.1.length c39)] [.inRegion (opsOf (sub [1, 1, 1, 1, 1, 1, 0] B4)) [29, 30, 31, 32, 33, 34, 35, 36, 37, 38, 39], .code (sub [1, 1, 1, 1, 1, 1, 1] B4)] (by kernel_rfl) ?_
          obtain ⟨S25, z25, p25, f106⟩ := p24.freezeRd 7 rfl (((((((((((((((f34.ext z10).ext z11).ext z12).ext z13).ext z14).ext z15).ext z16).ext z17).ext z18).ext z19).ext z20).ext z21).ext z22).ext z23).ext z24) (by decide)
          have p25 : Hp nz wz S25 w24 ((G95, .row 5 cs97 (c96 * (kInt .u8).size) cs97.length) :: (G87, .row 5 cs89 (c88 * (kInt .u8).size) cs89.length) :: (G78, .row 5 cs80 (c79 * (kInt .u8).size) cs80.length) :: (G63, .row 5 cs65 (c64 * (kInt .u8).size) cs65.length) :: (G55, .row 5 cs57 (c56 * (kInt .u8).size) cs57.length) :: (G46, .row 5 cs48 (c47 * (kInt .u8).size) cs48.length) :: (G38, .row 5 cs40 (c39 * (kInt .u8).size) 0) :: (G30, .row 5 cs32 (c31 * (kInt .u8).size) cs32.length) :: (G21, .row 5 cs23 (c22 * (kInt .u8).size) cs23.length) :: (G8, .row 5 cs10 (c9 * (kInt .u8).size) cs10.length) :: Lr) := p25
          obtain ⟨S26, z26, p26, f107⟩ := p25.freezeRd 6 rfl (((((((((((((((f42.ext z11).ext z12).ext z13).ext z14).ext z15).ext z16).ext z17).ext z18).ext z19).ext z20).ext z21).ext z22).ext z23).ext z24).ext z25) (by decide)
          have p26 : Hp nz wz S26 w24 ((G95, .row 5 cs97 (c96 * (kInt .u8).size) cs97.length) :: (G87, .row 5 cs89 (c88 * (kInt .u8).size) cs89.length) :: (G78, .row 5 cs80 (c79 * (kInt .u8).size) cs80.length) :: (G63, .row 5 cs65 (c64 * (kInt .u8).size) cs65.length) :: (G55, .row 5 cs57 (c56 * (kInt .u8).size) cs57.length) :: (G46, .row 5 cs48 (c47 * (kInt .u8).size) cs48.length) :: (G38, .row 5 cs40 (c39 * (kInt .u8).size) cs40.length) :: (G30, .row 5 cs32 (c31 * (kInt .u8).size) cs32.length) :: (G21, .row 5 cs23 (c22 * (kInt .u8).size) cs23.length) :: (G8, .row 5 cs10 (c9 * (kInt .u8).size) cs10.length) :: Lr) := p26
          obtain ⟨y108, e109, h⟩ := bind_some h
          try dsimp only at h
          refine Op_.call (.call { callee := .value (.func 17), args := #[(.tmp 64), (.tmp 65)], argTypes := #[23, 23] }) 66 4 17 #[.slice (Gp G30) y28.1.length c31, .slice (Gp G38) y36.1.length c39] (Goes.cs (by kernel_rfl)) (by kernel_rfl) (W.tidepolebase_SameBytes y28.1 y36.1 y108 e109 nz wz S26 w24 ((G95, .row 5 cs97 (c96 * (kInt .u8).size) cs97.length) :: (G87, .row 5 cs89 (c88 * (kInt .u8).size) cs89.length) :: (G78, .row 5 cs80 (c79 * (kInt .u8).size) cs80.length) :: (G63, .row 5 cs65 (c64 * (kInt .u8).size) cs65.length) :: (G55, .row 5 cs57 (c56 * (kInt .u8).size) cs57.length) :: (G46, .row 5 cs48 (c47 * (kInt .u8).size) cs48.length) :: (G38, .row 5 cs40 (c39 * (kInt .u8).size) cs40.length) :: (G30, .row 5 cs32 (c31 * (kInt .u8).size) cs32.length) :: (G21, .row 5 cs23 (c22 * (kInt .u8).size) cs23.length) :: (G8, .row 5 cs10 (c9 * (kInt .u8).size) cs10.length) :: Lr) (Gp G30) c31 (Gp G38) c39 p26 (f106.ext z26) f107) ?_
          rintro _ w27 ⟨S27, rfl, z27, p27⟩
          have p27 : Hp nz wz S27 w27 ((G95, .row 5 cs97 (c96 * (kInt .u8).size) cs97.length) :: (G87, .row 5 cs89 (c88 * (kInt .u8).size) cs89.length) :: (G78, .row 5 cs80 (c79 * (kInt .u8).size) cs80.length) :: (G63, .row 5 cs65 (c64 * (kInt .u8).size) cs65.length) :: (G55, .row 5 cs57 (c56 * (kInt .u8).size) cs57.length) :: (G46, .row 5 cs48 (c47 * (kInt .u8).size) cs48.length) :: (G38, .row 5 cs40 (c39 * (kInt .u8).size) cs40.length) :: (G30, .row 5 cs32 (c31 * (kInt .u8).size) cs32.length) :: (G21, .row 5 cs23 (c22 * (kInt .u8).size) cs23.length) :: (G8, .row 5 cs10 (c9 * (kInt .u8).size) cs10.length) :: Lr) := p27
          refine Goes.runs 2 [(67, .bool y108), (68, .bool y108)] [.inRegion (opsOf (sub [1, 1, 1, 1, 1, 1, 0] B4)) [32, 33, 34, 35, 36, 37, 38, 39], .code (sub [1, 1, 1, 1, 1, 1, 1] B4)] (by kernel_rfl) ?_
          by_cases h110 : y108 = true
          · rw [if_pos h110] at h
            rw [h110]
            refine Goes.runs 5 [(69, .bool y28.2), (70, .bool y36.2), (71, .bool (y28.2 == y36.2)), (72, .bool (y28.2 == y36.2)), (73, .bool (y28.2 == y36.2))] [.inRegion (opsOf (sub [1, 1, 1, 1, 1, 1, 0] B4)) [37, 38, 39], .code (sub [1, 1, 1, 1, 1, 1, 1] B4)] (by kernel_rfl) ?_
            by_cases h111 : (y28.2 == y36.2) = true
            · rw [if_pos h111] at h
              rw [h111]
              obtain ⟨y112, e113, h⟩ := bind_some h
              try dsimp only at h
              refine Op_.call (.call { callee := .value (.func 18), args := #[], argTypes := #[] }) 74 4 18 #[] (Goes.cs (by kernel_rfl)) (by kernel_rfl) (W.tidepolelaw02_works  y112 e113 nz wz S27 w27 ((G95, .row 5 cs97 (c96 * (kInt .u8).size) cs97.length) :: (G87, .row 5 cs89 (c88 * (kInt .u8).size) cs89.length) :: (G78, .row 5 cs80 (c79 * (kInt .u8).size) cs80.length) :: (G63, .row 5 cs65 (c64 * (kInt .u8).size) cs65.length) :: (G55, .row 5 cs57 (c56 * (kInt .u8).size) cs57.length) :: (G46, .row 5 cs48 (c47 * (kInt .u8).size) cs48.length) :: (G38, .row 5 cs40 (c39 * (kInt .u8).size) cs40.length) :: (G30, .row 5 cs32 (c31 * (kInt .u8).size) cs32.length) :: (G21, .row 5 cs23 (c22 * (kInt .u8).size) cs23.length) :: (G8, .row 5 cs10 (c9 * (kInt .u8).size) cs10.length) :: Lr)  p27 ) ?_
              rintro _ w28 ⟨S28, rfl, z28, p28⟩
              have p28 : Hp nz wz S28 w28 ((G95, .row 5 cs97 (c96 * (kInt .u8).size) cs97.length) :: (G87, .row 5 cs89 (c88 * (kInt .u8).size) cs89.length) :: (G78, .row 5 cs80 (c79 * (kInt .u8).size) cs80.length) :: (G63, .row 5 cs65 (c64 * (kInt .u8).size) cs65.length) :: (G55, .row 5 cs57 (c56 * (kInt .u8).size) cs57.length) :: (G46, .row 5 cs48 (c47 * (kInt .u8).size) cs48.length) :: (G38, .row 5 cs40 (c39 * (kInt .u8).size) cs40.length) :: (G30, .row 5 cs32 (c31 * (kInt .u8).size) cs32.length) :: (G21, .row 5 cs23 (c22 * (kInt .u8).size) cs23.length) :: (G8, .row 5 cs10 (c9 * (kInt .u8).size) cs10.length) :: Lr) := p28
              refine Goes.runs 3 [(75, .bool y112), (4, .bool y112)] [.code (sub [1, 1, 1, 1, 1, 1, 1] B4)] (by kernel_rfl) ?_
              have p28 : Hp nz wz S28 w28 ((G87, .row 5 cs89 (c88 * (kInt .u8).size) cs89.length) :: (G78, .row 5 cs80 (c79 * (kInt .u8).size) cs80.length) :: (G63, .row 5 cs65 (c64 * (kInt .u8).size) cs65.length) :: (G55, .row 5 cs57 (c56 * (kInt .u8).size) cs57.length) :: (G46, .row 5 cs48 (c47 * (kInt .u8).size) cs48.length) :: (G38, .row 5 cs40 (c39 * (kInt .u8).size) cs40.length) :: (G30, .row 5 cs32 (c31 * (kInt .u8).size) cs32.length) :: (G21, .row 5 cs23 (c22 * (kInt .u8).size) cs23.length) :: (G8, .row 5 cs10 (c9 * (kInt .u8).size) cs10.length) :: Lr) := (p28.front 0 _ rfl).drop
              have p28 : Hp nz wz S28 w28 ((G78, .row 5 cs80 (c79 * (kInt .u8).size) cs80.length) :: (G63, .row 5 cs65 (c64 * (kInt .u8).size) cs65.length) :: (G55, .row 5 cs57 (c56 * (kInt .u8).size) cs57.length) :: (G46, .row 5 cs48 (c47 * (kInt .u8).size) cs48.length) :: (G38, .row 5 cs40 (c39 * (kInt .u8).size) cs40.length) :: (G30, .row 5 cs32 (c31 * (kInt .u8).size) cs32.length) :: (G21, .row 5 cs23 (c22 * (kInt .u8).size) cs23.length) :: (G8, .row 5 cs10 (c9 * (kInt .u8).size) cs10.length) :: Lr) := (p28.front 0 _ rfl).drop
              have p28 : Hp nz wz S28 w28 ((G63, .row 5 cs65 (c64 * (kInt .u8).size) cs65.length) :: (G55, .row 5 cs57 (c56 * (kInt .u8).size) cs57.length) :: (G46, .row 5 cs48 (c47 * (kInt .u8).size) cs48.length) :: (G38, .row 5 cs40 (c39 * (kInt .u8).size) cs40.length) :: (G30, .row 5 cs32 (c31 * (kInt .u8).size) cs32.length) :: (G21, .row 5 cs23 (c22 * (kInt .u8).size) cs23.length) :: (G8, .row 5 cs10 (c9 * (kInt .u8).size) cs10.length) :: Lr) := (p28.front 0 _ rfl).drop
              have p28 : Hp nz wz S28 w28 ((G55, .row 5 cs57 (c56 * (kInt .u8).size) cs57.length) :: (G46, .row 5 cs48 (c47 * (kInt .u8).size) cs48.length) :: (G38, .row 5 cs40 (c39 * (kInt .u8).size) cs40.length) :: (G30, .row 5 cs32 (c31 * (kInt .u8).size) cs32.length) :: (G21, .row 5 cs23 (c22 * (kInt .u8).size) cs23.length) :: (G8, .row 5 cs10 (c9 * (kInt .u8).size) cs10.length) :: Lr) := (p28.front 0 _ rfl).drop
              have p28 : Hp nz wz S28 w28 ((G46, .row 5 cs48 (c47 * (kInt .u8).size) cs48.length) :: (G38, .row 5 cs40 (c39 * (kInt .u8).size) cs40.length) :: (G30, .row 5 cs32 (c31 * (kInt .u8).size) cs32.length) :: (G21, .row 5 cs23 (c22 * (kInt .u8).size) cs23.length) :: (G8, .row 5 cs10 (c9 * (kInt .u8).size) cs10.length) :: Lr) := (p28.front 0 _ rfl).drop
              have p28 : Hp nz wz S28 w28 ((G38, .row 5 cs40 (c39 * (kInt .u8).size) cs40.length) :: (G30, .row 5 cs32 (c31 * (kInt .u8).size) cs32.length) :: (G21, .row 5 cs23 (c22 * (kInt .u8).size) cs23.length) :: (G8, .row 5 cs10 (c9 * (kInt .u8).size) cs10.length) :: Lr) := (p28.front 0 _ rfl).drop
              have p28 : Hp nz wz S28 w28 ((G30, .row 5 cs32 (c31 * (kInt .u8).size) cs32.length) :: (G21, .row 5 cs23 (c22 * (kInt .u8).size) cs23.length) :: (G8, .row 5 cs10 (c9 * (kInt .u8).size) cs10.length) :: Lr) := (p28.front 0 _ rfl).drop
              have p28 : Hp nz wz S28 w28 ((G21, .row 5 cs23 (c22 * (kInt .u8).size) cs23.length) :: (G8, .row 5 cs10 (c9 * (kInt .u8).size) cs10.length) :: Lr) := (p28.front 0 _ rfl).drop
              have p28 : Hp nz wz S28 w28 ((G8, .row 5 cs10 (c9 * (kInt .u8).size) cs10.length) :: Lr) := (p28.front 0 _ rfl).drop
              have p28 : Hp nz wz S28 w28 (Lr) := (p28.front 0 _ rfl).drop
              obtain rfl := Option.some.inj h
              exact Goes.ret (fn := Try.f4) (by kernel_rfl) (v := .bool y112) (by kernel_rfl) ⟨S28, rfl, ((((((((((((((((((((((((((((Ext.refl S0 w0).trans z2).trans z3).trans z4).trans z5).trans z6).trans z7).trans z8).trans z9).trans z10).trans z11).trans z12).trans z13).trans z14).trans z15).trans z16).trans z17).trans z18).trans z19).trans z20).trans z21).trans z22).trans z23).trans z24).trans z25).trans z26).trans z27).trans z28), p28⟩
            · rw [if_neg h111] at h
              have h111' : (y28.2 == y36.2) = false := by simpa using h111
              rw [h111']
              refine Goes.runs 4 [(74, undef), (75, .bool false), (4, .bool false)] [.code (sub [1, 1, 1, 1, 1, 1, 1] B4)] (by kernel_rfl) ?_
              have p27 : Hp nz wz S27 w27 ((G87, .row 5 cs89 (c88 * (kInt .u8).size) cs89.length) :: (G78, .row 5 cs80 (c79 * (kInt .u8).size) cs80.length) :: (G63, .row 5 cs65 (c64 * (kInt .u8).size) cs65.length) :: (G55, .row 5 cs57 (c56 * (kInt .u8).size) cs57.length) :: (G46, .row 5 cs48 (c47 * (kInt .u8).size) cs48.length) :: (G38, .row 5 cs40 (c39 * (kInt .u8).size) cs40.length) :: (G30, .row 5 cs32 (c31 * (kInt .u8).size) cs32.length) :: (G21, .row 5 cs23 (c22 * (kInt .u8).size) cs23.length) :: (G8, .row 5 cs10 (c9 * (kInt .u8).size) cs10.length) :: Lr) := (p27.front 0 _ rfl).drop
              have p27 : Hp nz wz S27 w27 ((G78, .row 5 cs80 (c79 * (kInt .u8).size) cs80.length) :: (G63, .row 5 cs65 (c64 * (kInt .u8).size) cs65.length) :: (G55, .row 5 cs57 (c56 * (kInt .u8).size) cs57.length) :: (G46, .row 5 cs48 (c47 * (kInt .u8).size) cs48.length) :: (G38, .row 5 cs40 (c39 * (kInt .u8).size) cs40.length) :: (G30, .row 5 cs32 (c31 * (kInt .u8).size) cs32.length) :: (G21, .row 5 cs23 (c22 * (kInt .u8).size) cs23.length) :: (G8, .row 5 cs10 (c9 * (kInt .u8).size) cs10.length) :: Lr) := (p27.front 0 _ rfl).drop
              have p27 : Hp nz wz S27 w27 ((G63, .row 5 cs65 (c64 * (kInt .u8).size) cs65.length) :: (G55, .row 5 cs57 (c56 * (kInt .u8).size) cs57.length) :: (G46, .row 5 cs48 (c47 * (kInt .u8).size) cs48.length) :: (G38, .row 5 cs40 (c39 * (kInt .u8).size) cs40.length) :: (G30, .row 5 cs32 (c31 * (kInt .u8).size) cs32.length) :: (G21, .row 5 cs23 (c22 * (kInt .u8).size) cs23.length) :: (G8, .row 5 cs10 (c9 * (kInt .u8).size) cs10.length) :: Lr) := (p27.front 0 _ rfl).drop
              have p27 : Hp nz wz S27 w27 ((G55, .row 5 cs57 (c56 * (kInt .u8).size) cs57.length) :: (G46, .row 5 cs48 (c47 * (kInt .u8).size) cs48.length) :: (G38, .row 5 cs40 (c39 * (kInt .u8).size) cs40.length) :: (G30, .row 5 cs32 (c31 * (kInt .u8).size) cs32.length) :: (G21, .row 5 cs23 (c22 * (kInt .u8).size) cs23.length) :: (G8, .row 5 cs10 (c9 * (kInt .u8).size) cs10.length) :: Lr) := (p27.front 0 _ rfl).drop
              have p27 : Hp nz wz S27 w27 ((G46, .row 5 cs48 (c47 * (kInt .u8).size) cs48.length) :: (G38, .row 5 cs40 (c39 * (kInt .u8).size) cs40.length) :: (G30, .row 5 cs32 (c31 * (kInt .u8).size) cs32.length) :: (G21, .row 5 cs23 (c22 * (kInt .u8).size) cs23.length) :: (G8, .row 5 cs10 (c9 * (kInt .u8).size) cs10.length) :: Lr) := (p27.front 0 _ rfl).drop
              have p27 : Hp nz wz S27 w27 ((G38, .row 5 cs40 (c39 * (kInt .u8).size) cs40.length) :: (G30, .row 5 cs32 (c31 * (kInt .u8).size) cs32.length) :: (G21, .row 5 cs23 (c22 * (kInt .u8).size) cs23.length) :: (G8, .row 5 cs10 (c9 * (kInt .u8).size) cs10.length) :: Lr) := (p27.front 0 _ rfl).drop
              have p27 : Hp nz wz S27 w27 ((G30, .row 5 cs32 (c31 * (kInt .u8).size) cs32.length) :: (G21, .row 5 cs23 (c22 * (kInt .u8).size) cs23.length) :: (G8, .row 5 cs10 (c9 * (kInt .u8).size) cs10.length) :: Lr) := (p27.front 0 _ rfl).drop
              have p27 : Hp nz wz S27 w27 ((G21, .row 5 cs23 (c22 * (kInt .u8).size) cs23.length) :: (G8, .row 5 cs10 (c9 * (kInt .u8).size) cs10.length) :: Lr) := (p27.front 0 _ rfl).drop
              have p27 : Hp nz wz S27 w27 ((G8, .row 5 cs10 (c9 * (kInt .u8).size) cs10.length) :: Lr) := (p27.front 0 _ rfl).drop
              have p27 : Hp nz wz S27 w27 (Lr) := (p27.front 0 _ rfl).drop
              obtain rfl := Option.some.inj h
              exact Goes.ret (fn := Try.f4) (by kernel_rfl) (v := .bool false) (by kernel_rfl) ⟨S27, rfl, (((((((((((((((((((((((((((Ext.refl S0 w0).trans z2).trans z3).trans z4).trans z5).trans z6).trans z7).trans z8).trans z9).trans z10).trans z11).trans z12).trans z13).trans z14).trans z15).trans z16).trans z17).trans z18).trans z19).trans z20).trans z21).trans z22).trans z23).trans z24).trans z25).trans z26).trans z27), p27⟩
          · rw [if_neg h110] at h
            have h110' : y108 = false := by simpa using h110
            rw [h110']
            refine Goes.runs 9 [(69, undef), (70, undef), (71, undef), (72, .bool false), (73, .bool false), (74, undef), (75, .bool false), (4, .bool false)] [.code (sub [1, 1, 1, 1, 1, 1, 1] B4)] (by kernel_rfl) ?_
            have p27 : Hp nz wz S27 w27 ((G87, .row 5 cs89 (c88 * (kInt .u8).size) cs89.length) :: (G78, .row 5 cs80 (c79 * (kInt .u8).size) cs80.length) :: (G63, .row 5 cs65 (c64 * (kInt .u8).size) cs65.length) :: (G55, .row 5 cs57 (c56 * (kInt .u8).size) cs57.length) :: (G46, .row 5 cs48 (c47 * (kInt .u8).size) cs48.length) :: (G38, .row 5 cs40 (c39 * (kInt .u8).size) cs40.length) :: (G30, .row 5 cs32 (c31 * (kInt .u8).size) cs32.length) :: (G21, .row 5 cs23 (c22 * (kInt .u8).size) cs23.length) :: (G8, .row 5 cs10 (c9 * (kInt .u8).size) cs10.length) :: Lr) := (p27.front 0 _ rfl).drop
            have p27 : Hp nz wz S27 w27 ((G78, .row 5 cs80 (c79 * (kInt .u8).size) cs80.length) :: (G63, .row 5 cs65 (c64 * (kInt .u8).size) cs65.length) :: (G55, .row 5 cs57 (c56 * (kInt .u8).size) cs57.length) :: (G46, .row 5 cs48 (c47 * (kInt .u8).size) cs48.length) :: (G38, .row 5 cs40 (c39 * (kInt .u8).size) cs40.length) :: (G30, .row 5 cs32 (c31 * (kInt .u8).size) cs32.length) :: (G21, .row 5 cs23 (c22 * (kInt .u8).size) cs23.length) :: (G8, .row 5 cs10 (c9 * (kInt .u8).size) cs10.length) :: Lr) := (p27.front 0 _ rfl).drop
            have p27 : Hp nz wz S27 w27 ((G63, .row 5 cs65 (c64 * (kInt .u8).size) cs65.length) :: (G55, .row 5 cs57 (c56 * (kInt .u8).size) cs57.length) :: (G46, .row 5 cs48 (c47 * (kInt .u8).size) cs48.length) :: (G38, .row 5 cs40 (c39 * (kInt .u8).size) cs40.length) :: (G30, .row 5 cs32 (c31 * (kInt .u8).size) cs32.length) :: (G21, .row 5 cs23 (c22 * (kInt .u8).size) cs23.length) :: (G8, .row 5 cs10 (c9 * (kInt .u8).size) cs10.length) :: Lr) := (p27.front 0 _ rfl).drop
            have p27 : Hp nz wz S27 w27 ((G55, .row 5 cs57 (c56 * (kInt .u8).size) cs57.length) :: (G46, .row 5 cs48 (c47 * (kInt .u8).size) cs48.length) :: (G38, .row 5 cs40 (c39 * (kInt .u8).size) cs40.length) :: (G30, .row 5 cs32 (c31 * (kInt .u8).size) cs32.length) :: (G21, .row 5 cs23 (c22 * (kInt .u8).size) cs23.length) :: (G8, .row 5 cs10 (c9 * (kInt .u8).size) cs10.length) :: Lr) := (p27.front 0 _ rfl).drop
            have p27 : Hp nz wz S27 w27 ((G46, .row 5 cs48 (c47 * (kInt .u8).size) cs48.length) :: (G38, .row 5 cs40 (c39 * (kInt .u8).size) cs40.length) :: (G30, .row 5 cs32 (c31 * (kInt .u8).size) cs32.length) :: (G21, .row 5 cs23 (c22 * (kInt .u8).size) cs23.length) :: (G8, .row 5 cs10 (c9 * (kInt .u8).size) cs10.length) :: Lr) := (p27.front 0 _ rfl).drop
            have p27 : Hp nz wz S27 w27 ((G38, .row 5 cs40 (c39 * (kInt .u8).size) cs40.length) :: (G30, .row 5 cs32 (c31 * (kInt .u8).size) cs32.length) :: (G21, .row 5 cs23 (c22 * (kInt .u8).size) cs23.length) :: (G8, .row 5 cs10 (c9 * (kInt .u8).size) cs10.length) :: Lr) := (p27.front 0 _ rfl).drop
            have p27 : Hp nz wz S27 w27 ((G30, .row 5 cs32 (c31 * (kInt .u8).size) cs32.length) :: (G21, .row 5 cs23 (c22 * (kInt .u8).size) cs23.length) :: (G8, .row 5 cs10 (c9 * (kInt .u8).size) cs10.length) :: Lr) := (p27.front 0 _ rfl).drop
            have p27 : Hp nz wz S27 w27 ((G21, .row 5 cs23 (c22 * (kInt .u8).size) cs23.length) :: (G8, .row 5 cs10 (c9 * (kInt .u8).size) cs10.length) :: Lr) := (p27.front 0 _ rfl).drop
            have p27 : Hp nz wz S27 w27 ((G8, .row 5 cs10 (c9 * (kInt .u8).size) cs10.length) :: Lr) := (p27.front 0 _ rfl).drop
            have p27 : Hp nz wz S27 w27 (Lr) := (p27.front 0 _ rfl).drop
            obtain rfl := Option.some.inj h
            exact Goes.ret (fn := Try.f4) (by kernel_rfl) (v := .bool false) (by kernel_rfl) ⟨S27, rfl, (((((((((((((((((((((((((((Ext.refl S0 w0).trans z2).trans z3).trans z4).trans z5).trans z6).trans z7).trans z8).trans z9).trans z10).trans z11).trans z12).trans z13).trans z14).trans z15).trans z16).trans z17).trans z18).trans z19).trans z20).trans z21).trans z22).trans z23).trans z24).trans z25).trans z26).trans z27), p27⟩
        · rw [if_neg h105] at h
          have h105' : y103 = false := by simpa using h105
          rw [h105']
          refine Goes.runs 14 [(64, undef), (65, undef), (66, undef), (67, .bool false), (68, .bool false), (69, undef), (70, undef), (71, undef), (72, .bool false), (73, .bool false), (74, undef), (75, .bool false), (4, .bool false)] [.code (sub [1, 1, 1, 1, 1, 1, 1] B4)] (by kernel_rfl) ?_
          have p24 : Hp nz wz S24 w24 ((G87, .row 5 cs89 (c88 * (kInt .u8).size) cs89.length) :: (G78, .row 5 cs80 (c79 * (kInt .u8).size) cs80.length) :: (G63, .row 5 cs65 (c64 * (kInt .u8).size) cs65.length) :: (G55, .row 5 cs57 (c56 * (kInt .u8).size) cs57.length) :: (G46, .row 5 cs48 (c47 * (kInt .u8).size) cs48.length) :: (G38, .row 5 cs40 (c39 * (kInt .u8).size) 0) :: (G30, .row 5 cs32 (c31 * (kInt .u8).size) 0) :: (G21, .row 5 cs23 (c22 * (kInt .u8).size) cs23.length) :: (G8, .row 5 cs10 (c9 * (kInt .u8).size) cs10.length) :: Lr) := (p24.front 0 _ rfl).drop
          have p24 : Hp nz wz S24 w24 ((G78, .row 5 cs80 (c79 * (kInt .u8).size) cs80.length) :: (G63, .row 5 cs65 (c64 * (kInt .u8).size) cs65.length) :: (G55, .row 5 cs57 (c56 * (kInt .u8).size) cs57.length) :: (G46, .row 5 cs48 (c47 * (kInt .u8).size) cs48.length) :: (G38, .row 5 cs40 (c39 * (kInt .u8).size) 0) :: (G30, .row 5 cs32 (c31 * (kInt .u8).size) 0) :: (G21, .row 5 cs23 (c22 * (kInt .u8).size) cs23.length) :: (G8, .row 5 cs10 (c9 * (kInt .u8).size) cs10.length) :: Lr) := (p24.front 0 _ rfl).drop
          have p24 : Hp nz wz S24 w24 ((G63, .row 5 cs65 (c64 * (kInt .u8).size) cs65.length) :: (G55, .row 5 cs57 (c56 * (kInt .u8).size) cs57.length) :: (G46, .row 5 cs48 (c47 * (kInt .u8).size) cs48.length) :: (G38, .row 5 cs40 (c39 * (kInt .u8).size) 0) :: (G30, .row 5 cs32 (c31 * (kInt .u8).size) 0) :: (G21, .row 5 cs23 (c22 * (kInt .u8).size) cs23.length) :: (G8, .row 5 cs10 (c9 * (kInt .u8).size) cs10.length) :: Lr) := (p24.front 0 _ rfl).drop
          have p24 : Hp nz wz S24 w24 ((G55, .row 5 cs57 (c56 * (kInt .u8).size) cs57.length) :: (G46, .row 5 cs48 (c47 * (kInt .u8).size) cs48.length) :: (G38, .row 5 cs40 (c39 * (kInt .u8).size) 0) :: (G30, .row 5 cs32 (c31 * (kInt .u8).size) 0) :: (G21, .row 5 cs23 (c22 * (kInt .u8).size) cs23.length) :: (G8, .row 5 cs10 (c9 * (kInt .u8).size) cs10.length) :: Lr) := (p24.front 0 _ rfl).drop
          have p24 : Hp nz wz S24 w24 ((G46, .row 5 cs48 (c47 * (kInt .u8).size) cs48.length) :: (G38, .row 5 cs40 (c39 * (kInt .u8).size) 0) :: (G30, .row 5 cs32 (c31 * (kInt .u8).size) 0) :: (G21, .row 5 cs23 (c22 * (kInt .u8).size) cs23.length) :: (G8, .row 5 cs10 (c9 * (kInt .u8).size) cs10.length) :: Lr) := (p24.front 0 _ rfl).drop
          have p24 : Hp nz wz S24 w24 ((G38, .row 5 cs40 (c39 * (kInt .u8).size) 0) :: (G30, .row 5 cs32 (c31 * (kInt .u8).size) 0) :: (G21, .row 5 cs23 (c22 * (kInt .u8).size) cs23.length) :: (G8, .row 5 cs10 (c9 * (kInt .u8).size) cs10.length) :: Lr) := (p24.front 0 _ rfl).drop
          have p24 : Hp nz wz S24 w24 ((G30, .row 5 cs32 (c31 * (kInt .u8).size) 0) :: (G21, .row 5 cs23 (c22 * (kInt .u8).size) cs23.length) :: (G8, .row 5 cs10 (c9 * (kInt .u8).size) cs10.length) :: Lr) := (p24.front 0 _ rfl).drop
          have p24 : Hp nz wz S24 w24 ((G21, .row 5 cs23 (c22 * (kInt .u8).size) cs23.length) :: (G8, .row 5 cs10 (c9 * (kInt .u8).size) cs10.length) :: Lr) := (p24.front 0 _ rfl).drop
          have p24 : Hp nz wz S24 w24 ((G8, .row 5 cs10 (c9 * (kInt .u8).size) cs10.length) :: Lr) := (p24.front 0 _ rfl).drop
          have p24 : Hp nz wz S24 w24 (Lr) := (p24.front 0 _ rfl).drop
          obtain rfl := Option.some.inj h
          exact Goes.ret (fn := Try.f4) (by kernel_rfl) (v := .bool false) (by kernel_rfl) ⟨S24, rfl, ((((((((((((((((((((((((Ext.refl S0 w0).trans z2).trans z3).trans z4).trans z5).trans z6).trans z7).trans z8).trans z9).trans z10).trans z11).trans z12).trans z13).trans z14).trans z15).trans z16).trans z17).trans z18).trans z19).trans z20).trans z21).trans z22).trans z23).trans z24), p24⟩
      · rw [if_neg h75] at h
        rw [decide_eq_false h75]
        refine Goes.runs 22 [(56, undef), (57, undef), (58, undef), (59, undef), (60, undef), (61, undef), (62, .bool false), (63, .bool false), (64, undef), (65, undef), (66, undef), (67, .bool false), (68, .bool false), (69, undef), (70, undef), (71, undef), (72, .bool false), (73, .bool false), (74, undef), (75, .bool false), (4, .bool false)] [.code (sub [1, 1, 1, 1, 1, 1, 1] B4)] (by kernel_rfl) ?_
        have p17 : Hp nz wz S17 w17 ((G55, .row 5 cs57 (c56 * (kInt .u8).size) cs57.length) :: (G46, .row 5 cs48 (c47 * (kInt .u8).size) cs48.length) :: (G38, .row 5 cs40 (c39 * (kInt .u8).size) 0) :: (G30, .row 5 cs32 (c31 * (kInt .u8).size) 0) :: (G21, .row 5 cs23 (c22 * (kInt .u8).size) cs23.length) :: (G8, .row 5 cs10 (c9 * (kInt .u8).size) cs10.length) :: Lr) := (p17.front 0 _ rfl).drop
        have p17 : Hp nz wz S17 w17 ((G46, .row 5 cs48 (c47 * (kInt .u8).size) cs48.length) :: (G38, .row 5 cs40 (c39 * (kInt .u8).size) 0) :: (G30, .row 5 cs32 (c31 * (kInt .u8).size) 0) :: (G21, .row 5 cs23 (c22 * (kInt .u8).size) cs23.length) :: (G8, .row 5 cs10 (c9 * (kInt .u8).size) cs10.length) :: Lr) := (p17.front 0 _ rfl).drop
        have p17 : Hp nz wz S17 w17 ((G38, .row 5 cs40 (c39 * (kInt .u8).size) 0) :: (G30, .row 5 cs32 (c31 * (kInt .u8).size) 0) :: (G21, .row 5 cs23 (c22 * (kInt .u8).size) cs23.length) :: (G8, .row 5 cs10 (c9 * (kInt .u8).size) cs10.length) :: Lr) := (p17.front 0 _ rfl).drop
        have p17 : Hp nz wz S17 w17 ((G30, .row 5 cs32 (c31 * (kInt .u8).size) 0) :: (G21, .row 5 cs23 (c22 * (kInt .u8).size) cs23.length) :: (G8, .row 5 cs10 (c9 * (kInt .u8).size) cs10.length) :: Lr) := (p17.front 0 _ rfl).drop
        have p17 : Hp nz wz S17 w17 ((G21, .row 5 cs23 (c22 * (kInt .u8).size) cs23.length) :: (G8, .row 5 cs10 (c9 * (kInt .u8).size) cs10.length) :: Lr) := (p17.front 0 _ rfl).drop
        have p17 : Hp nz wz S17 w17 ((G8, .row 5 cs10 (c9 * (kInt .u8).size) cs10.length) :: Lr) := (p17.front 0 _ rfl).drop
        have p17 : Hp nz wz S17 w17 (Lr) := (p17.front 0 _ rfl).drop
        obtain rfl := Option.some.inj h
        exact Goes.ret (fn := Try.f4) (by kernel_rfl) (v := .bool false) (by kernel_rfl) ⟨S17, rfl, (((((((((((((((((Ext.refl S0 w0).trans z2).trans z3).trans z4).trans z5).trans z6).trans z7).trans z8).trans z9).trans z10).trans z11).trans z12).trans z13).trans z14).trans z15).trans z16).trans z17), p17⟩
    · rw [if_neg h74] at h
      rw [decide_eq_false h74]
      refine Goes.runs 27 [(51, undef), (52, undef), (53, undef), (54, .bool false), (55, .bool false), (56, undef), (57, undef), (58, undef), (59, undef), (60, undef), (61, undef), (62, .bool false), (63, .bool false), (64, undef), (65, undef), (66, undef), (67, .bool false), (68, .bool false), (69, undef), (70, undef), (71, undef), (72, .bool false), (73, .bool false), (74, undef), (75, .bool false), (4, .bool false)] [.code (sub [1, 1, 1, 1, 1, 1, 1] B4)] (by kernel_rfl) ?_
      have p17 : Hp nz wz S17 w17 ((G55, .row 5 cs57 (c56 * (kInt .u8).size) cs57.length) :: (G46, .row 5 cs48 (c47 * (kInt .u8).size) cs48.length) :: (G38, .row 5 cs40 (c39 * (kInt .u8).size) 0) :: (G30, .row 5 cs32 (c31 * (kInt .u8).size) 0) :: (G21, .row 5 cs23 (c22 * (kInt .u8).size) cs23.length) :: (G8, .row 5 cs10 (c9 * (kInt .u8).size) cs10.length) :: Lr) := (p17.front 0 _ rfl).drop
      have p17 : Hp nz wz S17 w17 ((G46, .row 5 cs48 (c47 * (kInt .u8).size) cs48.length) :: (G38, .row 5 cs40 (c39 * (kInt .u8).size) 0) :: (G30, .row 5 cs32 (c31 * (kInt .u8).size) 0) :: (G21, .row 5 cs23 (c22 * (kInt .u8).size) cs23.length) :: (G8, .row 5 cs10 (c9 * (kInt .u8).size) cs10.length) :: Lr) := (p17.front 0 _ rfl).drop
      have p17 : Hp nz wz S17 w17 ((G38, .row 5 cs40 (c39 * (kInt .u8).size) 0) :: (G30, .row 5 cs32 (c31 * (kInt .u8).size) 0) :: (G21, .row 5 cs23 (c22 * (kInt .u8).size) cs23.length) :: (G8, .row 5 cs10 (c9 * (kInt .u8).size) cs10.length) :: Lr) := (p17.front 0 _ rfl).drop
      have p17 : Hp nz wz S17 w17 ((G30, .row 5 cs32 (c31 * (kInt .u8).size) 0) :: (G21, .row 5 cs23 (c22 * (kInt .u8).size) cs23.length) :: (G8, .row 5 cs10 (c9 * (kInt .u8).size) cs10.length) :: Lr) := (p17.front 0 _ rfl).drop
      have p17 : Hp nz wz S17 w17 ((G21, .row 5 cs23 (c22 * (kInt .u8).size) cs23.length) :: (G8, .row 5 cs10 (c9 * (kInt .u8).size) cs10.length) :: Lr) := (p17.front 0 _ rfl).drop
      have p17 : Hp nz wz S17 w17 ((G8, .row 5 cs10 (c9 * (kInt .u8).size) cs10.length) :: Lr) := (p17.front 0 _ rfl).drop
      have p17 : Hp nz wz S17 w17 (Lr) := (p17.front 0 _ rfl).drop
      obtain rfl := Option.some.inj h
      exact Goes.ret (fn := Try.f4) (by kernel_rfl) (v := .bool false) (by kernel_rfl) ⟨S17, rfl, (((((((((((((((((Ext.refl S0 w0).trans z2).trans z3).trans z4).trans z5).trans z6).trans z7).trans z8).trans z9).trans z10).trans z11).trans z12).trans z13).trans z14).trans z15).trans z16).trans z17), p17⟩
  · rw [if_neg h73] at h
    have h73' : y71 = false := by simpa using h73
    rw [h73']
    refine Goes.runs 32 [(46, undef), (47, undef), (48, undef), (49, .bool false), (50, .bool false), (51, undef), (52, undef), (53, undef), (54, .bool false), (55, .bool false), (56, undef), (57, undef), (58, undef), (59, undef), (60, undef), (61, undef), (62, .bool false), (63, .bool false), (64, undef), (65, undef), (66, undef), (67, .bool false), (68, .bool false), (69, undef), (70, undef), (71, undef), (72, .bool false), (73, .bool false), (74, undef), (75, .bool false), (4, .bool false)] [.code (sub [1, 1, 1, 1, 1, 1, 1] B4)] (by kernel_rfl) ?_
    have p17 : Hp nz wz S17 w17 ((G55, .row 5 cs57 (c56 * (kInt .u8).size) cs57.length) :: (G46, .row 5 cs48 (c47 * (kInt .u8).size) cs48.length) :: (G38, .row 5 cs40 (c39 * (kInt .u8).size) 0) :: (G30, .row 5 cs32 (c31 * (kInt .u8).size) 0) :: (G21, .row 5 cs23 (c22 * (kInt .u8).size) cs23.length) :: (G8, .row 5 cs10 (c9 * (kInt .u8).size) cs10.length) :: Lr) := (p17.front 0 _ rfl).drop
    have p17 : Hp nz wz S17 w17 ((G46, .row 5 cs48 (c47 * (kInt .u8).size) cs48.length) :: (G38, .row 5 cs40 (c39 * (kInt .u8).size) 0) :: (G30, .row 5 cs32 (c31 * (kInt .u8).size) 0) :: (G21, .row 5 cs23 (c22 * (kInt .u8).size) cs23.length) :: (G8, .row 5 cs10 (c9 * (kInt .u8).size) cs10.length) :: Lr) := (p17.front 0 _ rfl).drop
    have p17 : Hp nz wz S17 w17 ((G38, .row 5 cs40 (c39 * (kInt .u8).size) 0) :: (G30, .row 5 cs32 (c31 * (kInt .u8).size) 0) :: (G21, .row 5 cs23 (c22 * (kInt .u8).size) cs23.length) :: (G8, .row 5 cs10 (c9 * (kInt .u8).size) cs10.length) :: Lr) := (p17.front 0 _ rfl).drop
    have p17 : Hp nz wz S17 w17 ((G30, .row 5 cs32 (c31 * (kInt .u8).size) 0) :: (G21, .row 5 cs23 (c22 * (kInt .u8).size) cs23.length) :: (G8, .row 5 cs10 (c9 * (kInt .u8).size) cs10.length) :: Lr) := (p17.front 0 _ rfl).drop
    have p17 : Hp nz wz S17 w17 ((G21, .row 5 cs23 (c22 * (kInt .u8).size) cs23.length) :: (G8, .row 5 cs10 (c9 * (kInt .u8).size) cs10.length) :: Lr) := (p17.front 0 _ rfl).drop
    have p17 : Hp nz wz S17 w17 ((G8, .row 5 cs10 (c9 * (kInt .u8).size) cs10.length) :: Lr) := (p17.front 0 _ rfl).drop
    have p17 : Hp nz wz S17 w17 (Lr) := (p17.front 0 _ rfl).drop
    obtain rfl := Option.some.inj h
    exact Goes.ret (fn := Try.f4) (by kernel_rfl) (v := .bool false) (by kernel_rfl) ⟨S17, rfl, (((((((((((((((((Ext.refl S0 w0).trans z2).trans z3).trans z4).trans z5).trans z6).trans z7).trans z8).trans z9).trans z10).trans z11).trans z12).trans z13).trans z14).trans z15).trans z16).trans z17), p17⟩

/-! tidepole/tidepolebase.Among -/
def Post.tidepolebase_Among (nz : Nat) (wz : World) (S0 : Fz) (w0 : World) (Lr : List Ent) (r : Int) (v : Value) (w' : World) : Prop :=
  ∃ (S' : Fz) , v = .int .i64 r ∧ Ext S0 w0 S' w' ∧ Hp nz wz S' w' (Lr)

theorem W.tidepolebase_Among (x0 : Int) (x1 : Int) (r : Int) (h : M.tidepolebase_Among x0 x1 = some r) (nz : Nat) (wz : World) (S0 : Fz) (w0 : World) (Lr : List Ent) (p0 : Hp nz wz S0 w0 (Lr)) :
    Calls Try.prog 27 #[.int .i64 x0, .int .i64 x1] w0 (Rets (Post.tidepolebase_Among nz wz S0 w0 Lr r)) := by
  refine calls_of_goes (fn := Try.f27) (c := B27) (by kernel_rfl) (by kernel_rfl) 11 (by kernel_rfl) ?_
  refine Goes.jump 13 [(0, .int .i64 x0), (1, .int .i64 x1)] (by kernel_rfl) (fun junk => ?_)
  rw [M.tidepolebase_Among] at h
  try dsimp only at h
  refine Goes.runs 10 [(4, .int .i64 0), (5, .int .i64 x1), (6, .bool (decide (x1 < 1)))] [.code (sub [1, 0, 1] B27), .code (sub [1, 1] B27)] (by kernel_rfl) ?_
  by_cases h1 : x1 < 1
  · rw [if_pos h1] at h
    rw [decide_eq_true h1]
    refine Goes.runs 5 [(4, .int .i64 0)] [.code (sub [1, 0, 1, 0, 1] B27), .code (sub [1, 1] B27)] (by kernel_rfl) ?_
    obtain rfl := Option.some.inj h
    exact Goes.ret (fn := Try.f27) (by kernel_rfl) (v := .int .i64 0) (by kernel_rfl) ⟨S0, rfl, (Ext.refl S0 w0), p0⟩
  · rw [if_neg h1] at h
    rw [decide_eq_false h1]
    refine Goes.runs 8 [(7, .int .i64 x0), (8, .int .u64 (wr .u64 x0)), (9, .int .i64 x1), (10, .int .u64 (wr .u64 x1))] [.inRegion (opsOf (sub [1, 1, 0] B27)) [4, 5, 6], .code (sub [1, 1, 1] B27)] (by kernel_rfl) ?_
    obtain ⟨g2, h⟩ := guard_some h
    refine Op_.binrem 61 (.tmp 8) (.tmp 10) 61 11 61 .u64 (wr .u64 x0) (wr .u64 x1) (Goes.vs (by kernel_rfl)) (by kernel_rfl) (by kernel_rfl) g2 ?_
    refine Goes.runs 3 [(12, .int .i64 (wr .i64 (irem .u64 (wr .u64 x0) (wr .u64 x1)))), (4, .int .i64 (wr .i64 (irem .u64 (wr .u64 x0) (wr .u64 x1))))] [.code (sub [1, 1, 1] B27)] (by kernel_rfl) ?_
    obtain rfl := Option.some.inj h
    exact Goes.ret (fn := Try.f27) (by kernel_rfl) (v := .int .i64 (wr .i64 (irem .u64 (wr .u64 x0) (wr .u64 x1)))) (by kernel_rfl) ⟨S0, rfl, (Ext.refl S0 w0), p0⟩

/-! tidepole/tidepolelaw02.CrcFinds -/
def Post.tidepolelaw02_CrcFinds (nz : Nat) (wz : World) (S0 : Fz) (w0 : World) (Lr : List Ent) (r : Bool) (v : Value) (w' : World) : Prop :=
  ∃ (S' : Fz) , v = .bool r ∧ Ext S0 w0 S' w' ∧ Hp nz wz S' w' (Lr)

def L.tidepolelaw02_CrcFinds_l1 (nz : Nat) (wz : World) (S0 : Fz) (w0 : World) (Lr : List Ent) : List Int × Int × Int × List Int × Int → Bool → Prop := fun ⟨x0, x1, x2, x7, x8⟩ r => ∀ S1 w1, Ext S0 w0 S1 w1 → ∀ (Ax0 : Option Addr) (cx0 : Nat) (Gx7 : Option Nat) (cx7 : Nat) (csx7 : List Value) (_ : Hp nz wz S1 w1 ((Gx7, .row 5 csx7 (cx7 * (kInt .u8).size) 0) :: Lr)) (_ : Rd (kInt .u8) S1 w1 Ax0 cx0 x0) (_ : Els (kInt .u8) S1 w1 csx7 x7) (junk : Nat → Value),
  Goes Try.prog (base 5) [.code (sub [1, 1, 1, 1, 1, 1, 0, 1, 0, 0] B5), .inLoop (sub [1, 1, 1, 1, 1, 1, 0, 1, 0, 0] B5), .inBlock 0, .code (sub [1, 1, 1, 1, 1, 1, 1] B5)] ⟨lfr 62 [(0, .slice Ax0 x0.length cx0), (1, .int .i64 x1), (2, .int .u32 x2), (7, .slice (Gp Gx7) x7.length cx7), (8, .int .i64 x8)] junk, []⟩ w1 (Done Try.prog 5 (Rets (Post.tidepolelaw02_CrcFinds nz wz S0 w0 Lr r)))

def L.tidepolelaw02_CrcFinds_l2 (nz : Nat) (wz : World) (S0 : Fz) (w0 : World) (Lr : List Ent) : List Int × Int × Int × List Int × Int → Bool → Prop := fun ⟨x0, x1, x2, x7, x8⟩ r => ∀ S1 w1, Ext S0 w0 S1 w1 → ∀ (Ax0 : Option Addr) (cx0 : Nat) (Gx7 : Option Nat) (cx7 : Nat) (csx7 : List Value) (_ : Hp nz wz S1 w1 ((Gx7, .row 5 csx7 (cx7 * (kInt .u8).size) 0) :: Lr)) (_ : Rd (kInt .u8) S1 w1 Ax0 cx0 x0) (_ : Els (kInt .u8) S1 w1 csx7 x7) (junk : Nat → Value),
  Goes Try.prog (base 5) [.code (sub [1, 1, 1, 1, 1, 1, 0, 1, 0, 0, 1, 0, 0, 1] B5), .inBlock 1, .code (sub [1, 1, 1, 1, 1, 1, 0, 1, 0, 0, 1, 1] B5), .inLoop (sub [1, 1, 1, 1, 1, 1, 0, 1, 0, 0] B5), .inBlock 0, .code (sub [1, 1, 1, 1, 1, 1, 1] B5)] ⟨lfr 62 [(0, .slice Ax0 x0.length cx0), (1, .int .i64 x1), (2, .int .u32 x2), (7, .slice (Gp Gx7) x7.length cx7), (8, .int .i64 x8)] junk, []⟩ w1 (Done Try.prog 5 (Rets (Post.tidepolelaw02_CrcFinds nz wz S0 w0 Lr r)))

theorem W.tidepolelaw02_CrcFinds_l1_all (nz : Nat) (wz : World) (S0 : Fz) (w0 : World) (Lr : List Ent) : (∀ a r, M.tidepolelaw02_CrcFinds_l1 a = some r → L.tidepolelaw02_CrcFinds_l1 nz wz S0 w0 Lr a r) ∧ (∀ a r, M.tidepolelaw02_CrcFinds_l2 a = some r → L.tidepolelaw02_CrcFinds_l2 nz wz S0 w0 Lr a r) := by
  refine M.tidepolelaw02_CrcFinds_l1.mutual_partial_correctness (L.tidepolelaw02_CrcFinds_l1 nz wz S0 w0 Lr) (L.tidepolelaw02_CrcFinds_l2 nz wz S0 w0 Lr) ?_ ?_
  · intro rec_tidepolelaw02_CrcFinds_l2 ih_tidepolelaw02_CrcFinds_l2 ⟨x0, x1, x2, x7, x8⟩ r h S1 w1 hx Ax0 cx0 Gx7 cx7 csx7 p1 fx0 fx7 junk
    dsimp only at h
    refine Goes.runs 6 [(28, .int .i64 x8), (29, .bool (decide (x8 < 32)))] [.code (sub [1, 1, 1, 1, 1, 1, 0, 1, 0, 0, 0, 1] B5), .code (sub [1, 1, 1, 1, 1, 1, 0, 1, 0, 0, 1] B5), .inLoop (sub [1, 1, 1, 1, 1, 1, 0, 1, 0, 0] B5), .inBlock 0, .code (sub [1, 1, 1, 1, 1, 1, 1] B5)] (by kernel_rfl) ?_
    by_cases h21 : x8 < 32
    · rw [if_pos h21] at h
      rw [decide_eq_true h21]
      refine Goes.runs 11 [(32, .int .u32 x2), (33, .int .u32 (irem .u32 x2 2)), (34, .bool (decide (irem .u32 x2 2 = 1)))] [.code (sub [1, 1, 1, 1, 1, 1, 0, 1, 0, 0, 1, 0, 0, 0, 1] B5), .code (sub [1, 1, 1, 1, 1, 1, 0, 1, 0, 0, 1, 0, 0, 1] B5), .inBlock 1, .code (sub [1, 1, 1, 1, 1, 1, 0, 1, 0, 0, 1, 1] B5), .inLoop (sub [1, 1, 1, 1, 1, 1, 0, 1, 0, 0] B5), .inBlock 0, .code (sub [1, 1, 1, 1, 1, 1, 1] B5)] (by kernel_rfl) ?_
      by_cases h22 : irem .u32 x2 2 = 1
      · rw [if_pos h22] at h
        rw [decide_eq_true h22]
        refine Goes.runs 12 [(35, .slice (Gp Gx7) x7.length cx7), (36, .int .i64 x1), (37, .int .i64 x8), (38, .int .i64 (wr .i64 (x1 + x8))), (39, .int .i64 (iquo .i64 (wr .i64 (x1 + x8)) 8)), (40, .slice (Gp Gx7) x7.length cx7), (41, .int .i64 x1), (42, .int .i64 x8), (43, .int .i64 (wr .i64 (x1 + x8))), (44, .int .i64 (iquo .i64 (wr .i64 (x1 + x8)) 8))] [.inRegion (opsOf (sub [1, 1, 1, 1, 1, 1, 0, 1, 0, 0, 1, 0, 0, 0, 1, 0] B5)) [10, 11, 12, 13, 14, 15, 16, 17, 18, 19, 20], .code (sub [1, 1, 1, 1, 1, 1, 0, 1, 0, 0, 1, 0, 0, 1] B5), .inBlock 1, .code (sub [1, 1, 1, 1, 1, 1, 0, 1, 0, 0, 1, 1] B5), .inLoop (sub [1, 1, 1, 1, 1, 1, 0, 1, 0, 0] B5), .inBlock 0, .code (sub [1, 1, 1, 1, 1, 1, 1] B5)] (by kernel_rfl) ?_
        obtain ⟨g23, h⟩ := guard_some h
        obtain ⟨g24, h⟩ := guard_some h
        refine Op_.ixO 23 (.tmp 40) (.tmp 44) 45 0 5 .i64 (iquo .i64 (wr .i64 (x1 + x8)) 8) 0 cx7 p1 rfl fx7 (Goes.vs (by kernel_rfl)) (by kernel_rfl) (by kernel_rfl) (by kernel_rfl) (by kernel_rfl) (by decide) g23 g24 ?_
        rintro b25 _ rfl rfl f26
        refine Op_.ld1 5 (.tmp 45) 46 5 ⟨b25, (iquo .i64 (wr .i64 (x1 + x8)) 8).toNat * (kInt .u8).size, none⟩ (.int .u8 (gi x7 (iquo .i64 (wr .i64 (x1 + x8)) 8))) (Goes.vs (by kernel_rfl)) (by kernel_rfl) (by kernel_rfl) (f26 0 _ rfl) ?_
        refine Goes.runs 5 [(47, .int .i64 x1), (48, .int .i64 x8), (49, .int .i64 (wr .i64 (x1 + x8))), (50, .int .i64 (irem .i64 (wr .i64 (x1 + x8)) 8)), (51, .int .u64 (wr .u64 (irem .i64 (wr .i64 (x1 + x8)) 8)))] [.inRegion (opsOf (sub [1, 1, 1, 1, 1, 1, 0, 1, 0, 0, 1, 0, 0, 0, 1, 0] B5)) [17, 18, 19, 20], .code (sub [1, 1, 1, 1, 1, 1, 0, 1, 0, 0, 1, 0, 0, 1] B5), .inBlock 1, .code (sub [1, 1, 1, 1, 1, 1, 0, 1, 0, 0, 1, 1] B5), .inLoop (sub [1, 1, 1, 1, 1, 1, 0, 1, 0, 0] B5), .inBlock 0, .code (sub [1, 1, 1, 1, 1, 1, 1] B5)] (by kernel_rfl) ?_
        obtain ⟨g28, h⟩ := guard_some h
        refine Op_.binshl 5 (.const (.int .u8 1)) (.tmp 51) 38 52 5 .u8 .u64 1 (wr .u64 (irem .i64 (wr .i64 (x1 + x8)) 8)) (Goes.vs (by kernel_rfl)) (by kernel_rfl) (by kernel_rfl) g28 ?_
        refine Goes.runs 1 [(53, .int .u8 (ixor .u8 (gi x7 (iquo .i64 (wr .i64 (x1 + x8)) 8)) (ishl .u8 1 (wr .u64 (irem .i64 (wr .i64 (x1 + x8)) 8)))))] [.inRegion (opsOf (sub [1, 1, 1, 1, 1, 1, 0, 1, 0, 0, 1, 0, 0, 0, 1, 0] B5)) [19, 20], .code (sub [1, 1, 1, 1, 1, 1, 0, 1, 0, 0, 1, 0, 0, 1] B5), .inBlock 1, .code (sub [1, 1, 1, 1, 1, 1, 0, 1, 0, 0, 1, 1] B5), .inLoop (sub [1, 1, 1, 1, 1, 1, 0, 1, 0, 0] B5), .inBlock 0, .code (sub [1, 1, 1, 1, 1, 1, 1] B5)] (by kernel_rfl) ?_
        refine Op_.ixO 23 (.tmp 35) (.tmp 39) 54 0 5 .i64 (iquo .i64 (wr .i64 (x1 + x8)) 8) 0 cx7 p1 rfl fx7 (Goes.vs (by kernel_rfl)) (by kernel_rfl) (by kernel_rfl) (by kernel_rfl) (by kernel_rfl) (by decide) g23 g24 ?_
        rintro b29 _ e31 rfl f30
        injection e31 with e31'; subst e31'
        refine Op_.stE (K := (kInt .u8)) 5 (.tmp 54) (.tmp 53) 0 0 (iquo .i64 (wr .i64 (x1 + x8)) 8) (.int .u8 (ixor .u8 (gi x7 (iquo .i64 (wr .i64 (x1 + x8)) 8)) (ishl .u8 1 (wr .u64 (irem .i64 (wr .i64 (x1 + x8)) 8))))) [.int .u8 (ixor .u8 (gi x7 (iquo .i64 (wr .i64 (x1 + x8)) 8)) (ishl .u8 1 (wr .u64 (irem .i64 (wr .i64 (x1 + x8)) 8))))] (ixor .u8 (gi x7 (iquo .i64 (wr .i64 (x1 + x8)) 8)) (ishl .u8 1 (wr .u64 (irem .i64 (wr .i64 (x1 + x8)) 8)))) p1 rfl fx7 (Goes.ss (by kernel_rfl)) (by kernel_rfl) (by kernel_rfl) (by kernel_rfl) rfl (by kernel_rfl) (by have := g23; have := g24; omega) (Nat.zero_le _) ?_
        intro w6 cs32 z6 p6 f33
        have p6 : Hp nz wz S1 w6 (((some b25), .row 5 cs32 (cx7 * (kInt .u8).size) 0) :: Lr) := p6
        refine Goes.jumpW 62 [(0, .slice Ax0 x0.length cx0), (1, .int .i64 x1), (2, .int .u32 x2), (7, .slice (Gp (some b25)) x7.length cx7), (8, .int .i64 x8)] [(0, .slice Ax0 x0.length cx0), (1, .int .i64 x1), (2, .int .u32 x2), (7, .slice (Gp (some b25)) (si x7 (iquo .i64 (wr .i64 (x1 + x8)) 8) (ixor .u8 (gi x7 (iquo .i64 (wr .i64 (x1 + x8)) 8)) (ishl .u8 1 (wr .u64 (irem .i64 (wr .i64 (x1 + x8)) 8))))).length cx7), (8, .int .i64 x8)] (by kernel_rfl) (by simp only [si_length]) (fun junk34 => ?_)
        refine Goes.runs 1 [] [.code (sub [1, 1, 1, 1, 1, 1, 0, 1, 0, 0, 1, 0, 0, 1] B5), .inBlock 1, .code (sub [1, 1, 1, 1, 1, 1, 0, 1, 0, 0, 1, 1] B5), .inLoop (sub [1, 1, 1, 1, 1, 1, 0, 1, 0, 0] B5), .inBlock 0, .code (sub [1, 1, 1, 1, 1, 1, 1] B5)] (by kernel_rfl) ?_
        exact Goes.jump 62 [(0, .slice Ax0 x0.length cx0), (1, .int .i64 x1), (2, .int .u32 x2), (7, .slice (Gp (some b25)) (si x7 (iquo .i64 (wr .i64 (x1 + x8)) 8) (ixor .u8 (gi x7 (iquo .i64 (wr .i64 (x1 + x8)) 8)) (ishl .u8 1 (wr .u64 (irem .i64 (wr .i64 (x1 + x8)) 8))))).length cx7), (8, .int .i64 x8)] (by kernel_rfl) (ih_tidepolelaw02_CrcFinds_l2 _ _ h _ _ (hx.trans z6) Ax0 cx0 (some b25) cx7 cs32 p6 (fx0.ext z6) f33)
      · rw [if_neg h22] at h
        rw [decide_eq_false h22]
        refine Goes.runs 2 [] [.code (sub [1, 1, 1, 1, 1, 1, 0, 1, 0, 0, 1, 0, 0, 1] B5), .inBlock 1, .code (sub [1, 1, 1, 1, 1, 1, 0, 1, 0, 0, 1, 1] B5), .inLoop (sub [1, 1, 1, 1, 1, 1, 0, 1, 0, 0] B5), .inBlock 0, .code (sub [1, 1, 1, 1, 1, 1, 1] B5)] (by kernel_rfl) ?_
        exact Goes.jump 62 [(0, .slice Ax0 x0.length cx0), (1, .int .i64 x1), (2, .int .u32 x2), (7, .slice (Gp Gx7) x7.length cx7), (8, .int .i64 x8)] (by kernel_rfl) (ih_tidepolelaw02_CrcFinds_l2 _ _ h _ _ hx Ax0 cx0 Gx7 cx7 csx7 p1 fx0 fx7)
    · rw [if_neg h21] at h
      rw [decide_eq_false h21]
      refine Goes.runs 5 [(57, .slice (Gp Gx7) x7.length cx7)] [.inRegion (opsOf (sub [1, 1, 1, 1, 1, 1, 1, 0] B5)) [1, 2, 3, 4, 5], .code (sub [1, 1, 1, 1, 1, 1, 1, 1] B5)] (by kernel_rfl) ?_
      obtain ⟨S7, z7, p7, f35⟩ := p1.freezeRd 0 rfl fx7 (by decide)
      have p7 : Hp nz wz S7 w1 ((Gx7, .row 5 csx7 (cx7 * (kInt .u8).size) csx7.length) :: Lr) := p7
      obtain ⟨y36, e37, h⟩ := bind_some h
      try dsimp only at h
      refine Op_.call (.call { callee := .value (.func 13), args := #[(.tmp 57)], argTypes := #[23] }) 58 22 13 #[.slice (Gp Gx7) x7.length cx7] (Goes.cs (by kernel_rfl)) (by kernel_rfl) (W.crc_Sum x7 y36 e37 nz wz S7 w1 ((Gx7, .row 5 csx7 (cx7 * (kInt .u8).size) csx7.length) :: Lr) (Gp Gx7) cx7 p7 f35) ?_
      rintro _ w8 ⟨S8, rfl, z8, p8⟩
      have p8 : Hp nz wz S8 w8 ((Gx7, .row 5 csx7 (cx7 * (kInt .u8).size) csx7.length) :: Lr) := p8
      refine Goes.runs 1 [(59, .slice Ax0 x0.length cx0)] [.inRegion (opsOf (sub [1, 1, 1, 1, 1, 1, 1, 0] B5)) [3, 4, 5], .code (sub [1, 1, 1, 1, 1, 1, 1, 1] B5)] (by kernel_rfl) ?_
      obtain ⟨y38, e39, h⟩ := bind_some h
      try dsimp only at h
      refine Op_.call (.call { callee := .value (.func 13), args := #[(.tmp 59)], argTypes := #[23] }) 60 22 13 #[.slice Ax0 x0.length cx0] (Goes.cs (by kernel_rfl)) (by kernel_rfl) (W.crc_Sum x0 y38 e39 nz wz S8 w8 ((Gx7, .row 5 csx7 (cx7 * (kInt .u8).size) csx7.length) :: Lr) Ax0 cx0 p8 ((fx0.ext z7).ext z8)) ?_
      rintro _ w9 ⟨S9, rfl, z9, p9⟩
      have p9 : Hp nz wz S9 w9 ((Gx7, .row 5 csx7 (cx7 * (kInt .u8).size) csx7.length) :: Lr) := p9
      refine Goes.runs 3 [(61, .bool (!(decide (y36 = y38)))), (6, .bool (!(decide (y36 = y38))))] [.code (sub [1, 1, 1, 1, 1, 1, 1, 1] B5)] (by kernel_rfl) ?_
      have p9 : Hp nz wz S9 w9 (Lr) := (p9.front 0 _ rfl).drop
      obtain rfl := Option.some.inj h
      exact Goes.ret (fn := Try.f5) (by kernel_rfl) (v := .bool (!(decide (y36 = y38)))) (by kernel_rfl) ⟨S9, rfl, (((hx.trans z7).trans z8).trans z9), p9⟩
  · intro rec_tidepolelaw02_CrcFinds_l1 ih_tidepolelaw02_CrcFinds_l1 ⟨x0, x1, x2, x7, x8⟩ r h S1 w1 hx Ax0 cx0 Gx7 cx7 csx7 p1 fx0 fx7 junk
    dsimp only at h
    refine Goes.runs 12 [(55, .int .u32 x2), (56, .int .u32 (iquo .u32 x2 2)), (2, .int .u32 (iquo .u32 x2 2)), (30, .int .i64 x8), (31, .int .i64 (wr .i64 (x8 + 1))), (8, .int .i64 (wr .i64 (x8 + 1)))] [.code (sub [1, 1, 1, 1, 1, 1, 0, 1, 0, 0] B5), .inLoop (sub [1, 1, 1, 1, 1, 1, 0, 1, 0, 0] B5), .inBlock 0, .code (sub [1, 1, 1, 1, 1, 1, 1] B5)] (by kernel_rfl) ?_
    exact Goes.jump 62 [(0, .slice Ax0 x0.length cx0), (1, .int .i64 x1), (2, .int .u32 (iquo .u32 x2 2)), (7, .slice (Gp Gx7) x7.length cx7), (8, .int .i64 (wr .i64 (x8 + 1)))] (by kernel_rfl) (ih_tidepolelaw02_CrcFinds_l1 _ _ h _ _ hx Ax0 cx0 Gx7 cx7 csx7 p1 fx0 fx7)

theorem W.tidepolelaw02_CrcFinds_l1 (nz : Nat) (wz : World) (S0 : Fz) (w0 : World) (Lr : List Ent) : ∀ a r, M.tidepolelaw02_CrcFinds_l1 a = some r → L.tidepolelaw02_CrcFinds_l1 nz wz S0 w0 Lr a r := (W.tidepolelaw02_CrcFinds_l1_all nz wz S0 w0 Lr).1

theorem W.tidepolelaw02_CrcFinds_l2 (nz : Nat) (wz : World) (S0 : Fz) (w0 : World) (Lr : List Ent) : ∀ a r, M.tidepolelaw02_CrcFinds_l2 a = some r → L.tidepolelaw02_CrcFinds_l2 nz wz S0 w0 Lr a r := (W.tidepolelaw02_CrcFinds_l1_all nz wz S0 w0 Lr).2

def L.tidepolelaw02_CrcFinds_l0 (nz : Nat) (wz : World) (S0 : Fz) (w0 : World) (Lr : List Ent) : List Int × Int × Int × Bool → Bool → Prop := fun ⟨x0, x1, x2, x19⟩ r => ∀ S1 w1, Ext S0 w0 S1 w1 → ∀ (Ax0 : Option Addr) (cx0 : Nat) (_ : Hp nz wz S1 w1 (Lr)) (_ : Rd (kInt .u8) S1 w1 Ax0 cx0 x0) (junk : Nat → Value),
  Goes Try.prog (base 5) [.code (sub [1, 1, 1, 0, 1] B5), .code (sub [1, 1, 1, 1] B5)] ⟨lfr 62 [(0, .slice Ax0 x0.length cx0), (1, .int .i64 x1), (2, .int .u32 x2), (19, .bool x19)] junk, []⟩ w1 (Done Try.prog 5 (Rets (Post.tidepolelaw02_CrcFinds nz wz S0 w0 Lr r)))

theorem W.tidepolelaw02_CrcFinds_l0 (nz : Nat) (wz : World) (S0 : Fz) (w0 : World) (Lr : List Ent) : ∀ a r, M.tidepolelaw02_CrcFinds_l0 a = some r → L.tidepolelaw02_CrcFinds_l0 nz wz S0 w0 Lr a r := by
  intro ⟨x0, x1, x2, x19⟩ r h S1 w1 hx Ax0 cx0 p1 fx0 junk
  rw [M.tidepolelaw02_CrcFinds_l0] at h
  try dsimp only at h
  by_cases h10 : x19 = true
  · rw [if_pos h10] at h
    rw [h10]
    refine Goes.runs 5 [(6, .bool true)] [.code (sub [1, 1, 1, 0, 1, 0, 1] B5), .code (sub [1, 1, 1, 1] B5)] (by kernel_rfl) ?_
    obtain rfl := Option.some.inj h
    exact Goes.ret (fn := Try.f5) (by kernel_rfl) (v := .bool true) (by kernel_rfl) ⟨S1, rfl, hx, p1⟩
  · rw [if_neg h10] at h
    have h10' : x19 = false := by simpa using h10
    rw [h10']
    refine Goes.runs 5 [(20, .slice Ax0 x0.length cx0)] [.inRegion (opsOf (sub [1, 1, 1, 1, 0] B5)) [1, 2], .code (sub [1, 1, 1, 1, 1] B5)] (by kernel_rfl) ?_
    obtain ⟨y11, e12, h⟩ := bind_some h
    try dsimp only at h
    refine Op_.call (.call { callee := .value (.func 12), args := #[(.tmp 20)], argTypes := #[23] }) 21 23 12 #[.slice Ax0 x0.length cx0] (Goes.cs (by kernel_rfl)) (by kernel_rfl) (W.tidepolebase_Bytes x0 y11 e12 nz wz S1 w1 (Lr) Ax0 cx0 p1 fx0) ?_
    rintro _ w4 ⟨S4, G13, c14, cs15, rfl, z4, p4, f17⟩
    have p4 : Hp nz wz S4 w4 ((G13, .row 5 cs15 (c14 * (kInt .u8).size) 0) :: Lr) := p4
    refine Goes.runs 9 [(7, .slice (Gp G13) y11.length c14), (22, .int .i64 x1), (23, .slice Ax0 x0.length cx0), (24, .int .i64 (x0.length : Int)), (25, .int .i64 (wr .i64 ((x0.length : Int) - 4))), (26, .int .i64 (wr .i64 (8 * (wr .i64 ((x0.length : Int) - 4)))))] [.inRegion (opsOf (sub [1, 1, 1, 1, 1, 0] B5)) [5, 6], .code (sub [1, 1, 1, 1, 1, 1] B5)] (by kernel_rfl) ?_
    obtain ⟨y19, e20, h⟩ := bind_some h
    try dsimp only at h
    refine Op_.call (.call { callee := .value (.func 27), args := #[(.tmp 22), (.tmp 26)], argTypes := #[3, 3] }) 27 3 27 #[.int .i64 x1, .int .i64 (wr .i64 (8 * (wr .i64 ((x0.length : Int) - 4))))] (Goes.cs (by kernel_rfl)) (by kernel_rfl) (W.tidepolebase_Among x1 (wr .i64 (8 * (wr .i64 ((x0.length : Int) - 4)))) y19 e20 nz wz S4 w4 ((G13, .row 5 cs15 (c14 * (kInt .u8).size) 0) :: Lr)  p4 ) ?_
    rintro _ w5 ⟨S5, rfl, z5, p5⟩
    have p5 : Hp nz wz S5 w5 ((G13, .row 5 cs15 (c14 * (kInt .u8).size) 0) :: Lr) := p5
    refine Goes.runs 9 [(1, .int .i64 y19), (8, .int .i64 0)] [.code (sub [1, 1, 1, 1, 1, 1, 0, 1, 0, 0] B5), .inLoop (sub [1, 1, 1, 1, 1, 1, 0, 1, 0, 0] B5), .inBlock 0, .code (sub [1, 1, 1, 1, 1, 1, 1] B5)] (by kernel_rfl) ?_
    exact Goes.jump 62 [(0, .slice Ax0 x0.length cx0), (1, .int .i64 y19), (2, .int .u32 x2), (7, .slice (Gp G13) y11.length c14), (8, .int .i64 0)] (by kernel_rfl) (W.tidepolelaw02_CrcFinds_l1 nz wz S0 w0 Lr _ _ h _ _ ((hx.trans z4).trans z5) Ax0 cx0 G13 c14 cs15 p5 ((fx0.ext z4).ext z5) (f17.ext z5))

theorem W.tidepolelaw02_CrcFinds (x0 : List Int) (x1 : Int) (x2 : Int) (r : Bool) (h : M.tidepolelaw02_CrcFinds x0 x1 x2 = some r) (nz : Nat) (wz : World) (S0 : Fz) (w0 : World) (Lr : List Ent) (Ax0 : Option Addr) (cx0 : Nat) (p0 : Hp nz wz S0 w0 (Lr)) (fx0 : Rd (kInt .u8) S0 w0 Ax0 cx0 x0) :
    Calls Try.prog 5 #[.slice Ax0 x0.length cx0, .int .i64 x1, .int .u32 x2] w0 (Rets (Post.tidepolelaw02_CrcFinds nz wz S0 w0 Lr r)) := by
  refine calls_of_goes (fn := Try.f5) (c := B5) (by kernel_rfl) (by kernel_rfl) 59 (by kernel_rfl) ?_
  refine Goes.jump 62 [(0, .slice Ax0 x0.length cx0), (1, .int .i64 x1), (2, .int .u32 x2)] (by kernel_rfl) (fun junk => ?_)
  rw [M.tidepolelaw02_CrcFinds] at h
  try dsimp only at h
  refine Goes.runs 7 [(6, .bool false)] [.inRegion (opsOf (sub [1, 0, 0] B5)) [0, 1], .code (sub [1, 0, 1] B5), .code (sub [1, 1] B5)] (by kernel_rfl) ?_
  obtain ⟨y1, e2, h⟩ := bind_some h
  try dsimp only at h
  refine Op_.call (.call { callee := .value (.func 18), args := #[], argTypes := #[] }) 9 4 18 #[] (Goes.cs (by kernel_rfl)) (by kernel_rfl) (W.tidepolelaw02_works  y1 e2 nz wz S0 w0 (Lr)  p0 ) ?_
  rintro _ w2 ⟨S2, rfl, z2, p2⟩
  have p2 : Hp nz wz S2 w2 (Lr) := p2
  refine Goes.runs 2 [(10, .bool (!y1))] [.code (sub [1, 0, 1] B5), .code (sub [1, 1] B5)] (by kernel_rfl) ?_
  by_cases h3 : y1 = true
  · rw [if_pos h3] at h
    rw [h3]
    refine Goes.runs 5 [(11, .slice Ax0 x0.length cx0)] [.inRegion (opsOf (sub [1, 1, 0] B5)) [1, 2], .code (sub [1, 1, 1] B5)] (by kernel_rfl) ?_
    obtain ⟨y4, e5, h⟩ := bind_some h
    try dsimp only at h
    refine Op_.call (.call { callee := .value (.func 11), args := #[(.tmp 11)], argTypes := #[23] }) 12 23 11 #[.slice Ax0 x0.length cx0] (Goes.cs (by kernel_rfl)) (by kernel_rfl) (W.tidepolelaw02_short x0 y4 e5 nz wz S2 w2 (Lr) Ax0 cx0 p2 (fx0.ext z2)) ?_
    rintro _ w3 ⟨S3, A6, c7, rfl, z3, p3, f8⟩
    have p3 : Hp nz wz S3 w3 (Lr) := p3
    refine Goes.runs 9 [(0, .slice A6 y4.length c7), (13, .slice A6 y4.length c7), (14, .int .i64 (y4.length : Int)), (15, .bool (decide ((y4.length : Int) < 5))), (16, .bool (decide ((y4.length : Int) < 5)))] [.inRegion (opsOf (sub [1, 1, 1, 0, 0] B5)) [4, 5, 6], .code (sub [1, 1, 1, 0, 1] B5), .code (sub [1, 1, 1, 1] B5)] (by kernel_rfl) ?_
    by_cases h9 : (y4.length : Int) < 5
    · rw [if_pos h9] at h
      rw [decide_eq_true h9]
      refine Goes.runs 4 [(17, undef), (18, undef), (19, .bool true)] [.code (sub [1, 1, 1, 0, 1] B5), .code (sub [1, 1, 1, 1] B5)] (by kernel_rfl) ?_
      exact Goes.jump 62 [(0, .slice A6 y4.length c7), (1, .int .i64 x1), (2, .int .u32 x2), (19, .bool true)] (by kernel_rfl) (W.tidepolelaw02_CrcFinds_l0 nz wz S0 w0 Lr _ _ h _ _ (((Ext.refl S0 w0).trans z2).trans z3) A6 c7 p3 f8)
    · rw [if_neg h9] at h
      rw [decide_eq_false h9]
      refine Goes.runs 4 [(17, .int .u32 x2), (18, .bool (decide (x2 = 0))), (19, .bool (decide (x2 = 0)))] [.code (sub [1, 1, 1, 0, 1] B5), .code (sub [1, 1, 1, 1] B5)] (by kernel_rfl) ?_
      exact Goes.jump 62 [(0, .slice A6 y4.length c7), (1, .int .i64 x1), (2, .int .u32 x2), (19, .bool (decide (x2 = 0)))] (by kernel_rfl) (W.tidepolelaw02_CrcFinds_l0 nz wz S0 w0 Lr _ _ h _ _ (((Ext.refl S0 w0).trans z2).trans z3) A6 c7 p3 f8)
  · rw [if_neg h3] at h
    have h3' : y1 = false := by simpa using h3
    rw [h3']
    refine Goes.runs 5 [(6, .bool false)] [.code (sub [1, 0, 1, 0, 1] B5), .code (sub [1, 1] B5)] (by kernel_rfl) ?_
    obtain rfl := Option.some.inj h
    exact Goes.ret (fn := Try.f5) (by kernel_rfl) (v := .bool false) (by kernel_rfl) ⟨S2, rfl, ((Ext.refl S0 w0).trans z2), p2⟩

/-! tidepole/tidepolelaw02.CrcOpens -/
def Post.tidepolelaw02_CrcOpens (nz : Nat) (wz : World) (S0 : Fz) (w0 : World) (Lr : List Ent) (r : Bool) (v : Value) (w' : World) : Prop :=
  ∃ (S' : Fz) , v = .bool r ∧ Ext S0 w0 S' w' ∧ Hp nz wz S' w' (Lr)

theorem W.tidepolelaw02_CrcOpens (x0 : List Int) (r : Bool) (h : M.tidepolelaw02_CrcOpens x0 = some r) (nz : Nat) (wz : World) (S0 : Fz) (w0 : World) (Lr : List Ent) (Ax0 : Option Addr) (cx0 : Nat) (p0 : Hp nz wz S0 w0 (Lr)) (fx0 : Rd (kInt .u8) S0 w0 Ax0 cx0 x0) :
    Calls Try.prog 6 #[.slice Ax0 x0.length cx0] w0 (Rets (Post.tidepolelaw02_CrcOpens nz wz S0 w0 Lr r)) := by
  refine calls_of_goes (fn := Try.f6) (c := B6) (by kernel_rfl) (by kernel_rfl) 37 (by kernel_rfl) ?_
  refine Goes.jump 38 [(0, .slice Ax0 x0.length cx0)] (by kernel_rfl) (fun junk => ?_)
  rw [M.tidepolelaw02_CrcOpens] at h
  try dsimp only at h
  refine Goes.runs 7 [(2, .bool false)] [.inRegion (opsOf (sub [1, 0, 0] B6)) [0, 1], .code (sub [1, 0, 1] B6), .code (sub [1, 1] B6)] (by kernel_rfl) ?_
  obtain ⟨y1, e2, h⟩ := bind_some h
  try dsimp only at h
  refine Op_.call (.call { callee := .value (.func 18), args := #[], argTypes := #[] }) 7 4 18 #[] (Goes.cs (by kernel_rfl)) (by kernel_rfl) (W.tidepolelaw02_works  y1 e2 nz wz S0 w0 (Lr)  p0 ) ?_
  rintro _ w2 ⟨S2, rfl, z2, p2⟩
  have p2 : Hp nz wz S2 w2 (Lr) := p2
  refine Goes.runs 2 [(8, .bool (!y1))] [.code (sub [1, 0, 1] B6), .code (sub [1, 1] B6)] (by kernel_rfl) ?_
  by_cases h3 : y1 = true
  · rw [if_pos h3] at h
    rw [h3]
    refine Goes.runs 5 [(9, .slice Ax0 x0.length cx0)] [.inRegion (opsOf (sub [1, 1, 0] B6)) [1, 2], .code (sub [1, 1, 1] B6)] (by kernel_rfl) ?_
    obtain ⟨y4, e5, h⟩ := bind_some h
    try dsimp only at h
    refine Op_.call (.call { callee := .value (.func 11), args := #[(.tmp 9)], argTypes := #[23] }) 10 23 11 #[.slice Ax0 x0.length cx0] (Goes.cs (by kernel_rfl)) (by kernel_rfl) (W.tidepolelaw02_short x0 y4 e5 nz wz S2 w2 (Lr) Ax0 cx0 p2 (fx0.ext z2)) ?_
    rintro _ w3 ⟨S3, A6, c7, rfl, z3, p3, f8⟩
    have p3 : Hp nz wz S3 w3 (Lr) := p3
    refine Goes.runs 5 [(0, .slice A6 y4.length c7), (12, .slice A6 y4.length c7)] [.inRegion (opsOf (sub [1, 1, 1, 0] B6)) [1, 2, 3, 4, 5, 6, 7], .code (sub [1, 1, 1, 1] B6)] (by kernel_rfl) ?_
    obtain ⟨y9, e10, h⟩ := bind_some h
    try dsimp only at h
    refine Op_.call (.call { callee := .value (.func 25), args := #[(.tmp 12)], argTypes := #[23] }) 13 23 25 #[.slice A6 y4.length c7] (Goes.cs (by kernel_rfl)) (by kernel_rfl) (W.crc_Sealed y4 y9 e10 nz wz S3 w3 (Lr) A6 c7 p3 f8) ?_
    rintro _ w4 ⟨S4, G11, c12, cs13, rfl, z4, p4, f15⟩
    have p4 : Hp nz wz S4 w4 ((G11, .row 5 cs13 (c12 * (kInt .u8).size) 0) :: Lr) := p4
    obtain ⟨S5, z5, p5, f17⟩ := p4.freezeRd 0 rfl f15 (by decide)
    have p5 : Hp nz wz S5 w4 ((G11, .row 5 cs13 (c12 * (kInt .u8).size) cs13.length) :: Lr) := p5
    obtain ⟨y18, e19, h⟩ := bind_some h
    try dsimp only at h
    refine Op_.call (.call { callee := .value (.func 21), args := #[(.tmp 13)], argTypes := #[23] }) 14 33 21 #[.slice (Gp G11) y9.length c12] (Goes.cs (by kernel_rfl)) (by kernel_rfl) (W.crc_Open y9 y18 e19 nz wz S5 w4 ((G11, .row 5 cs13 (c12 * (kInt .u8).size) cs13.length) :: Lr) (Gp G11) c12 p5 f17) ?_
    rintro _ w6 ⟨S6, G20, c21, cs22, rfl, z6, p6, f24⟩
    have p6 : Hp nz wz S6 w6 ((G20, .row 5 cs22 (c21 * (kInt .u8).size) 0) :: (G11, .row 5 cs13 (c12 * (kInt .u8).size) cs13.length) :: Lr) := p6
    refine Goes.runs 9 [(11, .tuple #[.slice (Gp G20) y18.1.length c21, .bool y18.2]), (15, .slice (Gp G20) y18.1.length c21), (16, .bool y18.2), (3, .slice (Gp G20) y18.1.length c21), (4, .bool y18.2), (18, .slice A6 y4.length c7)] [.inRegion (opsOf (sub [1, 1, 1, 1, 0] B6)) [1, 2, 3, 4, 5, 6], .code (sub [1, 1, 1, 1, 1] B6)] (by kernel_rfl) ?_
    obtain ⟨y26, e27, h⟩ := bind_some h
    try dsimp only at h
    refine Op_.call (.call { callee := .value (.func 21), args := #[(.tmp 18)], argTypes := #[23] }) 19 33 21 #[.slice A6 y4.length c7] (Goes.cs (by kernel_rfl)) (by kernel_rfl) (W.crc_Open y4 y26 e27 nz wz S6 w6 ((G20, .row 5 cs22 (c21 * (kInt .u8).size) 0) :: (G11, .row 5 cs13 (c12 * (kInt .u8).size) cs13.length) :: Lr) A6 c7 p6 (((f8.ext z4).ext z5).ext z6)) ?_
    rintro _ w7 ⟨S7, G28, c29, cs30, rfl, z7, p7, f32⟩
    have p7 : Hp nz wz S7 w7 ((G28, .row 5 cs30 (c29 * (kInt .u8).size) 0) :: (G20, .row 5 cs22 (c21 * (kInt .u8).size) 0) :: (G11, .row 5 cs13 (c12 * (kInt .u8).size) cs13.length) :: Lr) := p7
    refine Goes.runs 10 [(17, .tuple #[.slice (Gp G28) y26.1.length c29, .bool y26.2]), (20, .slice (Gp G28) y26.1.length c29), (21, .bool y26.2), (5, .slice (Gp G28) y26.1.length c29), (6, .bool y26.2), (22, .bool y18.2), (23, .bool y18.2)] [.inRegion (opsOf (sub [1, 1, 1, 1, 1, 0] B6)) [2, 3, 4, 5, 6, 7, 8, 9, 10, 11, 12, 13, 14, 15, 16], .code (sub [1, 1, 1, 1, 1, 1] B6)] (by kernel_rfl) ?_
    by_cases h34 : y18.2 = true
    · rw [if_pos h34] at h
      rw [h34]
      refine Goes.runs 2 [(24, .slice (Gp G20) y18.1.length c21), (25, .slice A6 y4.length c7)] [.inRegion (opsOf (sub [1, 1, 1, 1, 1, 0] B6)) [4, 5, 6, 7, 8, 9, 10, 11, 12, 13, 14, 15, 16], .code (sub [1, 1, 1, 1, 1, 1] B6)] (by kernel_rfl) ?_
      obtain ⟨S8, z8, p8, f35⟩ := p7.freezeRd 1 rfl (f24.ext z7) (by decide)
      have p8 : Hp nz wz S8 w7 ((G28, .row 5 cs30 (c29 * (kInt .u8).size) 0) :: (G20, .row 5 cs22 (c21 * (kInt .u8).size) cs22.length) :: (G11, .row 5 cs13 (c12 * (kInt .u8).size) cs13.length) :: Lr) := p8
      obtain ⟨y36, e37, h⟩ := bind_some h
      try dsimp only at h
      refine Op_.call (.call { callee := .value (.func 17), args := #[(.tmp 24), (.tmp 25)], argTypes := #[23, 23] }) 26 4 17 #[.slice (Gp G20) y18.1.length c21, .slice A6 y4.length c7] (Goes.cs (by kernel_rfl)) (by kernel_rfl) (W.tidepolebase_SameBytes y18.1 y4 y36 e37 nz wz S8 w7 ((G28, .row 5 cs30 (c29 * (kInt .u8).size) 0) :: (G20, .row 5 cs22 (c21 * (kInt .u8).size) cs22.length) :: (G11, .row 5 cs13 (c12 * (kInt .u8).size) cs13.length) :: Lr) (Gp G20) c21 A6 c7 p8 f35 (((((f8.ext z4).ext z5).ext z6).ext z7).ext z8)) ?_
      rintro _ w9 ⟨S9, rfl, z9, p9⟩
      have p9 : Hp nz wz S9 w9 ((G28, .row 5 cs30 (c29 * (kInt .u8).size) 0) :: (G20, .row 5 cs22 (c21 * (kInt .u8).size) cs22.length) :: (G11, .row 5 cs13 (c12 * (kInt .u8).size) cs13.length) :: Lr) := p9
      refine Goes.runs 2 [(27, .bool y36), (28, .bool y36)] [.inRegion (opsOf (sub [1, 1, 1, 1, 1, 0] B6)) [7, 8, 9, 10, 11, 12, 13, 14, 15, 16], .code (sub [1, 1, 1, 1, 1, 1] B6)] (by kernel_rfl) ?_
      by_cases h38 : y36 = true
      · rw [if_pos h38] at h
        rw [h38]
        refine Goes.runs 3 [(29, .bool y26.2), (30, .bool (!y26.2)), (31, .bool (!y26.2))] [.inRegion (opsOf (sub [1, 1, 1, 1, 1, 0] B6)) [10, 11, 12, 13, 14, 15, 16], .code (sub [1, 1, 1, 1, 1, 1] B6)] (by kernel_rfl) ?_
        by_cases h39 : y26.2 = true
        · rw [if_pos h39] at h
          rw [h39]
          refine Goes.runs 1 [(32, .slice (Gp G28) y26.1.length c29)] [.inRegion (opsOf (sub [1, 1, 1, 1, 1, 0] B6)) [11, 12, 13, 14, 15, 16], .code (sub [1, 1, 1, 1, 1, 1] B6)] (by kernel_rfl) ?_
          obtain ⟨S10, z10, p10, f40⟩ := p9.freezeRd 0 rfl ((f32.ext z8).ext z9) (by decide)
          have p10 : Hp nz wz S10 w9 ((G28, .row 5 cs30 (c29 * (kInt .u8).size) cs30.length) :: (G20, .row 5 cs22 (c21 * (kInt .u8).size) cs22.length) :: (G11, .row 5 cs13 (c12 * (kInt .u8).size) cs13.length) :: Lr) := p10
          obtain ⟨y41, e42, h⟩ := bind_some h
          try dsimp only at h
          refine Op_.call (.call { callee := .value (.func 25), args := #[(.tmp 32)], argTypes := #[23] }) 33 23 25 #[.slice (Gp G28) y26.1.length c29] (Goes.cs (by kernel_rfl)) (by kernel_rfl) (W.crc_Sealed y26.1 y41 e42 nz wz S10 w9 ((G28, .row 5 cs30 (c29 * (kInt .u8).size) cs30.length) :: (G20, .row 5 cs22 (c21 * (kInt .u8).size) cs22.length) :: (G11, .row 5 cs13 (c12 * (kInt .u8).size) cs13.length) :: Lr) (Gp G28) c29 p10 f40) ?_
          rintro _ w11 ⟨S11, G43, c44, cs45, rfl, z11, p11, f47⟩
          have p11 : Hp nz wz S11 w11 ((G43, .row 5 cs45 (c44 * (kInt .u8).size) 0) :: (G28, .row 5 cs30 (c29 * (kInt .u8).size) cs30.length) :: (G20, .row 5 cs22 (c21 * (kInt .u8).size) cs22.length) :: (G11, .row 5 cs13 (c12 * (kInt .u8).size) cs13.length) :: Lr) := p11
          refine Goes.runs 1 [(34, .slice A6 y4.length c7)] [.inRegion (opsOf (sub [1, 1, 1, 1, 1, 0] B6)) [13, 14, 15, 16], .code (sub [1, 1, 1, 1, 1, 1] B6)] (by kernel_rfl) ?_
          obtain ⟨S12, z12, p12, f49⟩ := p11.freezeRd 0 rfl f47 (by decide)
          have p12 : Hp nz wz S12 w11 ((G43, .row 5 cs45 (c44 * (kInt .u8).size) cs45.length) :: (G28, .row 5 cs30 (c29 * (kInt .u8).size) cs30.length) :: (G20, .row 5 cs22 (c21 * (kInt .u8).size) cs22.length) :: (G11, .row 5 cs13 (c12 * (kInt .u8).size) cs13.length) :: Lr) := p12
          obtain ⟨y50, e51, h⟩ := bind_some h
          try dsimp only at h
          refine Op_.call (.call { callee := .value (.func 17), args := #[(.tmp 33), (.tmp 34)], argTypes := #[23, 23] }) 35 4 17 #[.slice (Gp G43) y41.length c44, .slice A6 y4.length c7] (Goes.cs (by kernel_rfl)) (by kernel_rfl) (W.tidepolebase_SameBytes y41 y4 y50 e51 nz wz S12 w11 ((G43, .row 5 cs45 (c44 * (kInt .u8).size) cs45.length) :: (G28, .row 5 cs30 (c29 * (kInt .u8).size) cs30.length) :: (G20, .row 5 cs22 (c21 * (kInt .u8).size) cs22.length) :: (G11, .row 5 cs13 (c12 * (kInt .u8).size) cs13.length) :: Lr) (Gp G43) c44 A6 c7 p12 f49 (((((((((f8.ext z4).ext z5).ext z6).ext z7).ext z8).ext z9).ext z10).ext z11).ext z12)) ?_
          rintro _ w13 ⟨S13, rfl, z13, p13⟩
          have p13 : Hp nz wz S13 w13 ((G43, .row 5 cs45 (c44 * (kInt .u8).size) cs45.length) :: (G28, .row 5 cs30 (c29 * (kInt .u8).size) cs30.length) :: (G20, .row 5 cs22 (c21 * (kInt .u8).size) cs22.length) :: (G11, .row 5 cs13 (c12 * (kInt .u8).size) cs13.length) :: Lr) := p13
          refine Goes.runs 4 [(36, .bool y50), (37, .bool y50), (2, .bool y50)] [.code (sub [1, 1, 1, 1, 1, 1] B6)] (by kernel_rfl) ?_
          have p13 : Hp nz wz S13 w13 ((G28, .row 5 cs30 (c29 * (kInt .u8).size) cs30.length) :: (G20, .row 5 cs22 (c21 * (kInt .u8).size) cs22.length) :: (G11, .row 5 cs13 (c12 * (kInt .u8).size) cs13.length) :: Lr) := (p13.front 0 _ rfl).drop
          have p13 : Hp nz wz S13 w13 ((G20, .row 5 cs22 (c21 * (kInt .u8).size) cs22.length) :: (G11, .row 5 cs13 (c12 * (kInt .u8).size) cs13.length) :: Lr) := (p13.front 0 _ rfl).drop
          have p13 : Hp nz wz S13 w13 ((G11, .row 5 cs13 (c12 * (kInt .u8).size) cs13.length) :: Lr) := (p13.front 0 _ rfl).drop
          have p13 : Hp nz wz S13 w13 (Lr) := (p13.front 0 _ rfl).drop
          obtain rfl := Option.some.inj h
          exact Goes.ret (fn := Try.f6) (by kernel_rfl) (v := .bool y50) (by kernel_rfl) ⟨S13, rfl, (((((((((((((Ext.refl S0 w0).trans z2).trans z3).trans z4).trans z5).trans z6).trans z7).trans z8).trans z9).trans z10).trans z11).trans z12).trans z13), p13⟩
        · rw [if_neg h39] at h
          have h39' : y26.2 = false := by simpa using h39
          rw [h39']
          refine Goes.runs 8 [(32, undef), (33, undef), (34, undef), (35, undef), (36, .bool true), (37, .bool true), (2, .bool true)] [.code (sub [1, 1, 1, 1, 1, 1] B6)] (by kernel_rfl) ?_
          have p9 : Hp nz wz S9 w9 ((G20, .row 5 cs22 (c21 * (kInt .u8).size) cs22.length) :: (G11, .row 5 cs13 (c12 * (kInt .u8).size) cs13.length) :: Lr) := (p9.front 0 _ rfl).drop
          have p9 : Hp nz wz S9 w9 ((G11, .row 5 cs13 (c12 * (kInt .u8).size) cs13.length) :: Lr) := (p9.front 0 _ rfl).drop
          have p9 : Hp nz wz S9 w9 (Lr) := (p9.front 0 _ rfl).drop
          obtain rfl := Option.some.inj h
          exact Goes.ret (fn := Try.f6) (by kernel_rfl) (v := .bool true) (by kernel_rfl) ⟨S9, rfl, (((((((((Ext.refl S0 w0).trans z2).trans z3).trans z4).trans z5).trans z6).trans z7).trans z8).trans z9), p9⟩
      · rw [if_neg h38] at h
        have h38' : y36 = false := by simpa using h38
        rw [h38']
        refine Goes.runs 11 [(29, undef), (30, undef), (31, undef), (32, undef), (33, undef), (34, undef), (35, undef), (36, undef), (37, .bool false), (2, .bool false)] [.code (sub [1, 1, 1, 1, 1, 1] B6)] (by kernel_rfl) ?_
        have p9 : Hp nz wz S9 w9 ((G20, .row 5 cs22 (c21 * (kInt .u8).size) cs22.length) :: (G11, .row 5 cs13 (c12 * (kInt .u8).size) cs13.length) :: Lr) := (p9.front 0 _ rfl).drop
        have p9 : Hp nz wz S9 w9 ((G11, .row 5 cs13 (c12 * (kInt .u8).size) cs13.length) :: Lr) := (p9.front 0 _ rfl).drop
        have p9 : Hp nz wz S9 w9 (Lr) := (p9.front 0 _ rfl).drop
        obtain rfl := Option.some.inj h
        exact Goes.ret (fn := Try.f6) (by kernel_rfl) (v := .bool false) (by kernel_rfl) ⟨S9, rfl, (((((((((Ext.refl S0 w0).trans z2).trans z3).trans z4).trans z5).trans z6).trans z7).trans z8).trans z9), p9⟩
    · rw [if_neg h34] at h
      have h34' : y18.2 = false := by simpa using h34
      rw [h34']
      refine Goes.runs 16 [(24, undef), (25, undef), (26, undef), (27, .bool false), (28, .bool false), (29, undef), (30, undef), (31, undef), (32, undef), (33, undef), (34, undef), (35, undef), (36, undef), (37, .bool false), (2, .bool false)] [.code (sub [1, 1, 1, 1, 1, 1] B6)] (by kernel_rfl) ?_
      have p7 : Hp nz wz S7 w7 ((G20, .row 5 cs22 (c21 * (kInt .u8).size) 0) :: (G11, .row 5 cs13 (c12 * (kInt .u8).size) cs13.length) :: Lr) := (p7.front 0 _ rfl).drop
      have p7 : Hp nz wz S7 w7 ((G11, .row 5 cs13 (c12 * (kInt .u8).size) cs13.length) :: Lr) := (p7.front 0 _ rfl).drop
      have p7 : Hp nz wz S7 w7 (Lr) := (p7.front 0 _ rfl).drop
      obtain rfl := Option.some.inj h
      exact Goes.ret (fn := Try.f6) (by kernel_rfl) (v := .bool false) (by kernel_rfl) ⟨S7, rfl, (((((((Ext.refl S0 w0).trans z2).trans z3).trans z4).trans z5).trans z6).trans z7), p7⟩
  · rw [if_neg h3] at h
    have h3' : y1 = false := by simpa using h3
    rw [h3']
    refine Goes.runs 5 [(2, .bool false)] [.code (sub [1, 0, 1, 0, 1] B6), .code (sub [1, 1] B6)] (by kernel_rfl) ?_
    obtain rfl := Option.some.inj h
    exact Goes.ret (fn := Try.f6) (by kernel_rfl) (v := .bool false) (by kernel_rfl) ⟨S2, rfl, ((Ext.refl S0 w0).trans z2), p2⟩

end Go.Gx
