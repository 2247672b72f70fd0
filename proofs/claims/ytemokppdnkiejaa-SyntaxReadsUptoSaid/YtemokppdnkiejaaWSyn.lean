import Derived.Test.YtemokppdnkiejaaWSync

set_option linter.unusedVariables false

set_option maxRecDepth 100000

set_option maxHeartbeats 4000000

namespace Go.Gx

open Go.RowKit Go.Proofs

/-! tidepole/syntax.count -/
def Post.syntax_count (nz : Nat) (wz : World) (S0 : Fz) (w0 : World) (Lr : List Ent) (gx2 : Nat) (r : Bool × Int) (v : Value) (w' : World) : Prop :=
  ∃ (S' : Fz), v = .bool r.1 ∧ Ext S0 w0 S' w' ∧ Hp nz wz S' w' ((some gx2, .row 3 [.int .i64 r.2] 1 0) :: Lr)

def LF.syntax_count : T27 × Int × Int → (Bool × Int) → Prop := fun ⟨x0, x1, x2v_0⟩ r => ∀ (nz : Nat) (wz : World) (S0 : Fz) (w0 : World) (Lr : List Ent) (Ax0_2 : Option Addr) (nx0_2 : Nat) (cx0_2 : Nat) (gx2 : Nat) (_ : Hp nz wz S0 w0 ((some gx2, .row 3 [.int .i64 x2v_0] 1 0) :: Lr)) (_ : x0.Set.length = 4) (_ : Rd kT27 S0 w0 Ax0_2 cx0_2 x0.L) (_ : x0.L.length = nx0_2),
  Calls Try.prog 20 #[.agg #[.int .i64 x0.Kind, .int .u64 (gi x0.Set 0), .int .u64 (gi x0.Set 1), .int .u64 (gi x0.Set 2), .int .u64 (gi x0.Set 3), .slice Ax0_2 nx0_2 cx0_2, .int .i64 x0.Min, .int .i64 x0.Max], .int .i64 x1, .pointer (some ⟨gx2, 0, none⟩)] w0 (Rets (Post.syntax_count nz wz S0 w0 Lr gx2 r))

def L.syntax_count_l0 (nz : Nat) (wz : World) (S0 : Fz) (w0 : World) (Lr : List Ent) (gx2 : Nat) : Int × T27 × Bool × Int → (Bool × Int) → Prop := fun ⟨x1, x3v, x21, e0v_0⟩ r => ∀ S1 w1, Ext S0 w0 S1 w1 → ∀ (gx3 : Nat) (Ax3v_2 : Option Addr) (nx3v_2 : Nat) (cx3v_2 : Nat) (_ : Hp nz wz S1 w1 ((some gx3, .row 28 [.int .i64 x3v.Kind, .int .u64 (gi x3v.Set 0), .int .u64 (gi x3v.Set 1), .int .u64 (gi x3v.Set 2), .int .u64 (gi x3v.Set 3), .slice Ax3v_2 nx3v_2 cx3v_2, .int .i64 x3v.Min, .int .i64 x3v.Max] 8 0) :: (some gx2, .row 3 [.int .i64 e0v_0] 1 0) :: Lr)) (_ : x3v.Set.length = 4) (_ : Rd kT27 S1 w1 Ax3v_2 cx3v_2 x3v.L) (_ : x3v.L.length = nx3v_2) (junk : Nat → Value),
  Goes Try.prog (base 20) [.code (sub [1, 1, 0, 1] B20), .code (sub [1, 1, 1] B20)] ⟨lfr 36 [(1, .int .i64 x1), (2, .pointer (some ⟨gx2, 0, none⟩)), (3, .pointer (some ⟨gx3, 0, none⟩)), (21, .bool x21)] junk, []⟩ w1 (Done Try.prog 20 (Rets (Post.syntax_count nz wz S0 w0 Lr gx2 r)))

def LL.syntax_count_l0 : Int × T27 × Bool × Int → (Bool × Int) → Prop := fun a r => ∀ (nz : Nat) (wz : World) (S0 : Fz) (w0 : World) (Lr : List Ent) (gx2 : Nat), L.syntax_count_l0 nz wz S0 w0 Lr gx2 a r

def L.syntax_count_l1 (nz : Nat) (wz : World) (S0 : Fz) (w0 : World) (Lr : List Ent) (gx2 : Nat) : Int × (List T27) × Int × Int × Int → (Bool × Int) → Prop := fun ⟨x1, x23, x24, x25, e0v_0⟩ r => ∀ S1 w1, Ext S0 w0 S1 w1 → ∀ (Ax23 : Option Addr) (nx23 : Nat) (cx23 : Nat) (_ : Hp nz wz S1 w1 ((some gx2, .row 3 [.int .i64 e0v_0] 1 0) :: Lr)) (_ : Rd kT27 S1 w1 Ax23 cx23 x23) (_ : x23.length = nx23) (junk : Nat → Value),
  Goes Try.prog (base 20) [.code (sub [1, 1, 1, 0, 1, 0, 0] B20), .inLoop (sub [1, 1, 1, 0, 1, 0, 0] B20), .inBlock 0, .code (sub [1, 1, 1, 1] B20)] ⟨lfr 36 [(1, .int .i64 x1), (2, .pointer (some ⟨gx2, 0, none⟩)), (23, .slice Ax23 nx23 cx23), (24, .int .i64 x24), (25, .int .i64 x25)] junk, []⟩ w1 (Done Try.prog 20 (Rets (Post.syntax_count nz wz S0 w0 Lr gx2 r)))

def LL.syntax_count_l1 : Int × (List T27) × Int × Int × Int → (Bool × Int) → Prop := fun a r => ∀ (nz : Nat) (wz : World) (S0 : Fz) (w0 : World) (Lr : List Ent) (gx2 : Nat), L.syntax_count_l1 nz wz S0 w0 Lr gx2 a r

theorem W.syntax_count_all : (∀ a r, M.syntax_count a = some r → LF.syntax_count a r) ∧ (∀ a r, M.syntax_count_l0 a = some r → LL.syntax_count_l0 a r) ∧ (∀ a r, M.syntax_count_l1 a = some r → LL.syntax_count_l1 a r) := by
  refine M.syntax_count.mutual_partial_correctness LF.syntax_count LL.syntax_count_l0 LL.syntax_count_l1 ?_ ?_ ?_
  · intro rec_syntax_count_l0 ih_syntax_count_l0 ⟨x0, x1, x2v_0⟩ r h nz wz S0 w0 Lr Ax0_2 nx0_2 cx0_2 gx2 p0 lx0_1 fx0_2 lx0_2
    try dsimp only at h
    subst lx0_2
    refine calls_of_goes (fn := Try.f20) (c := B20) (by kernel_rfl) (by kernel_rfl) 33 (by kernel_rfl) ?_
    refine Goes.jump 36 [(0, .agg #[.int .i64 x0.Kind, .int .u64 (gi x0.Set 0), .int .u64 (gi x0.Set 1), .int .u64 (gi x0.Set 2), .int .u64 (gi x0.Set 3), .slice Ax0_2 x0.L.length cx0_2, .int .i64 x0.Min, .int .i64 x0.Max]), (1, .int .i64 x1), (2, .pointer (some ⟨gx2, 0, none⟩))] (by kernel_rfl) (fun junk => ?_)
    refine Goes.runs 2 [] [.inRegion (opsOf (sub [0] B20)) [0, 1], .code (sub [1] B20)] (by kernel_rfl) ?_
    refine Op_.box 28 (.tmp 0) 3 0 (.agg #[.int .i64 x0.Kind, .int .u64 (gi x0.Set 0), .int .u64 (gi x0.Set 1), .int .u64 (gi x0.Set 2), .int .u64 (gi x0.Set 3), .slice Ax0_2 x0.L.length cx0_2, .int .i64 x0.Min, .int .i64 x0.Max]) [.int .i64 x0.Kind, .int .u64 (gi x0.Set 0), .int .u64 (gi x0.Set 1), .int .u64 (gi x0.Set 2), .int .u64 (gi x0.Set 3), .slice Ax0_2 x0.L.length cx0_2, .int .i64 x0.Min, .int .i64 x0.Max] p0 (Goes.vs (by kernel_rfl)) (by kernel_rfl) (by kernel_rfl) ?_
    intro b2 w2 z2 p2
    refine Goes.runs 6 [(6, .bool false), (9, .pointer (some ⟨gx2, 0, none⟩)), (10, .pointer (some ⟨gx2, 0, none⟩))] [.inRegion (opsOf (sub [1, 0] B20)) [2, 3, 4, 5], .code (sub [1, 1] B20)] (by kernel_rfl) ?_
    refine Op_.ld1 3 (.tmp 10) 11 3 ⟨gx2, 0, none⟩ (.int .i64 x2v_0) (Goes.vs (by kernel_rfl)) (by kernel_rfl) (by kernel_rfl) ((p2.mem 1 rfl).cell 0 _ rfl) ?_
    refine Goes.runs 2 [(12, .int .i64 (wr .i64 (x2v_0 + 1))), (13, .pointer (some ⟨gx2, 0, none⟩))] [.inRegion (opsOf (sub [1, 0] B20)) [5], .code (sub [1, 1] B20)] (by kernel_rfl) ?_
    refine Op_.st 3 (.tmp 13) (.tmp 12) 0 1 gx2 0 (.int .i64 (wr .i64 (x2v_0 + 1))) [.int .i64 (wr .i64 (x2v_0 + 1))] p2 rfl (Goes.ss (by kernel_rfl)) (by kernel_rfl) (by kernel_rfl) (by kernel_rfl) (by kernel_rfl) (Nat.zero_le _) (by simp only [List.length_cons, List.length_nil]; omega) (by simp [Value.oneCell']) ?_
    intro w3 z3 p3
    refine Goes.runs 7 [(14, .int .i64 x1), (15, .bool (decide (x1 = 0))), (16, .bool (decide (x1 = 0)))] [.inRegion (opsOf (sub [1, 1, 0, 0] B20)) [3, 4, 5, 6, 7], .code (sub [1, 1, 0, 1] B20), .code (sub [1, 1, 1] B20)] (by kernel_rfl) ?_
    refine ite_some h (fun h4 h => ?_) (fun h4 h => ?_)
    · rw [decide_eq_true h4]
      refine Goes.runs 6 [(17, undef), (18, undef), (19, undef), (20, undef), (21, .bool true)] [.code (sub [1, 1, 0, 1] B20), .code (sub [1, 1, 1] B20)] (by kernel_rfl) ?_
      exact Goes.jump 36 [(1, .int .i64 x1), (2, .pointer (some ⟨gx2, 0, none⟩)), (3, .pointer (some ⟨b2, 0, none⟩)), (21, .bool true)] (by kernel_rfl) (ih_syntax_count_l0 _ _ h nz wz S0 w0 Lr gx2 _ _ (((Ext.refl S0 w0).trans z2).trans z3) b2 Ax0_2 x0.L.length cx0_2 p3 lx0_1 (fx0_2.ext (z2.trans z3)) rfl)
    · rw [decide_eq_false h4]
      refine Goes.runs 2 [(17, .pointer (some ⟨gx2, 0, none⟩)), (18, .pointer (some ⟨gx2, 0, none⟩))] [.inRegion (opsOf (sub [1, 1, 0, 0] B20)) [5, 6, 7], .code (sub [1, 1, 0, 1] B20), .code (sub [1, 1, 1] B20)] (by kernel_rfl) ?_
      refine Op_.ld1 3 (.tmp 18) 19 3 ⟨gx2, 0, none⟩ (.int .i64 (wr .i64 (x2v_0 + 1))) (Goes.vs (by kernel_rfl)) (by kernel_rfl) (by kernel_rfl) ((p3.mem 1 rfl).cell 0 _ rfl) ?_
      refine Goes.runs 3 [(20, .bool (decide (wr .i64 (x2v_0 + 1) > 4096))), (21, .bool (decide (wr .i64 (x2v_0 + 1) > 4096)))] [.code (sub [1, 1, 0, 1] B20), .code (sub [1, 1, 1] B20)] (by kernel_rfl) ?_
      exact Goes.jump 36 [(1, .int .i64 x1), (2, .pointer (some ⟨gx2, 0, none⟩)), (3, .pointer (some ⟨b2, 0, none⟩)), (21, .bool (decide (wr .i64 (x2v_0 + 1) > 4096)))] (by kernel_rfl) (ih_syntax_count_l0 _ _ h nz wz S0 w0 Lr gx2 _ _ (((Ext.refl S0 w0).trans z2).trans z3) b2 Ax0_2 x0.L.length cx0_2 p3 lx0_1 (fx0_2.ext (z2.trans z3)) rfl)
  · intro rec_syntax_count_l1 ih_syntax_count_l1 ⟨x1, x3v, x21, e0v_0⟩ r h nz wz S0 w0 Lr gx2 S1 w1 hx gx3 Ax3v_2 nx3v_2 cx3v_2 p1 lx3v_1 fx3v_2 lx3v_2 junk
    try dsimp only at h
    subst lx3v_2
    refine ite_some h (fun h6 h => ?_) (fun h6 h => ?_)
    · rw [h6]
      refine Goes.runs 5 [(6, .bool false)] [.code (sub [1, 1, 0, 1, 0, 1] B20), .code (sub [1, 1, 1] B20)] (by kernel_rfl) ?_
      obtain rfl := Option.some.inj h
      have p1 := (p1.front 0 _ rfl).drop
      exact Goes.ret (fn := Try.f20) (by kernel_rfl) (v := .bool false) (by kernel_rfl) ⟨S1, rfl, hx, p1⟩
    · have h6' : x21 = false := by simpa using h6
      rw [h6']
      refine Goes.runs 6 [(22, .pointer (some ⟨gx3, 5, none⟩))] [.inRegion (opsOf (sub [1, 1, 1, 0, 0] B20)) [1, 2, 3], .code (sub [1, 1, 1, 0, 1] B20), .code (sub [1, 1, 1, 1] B20)] (by kernel_rfl) ?_
      refine Op_.ld1 26 (.tmp 22) 23 26 ⟨gx3, 5, none⟩ (.slice Ax3v_2 x3v.L.length cx3v_2) (Goes.vs (by kernel_rfl)) (by kernel_rfl) (by kernel_rfl) ((p1.mem 0 rfl).cell 5 _ rfl) ?_
      refine Goes.runs 5 [(24, .int .i64 (x3v.L.length : Int)), (25, .int .i64 0)] [.code (sub [1, 1, 1, 0, 1, 0, 0] B20), .inLoop (sub [1, 1, 1, 0, 1, 0, 0] B20), .inBlock 0, .code (sub [1, 1, 1, 1] B20)] (by kernel_rfl) ?_
      have p1 := (p1.front 0 _ rfl).drop
      exact Goes.jump 36 [(1, .int .i64 x1), (2, .pointer (some ⟨gx2, 0, none⟩)), (23, .slice Ax3v_2 x3v.L.length cx3v_2), (24, .int .i64 (x3v.L.length : Int)), (25, .int .i64 0)] (by kernel_rfl) (ih_syntax_count_l1 _ _ h nz wz S0 w0 Lr gx2 _ _ hx Ax3v_2 x3v.L.length cx3v_2 p1 fx3v_2 rfl)
  · intro rec_syntax_count rec_syntax_count_l1 ih_syntax_count ih_syntax_count_l1 ⟨x1, x23, x24, x25, e0v_0⟩ r h nz wz S0 w0 Lr gx2 S1 w1 hx Ax23 nx23 cx23 p1 fx23 lx23 junk
    try dsimp only at h
    subst lx23
    refine Goes.runs 5 [(26, .bool (decide (x25 < x24)))] [.code (sub [1, 1, 1, 0, 1, 0, 0, 1, 0] B20), .code (sub [1, 1, 1, 0, 1, 0, 0, 1, 1] B20), .inLoop (sub [1, 1, 1, 0, 1, 0, 0] B20), .inBlock 0, .code (sub [1, 1, 1, 1] B20)] (by kernel_rfl) ?_
    refine ite_some h (fun h7 h => ?_) (fun h7 h => ?_)
    · rw [decide_eq_true h7]
      refine Goes.runs 6 [] [.inRegion (opsOf (sub [1, 1, 1, 0, 1, 0, 0, 1, 1, 0, 0, 0] B20)) [0, 1, 2, 3], .code (sub [1, 1, 1, 0, 1, 0, 0, 1, 1, 0, 0, 1] B20), .inBlock 1, .code (sub [1, 1, 1, 0, 1, 0, 0, 1, 1, 1] B20), .inLoop (sub [1, 1, 1, 0, 1, 0, 0] B20), .inBlock 0, .code (sub [1, 1, 1, 1] B20)] (by kernel_rfl) ?_
      refine guard_some' h fun g8 h => ?_
      refine guard_some' h fun g9 h => ?_
      refine Op_.ixR_n 26 (.tmp 23) (.tmp 25) 27 0 28 .i64 x25 (gi x23 x25) rfl rfl fx23 (Goes.vs (by kernel_rfl)) (by kernel_rfl) (by kernel_rfl) (by kernel_rfl) (by kernel_rfl) g8 g9 ?_
      intro a10 _ f11 q12
      have q13 := q12
      obtain ⟨_, _, rfl, rfl, ⟨_, _, rfl, ⟨l14, f15⟩, ⟨_, _, rfl, ⟨A16, c17, rfl, f18⟩, ⟨_, _, rfl, rfl, rfl⟩⟩⟩⟩ := kT27_open q13
      obtain rfl := els_lit4' f15 l14
      refine Op_.ldN 28 (.tmp 27) 28 28 a10 ([.int .i64 ((gi x23 x25).Kind)] ++ ([.int .u64 (gi ((gi x23 x25).Set) 0), .int .u64 (gi ((gi x23 x25).Set) 1), .int .u64 (gi ((gi x23 x25).Set) 2), .int .u64 (gi ((gi x23 x25).Set) 3)] ++ ([.slice A16 (((gi x23 x25).L).length) c17] ++ ([.int .i64 ((gi x23 x25).Min)] ++ [.int .i64 ((gi x23 x25).Max)])))) (Goes.vs (by kernel_rfl)) (by kernel_rfl) (by kernel_rfl) (by kernel_rfl) (f11.cell) ?_
      refine Op_.alloc 28 8 0 (.agg #[.int .i64 0, .int .u64 0, .int .u64 0, .int .u64 0, .int .u64 0, .slice none 0 0, .int .i64 0, .int .i64 0]) [.int .i64 0, .int .u64 0, .int .u64 0, .int .u64 0, .int .u64 0, .slice none 0 0, .int .i64 0, .int .i64 0] p1 (Goes.vs (by kernel_rfl)) (by kernel_rfl) (by kernel_rfl) ?_
      intro b19 w4 z4 p4
      refine Op_.st 28 (.tmp 8) (.tmp 28) 0 0 b19 0 (.agg #[.int .i64 ((gi x23 x25).Kind), .int .u64 (gi ((gi x23 x25).Set) 0), .int .u64 (gi ((gi x23 x25).Set) 1), .int .u64 (gi ((gi x23 x25).Set) 2), .int .u64 (gi ((gi x23 x25).Set) 3), .slice A16 (((gi x23 x25).L).length) c17, .int .i64 ((gi x23 x25).Min), .int .i64 ((gi x23 x25).Max)]) [.int .i64 ((gi x23 x25).Kind), .int .u64 (gi ((gi x23 x25).Set) 0), .int .u64 (gi ((gi x23 x25).Set) 1), .int .u64 (gi ((gi x23 x25).Set) 2), .int .u64 (gi ((gi x23 x25).Set) 3), .slice A16 (((gi x23 x25).L).length) c17, .int .i64 ((gi x23 x25).Min), .int .i64 ((gi x23 x25).Max)] p4 rfl (Goes.ss (by kernel_rfl)) (by kernel_rfl) (by kernel_rfl) (by kernel_rfl) (by kernel_rfl) (Nat.zero_le _) (by simp only [List.length_cons, List.length_nil]; omega) (by simp [Value.oneCell']) ?_
      intro w5 z5 p5
      refine Goes.runs 3 [] [.inRegion (opsOf (sub [1, 1, 1, 0, 1, 0, 0, 1, 1, 0, 0, 1, 0] B20)) [0, 1, 2, 3, 4, 5], .code (sub [1, 1, 1, 0, 1, 0, 0, 1, 1, 0, 0, 1, 1] B20), .inBlock 1, .code (sub [1, 1, 1, 0, 1, 0, 0, 1, 1, 1] B20), .inLoop (sub [1, 1, 1, 0, 1, 0, 0] B20), .inBlock 0, .code (sub [1, 1, 1, 1] B20)] (by kernel_rfl) ?_
      refine Op_.ldN 28 (.tmp 8) 29 28 ⟨b19, 0, none⟩ [.int .i64 ((gi x23 x25).Kind), .int .u64 (gi ((gi x23 x25).Set) 0), .int .u64 (gi ((gi x23 x25).Set) 1), .int .u64 (gi ((gi x23 x25).Set) 2), .int .u64 (gi ((gi x23 x25).Set) 3), .slice A16 (((gi x23 x25).L).length) c17, .int .i64 ((gi x23 x25).Min), .int .i64 ((gi x23 x25).Max)] (Goes.vs (by kernel_rfl)) (by kernel_rfl) (by kernel_rfl) (by kernel_rfl) (At_part (us := []) (vs := [.int .i64 ((gi x23 x25).Kind), .int .u64 (gi ((gi x23 x25).Set) 0), .int .u64 (gi ((gi x23 x25).Set) 1), .int .u64 (gi ((gi x23 x25).Set) 2), .int .u64 (gi ((gi x23 x25).Set) 3), .slice A16 (((gi x23 x25).L).length) c17, .int .i64 ((gi x23 x25).Min), .int .i64 ((gi x23 x25).Max)]) (ws := []) (p5.mem 0 rfl) 0 rfl) ?_
      refine Goes.runs 3 [(30, .int .i64 x1), (31, .int .i64 (wr .i64 (x1 - 1))), (32, .pointer (some ⟨gx2, 0, none⟩))] [.inRegion (opsOf (sub [1, 1, 1, 0, 1, 0, 0, 1, 1, 0, 0, 1, 0] B20)) [4, 5], .code (sub [1, 1, 1, 0, 1, 0, 0, 1, 1, 0, 0, 1, 1] B20), .inBlock 1, .code (sub [1, 1, 1, 0, 1, 0, 0, 1, 1, 1] B20), .inLoop (sub [1, 1, 1, 0, 1, 0, 0] B20), .inBlock 0, .code (sub [1, 1, 1, 1] B20)] (by kernel_rfl) ?_
      have p5 := p5.front 1 _ rfl
      refine bind_some' h fun y21 e22 h => ?_
      refine Op_.call (.call { callee := .value (.func 20), args := #[(.tmp 29), (.tmp 31), (.tmp 32)], argTypes := #[28, 3, 55] }) 33 4 20 #[.agg #[.int .i64 ((gi x23 x25).Kind), .int .u64 (gi ((gi x23 x25).Set) 0), .int .u64 (gi ((gi x23 x25).Set) 1), .int .u64 (gi ((gi x23 x25).Set) 2), .int .u64 (gi ((gi x23 x25).Set) 3), .slice A16 (((gi x23 x25).L).length) c17, .int .i64 ((gi x23 x25).Min), .int .i64 ((gi x23 x25).Max)], .int .i64 (wr .i64 (x1 - 1)), .pointer (some ⟨gx2, 0, none⟩)] (Goes.cs (by kernel_rfl)) (by kernel_rfl) (ih_syntax_count ((⟨(gi x23 x25).Kind, ((gi x23 x25).Set), (gi x23 x25).L, (gi x23 x25).Min, (gi x23 x25).Max⟩ : T27), wr .i64 (x1 - 1), e0v_0) y21 e22 nz wz S1 w5 ((some b19, .row 28 [.int .i64 ((gi x23 x25).Kind), .int .u64 (gi ((gi x23 x25).Set) 0), .int .u64 (gi ((gi x23 x25).Set) 1), .int .u64 (gi ((gi x23 x25).Set) 2), .int .u64 (gi ((gi x23 x25).Set) 3), .slice A16 (((gi x23 x25).L).length) c17, .int .i64 ((gi x23 x25).Min), .int .i64 ((gi x23 x25).Max)] 8 0) :: Lr) A16 (((gi x23 x25).L).length) c17 gx2 p5 l14 (f18.ext (z4.trans z5)) rfl) ?_
      rintro _ w6 ⟨S6, rfl, z6, p6⟩
      have p6 := (p6.front 1 _ rfl).drop
      refine Goes.runs 2 [(34, .bool (!y21.1))] [.code (sub [1, 1, 1, 0, 1, 0, 0, 1, 1, 0, 0, 1, 1] B20), .inBlock 1, .code (sub [1, 1, 1, 0, 1, 0, 0, 1, 1, 1] B20), .inLoop (sub [1, 1, 1, 0, 1, 0, 0] B20), .inBlock 0, .code (sub [1, 1, 1, 1] B20)] (by kernel_rfl) ?_
      refine ite_some h (fun h23 h => ?_) (fun h23 h => ?_)
      · rw [h23]
        refine Goes.runs 8 [(35, .int .i64 (wr .i64 (x25 + 1))), (25, .int .i64 (wr .i64 (x25 + 1)))] [.code (sub [1, 1, 1, 0, 1, 0, 0] B20), .inLoop (sub [1, 1, 1, 0, 1, 0, 0] B20), .inBlock 0, .code (sub [1, 1, 1, 1] B20)] (by kernel_rfl) ?_
        exact Goes.jump 36 [(1, .int .i64 x1), (2, .pointer (some ⟨gx2, 0, none⟩)), (23, .slice Ax23 x23.length cx23), (24, .int .i64 x24), (25, .int .i64 (wr .i64 (x25 + 1)))] (by kernel_rfl) (ih_syntax_count_l1 _ _ h nz wz S0 w0 Lr gx2 _ _ (((hx.trans z4).trans z5).trans z6) Ax23 x23.length cx23 p6 (fx23.ext ((z4.trans z5).trans z6)) rfl)
      · have h23' : y21.1 = false := by simpa using h23
        rw [h23']
        refine Goes.runs 5 [(6, .bool false)] [.code (sub [1, 1, 1, 0, 1, 0, 0, 1, 1, 0, 0, 1, 1, 0, 1] B20), .inBlock 1, .code (sub [1, 1, 1, 0, 1, 0, 0, 1, 1, 1] B20), .inLoop (sub [1, 1, 1, 0, 1, 0, 0] B20), .inBlock 0, .code (sub [1, 1, 1, 1] B20)] (by kernel_rfl) ?_
        obtain rfl := Option.some.inj h
        exact Goes.ret (fn := Try.f20) (by kernel_rfl) (v := .bool false) (by kernel_rfl) ⟨S6, rfl, (((hx.trans z4).trans z5).trans z6), p6⟩
    · rw [decide_eq_false h7]
      refine Goes.runs 6 [(6, .bool true)] [.code (sub [1, 1, 1, 1, 1] B20)] (by kernel_rfl) ?_
      obtain rfl := Option.some.inj h
      exact Goes.ret (fn := Try.f20) (by kernel_rfl) (v := .bool true) (by kernel_rfl) ⟨S1, rfl, hx, p1⟩

theorem W.syntax_count : ∀ a r, M.syntax_count a = some r → LF.syntax_count a r := (W.syntax_count_all).1

theorem W.syntax_count_l0 : ∀ a r, M.syntax_count_l0 a = some r → LL.syntax_count_l0 a r := (W.syntax_count_all).2.1

theorem W.syntax_count_l1 : ∀ a r, M.syntax_count_l1 a = some r → LL.syntax_count_l1 a r := (W.syntax_count_all).2.2

/-! tidepole/syntax.shaped -/
def Post.syntax_shaped (nz : Nat) (wz : World) (S0 : Fz) (w0 : World) (Lr : List Ent) (r : Bool) (v : Value) (w' : World) : Prop :=
  ∃ (S' : Fz), v = .bool r ∧ Ext S0 w0 S' w' ∧ Hp nz wz S' w' (Lr)

def L.syntax_shaped_l3 (nz : Nat) (wz : World) (S0 : Fz) (w0 : World) (Lr : List Ent) : T27 × (List Int) × Bool × Bool → Bool → Prop := fun ⟨x1v, x3v_0, x5, x6⟩ r => ∀ S1 w1, Ext S0 w0 S1 w1 → ∀ (gx1 : Nat) (Ax1v_2 : Option Addr) (nx1v_2 : Nat) (cx1v_2 : Nat) (gx3 : Nat) (_ : Hp nz wz S1 w1 ((some gx1, .row 28 [.int .i64 x1v.Kind, .int .u64 (gi x1v.Set 0), .int .u64 (gi x1v.Set 1), .int .u64 (gi x1v.Set 2), .int .u64 (gi x1v.Set 3), .slice Ax1v_2 nx1v_2 cx1v_2, .int .i64 x1v.Min, .int .i64 x1v.Max] 8 0) :: (some gx3, .row 25 [.int .u64 (gi x3v_0 0), .int .u64 (gi x3v_0 1), .int .u64 (gi x3v_0 2), .int .u64 (gi x3v_0 3)] 4 0) :: Lr)) (_ : x1v.Set.length = 4) (_ : Rd kT27 S1 w1 Ax1v_2 cx1v_2 x1v.L) (_ : x1v.L.length = nx1v_2) (_ : x3v_0.length = 4) (junk : Nat → Value),
  Goes Try.prog (base 37) [.code (sub [1, 1, 1, 0, 1, 0, 1, 1, 1, 1, 1, 0, 1, 1] B37), .inBlock 0, .code (sub [1, 1, 1, 1] B37)] ⟨lfr 77 [(1, .pointer (some ⟨gx1, 0, none⟩)), (3, .pointer (some ⟨gx3, 0, none⟩)), (5, .bool x5), (6, .bool x6)] junk, []⟩ w1 (Done Try.prog 37 (Rets (Post.syntax_shaped nz wz S0 w0 Lr r)))

theorem W.syntax_shaped_l3 (nz : Nat) (wz : World) (S0 : Fz) (w0 : World) (Lr : List Ent) : ∀ a r, M.syntax_shaped_l3 a = some r → L.syntax_shaped_l3 nz wz S0 w0 Lr a r := by
  intro ⟨x1v, x3v_0, x5, x6⟩ r h S1 w1 hx gx1 Ax1v_2 nx1v_2 cx1v_2 gx3 p1 lx1v_1 fx1v_2 lx1v_2 lx3v_0 junk
  rw [M.syntax_shaped_l3] at h
  try dsimp only at h
  subst lx1v_2
  refine Goes.runs 3 [(61, .pointer (some ⟨gx1, 5, none⟩))] [.inRegion (opsOf (sub [1, 1, 1, 0, 1, 0, 1, 1, 1, 1, 1, 0, 1, 1, 0] B37)) [1, 2, 3, 4, 5, 6, 7, 8, 9, 10, 11, 12, 13, 14, 15, 16], .code (sub [1, 1, 1, 0, 1, 0, 1, 1, 1, 1, 1, 0, 1, 1, 1] B37), .inBlock 0, .code (sub [1, 1, 1, 1] B37)] (by kernel_rfl) ?_
  refine Op_.ld1 26 (.tmp 61) 62 26 ⟨gx1, 5, none⟩ (.slice Ax1v_2 x1v.L.length cx1v_2) (Goes.vs (by kernel_rfl)) (by kernel_rfl) (by kernel_rfl) ((p1.mem 0 rfl).cell 5 _ rfl) ?_
  refine Goes.runs 3 [(63, .int .i64 (x1v.L.length : Int)), (64, .bool (decide ((x1v.L.length : Int) = 1))), (65, .bool (decide ((x1v.L.length : Int) = 1)))] [.inRegion (opsOf (sub [1, 1, 1, 0, 1, 0, 1, 1, 1, 1, 1, 0, 1, 1, 0] B37)) [5, 6, 7, 8, 9, 10, 11, 12, 13, 14, 15, 16], .code (sub [1, 1, 1, 0, 1, 0, 1, 1, 1, 1, 1, 0, 1, 1, 1] B37), .inBlock 0, .code (sub [1, 1, 1, 1] B37)] (by kernel_rfl) ?_
  refine ite_some h (fun h23 h => ?_) (fun h23 h => ?_)
  · rw [decide_eq_true h23]
    refine Goes.runs 1 [(66, .pointer (some ⟨gx1, 1, none⟩))] [.inRegion (opsOf (sub [1, 1, 1, 0, 1, 0, 1, 1, 1, 1, 1, 0, 1, 1, 0] B37)) [6, 7, 8, 9, 10, 11, 12, 13, 14, 15, 16], .code (sub [1, 1, 1, 0, 1, 0, 1, 1, 1, 1, 1, 0, 1, 1, 1] B37), .inBlock 0, .code (sub [1, 1, 1, 1] B37)] (by kernel_rfl) ?_
    refine Op_.ldN 25 (.tmp 66) 67 25 ⟨gx1, 1, none⟩ [.int .u64 (gi x1v.Set 0), .int .u64 (gi x1v.Set 1), .int .u64 (gi x1v.Set 2), .int .u64 (gi x1v.Set 3)] (Goes.vs (by kernel_rfl)) (by kernel_rfl) (by kernel_rfl) (by kernel_rfl) (At_part (us := [.int .i64 x1v.Kind]) (vs := [.int .u64 (gi x1v.Set 0), .int .u64 (gi x1v.Set 1), .int .u64 (gi x1v.Set 2), .int .u64 (gi x1v.Set 3)]) (ws := [.slice Ax1v_2 x1v.L.length cx1v_2, .int .i64 x1v.Min, .int .i64 x1v.Max]) (p1.mem 0 rfl) 1 rfl) ?_
    refine Op_.ldN 25 (.tmp 3) 68 25 ⟨gx3, 0, none⟩ [.int .u64 (gi x3v_0 0), .int .u64 (gi x3v_0 1), .int .u64 (gi x3v_0 2), .int .u64 (gi x3v_0 3)] (Goes.vs (by kernel_rfl)) (by kernel_rfl) (by kernel_rfl) (by kernel_rfl) (At_part (us := []) (vs := [.int .u64 (gi x3v_0 0), .int .u64 (gi x3v_0 1), .int .u64 (gi x3v_0 2), .int .u64 (gi x3v_0 3)]) (ws := []) (p1.mem 1 rfl) 0 rfl) ?_
    refine Op_.eqA 25 (.tmp 67) (.tmp 68) 25 69 4 23 4 .u64 (us := ([.int .u64 (gi x1v.Set 0), .int .u64 (gi x1v.Set 1), .int .u64 (gi x1v.Set 2), .int .u64 (gi x1v.Set 3)] : List Value)) (vs := ([.int .u64 (gi x3v_0 0), .int .u64 (gi x3v_0 1), .int .u64 (gi x3v_0 2), .int .u64 (gi x3v_0 3)] : List Value)) (Goes.vs (by kernel_rfl)) (by kernel_rfl) (by kernel_rfl) (by kernel_rfl) (by kernel_rfl) (by kernel_rfl) (by kernel_rfl) (by kernel_rfl) (els_mk4 (S := S1) (w := w1) (k := .u64) lx1v_1) (els_mk4 (S := S1) (w := w1) (k := .u64) lx3v_0) (Els.len1 (els_mk4 (S := S1) (w := w1) (k := .u64) lx1v_1) rfl rfl) (Els.len1 (els_mk4 (S := S1) (w := w1) (k := .u64) lx3v_0) rfl rfl) ?_
    refine Goes.runs 2 [(70, .bool (decide (x1v.Set = x3v_0))), (71, .bool (decide (x1v.Set = x3v_0)))] [.inRegion (opsOf (sub [1, 1, 1, 0, 1, 0, 1, 1, 1, 1, 1, 0, 1, 1, 0] B37)) [11, 12, 13, 14, 15, 16], .code (sub [1, 1, 1, 0, 1, 0, 1, 1, 1, 1, 1, 0, 1, 1, 1] B37), .inBlock 0, .code (sub [1, 1, 1, 1] B37)] (by kernel_rfl) ?_
    refine ite_some h (fun h24 h => ?_) (fun h24 h => ?_)
    · rw [decide_eq_true h24]
      refine Goes.runs 3 [(72, .bool x5), (73, .bool x5), (74, .bool x5)] [.inRegion (opsOf (sub [1, 1, 1, 0, 1, 0, 1, 1, 1, 1, 1, 0, 1, 1, 0] B37)) [14, 15, 16], .code (sub [1, 1, 1, 0, 1, 0, 1, 1, 1, 1, 1, 0, 1, 1, 1] B37), .inBlock 0, .code (sub [1, 1, 1, 1] B37)] (by kernel_rfl) ?_
      refine ite_some h (fun h25 h => ?_) (fun h25 h => ?_)
      · rw [h25]
        refine Goes.runs 4 [(75, .bool x6), (76, .bool x6), (2, .bool x6)] [.code (sub [1, 1, 1, 0, 1, 0, 1, 1, 1, 1, 1, 0, 1, 1, 1] B37), .inBlock 0, .code (sub [1, 1, 1, 1] B37)] (by kernel_rfl) ?_
        obtain rfl := Option.some.inj h
        have p1 := (p1.front 0 _ rfl).drop
        have p1 := (p1.front 0 _ rfl).drop
        exact Goes.ret (fn := Try.f37) (by kernel_rfl) (v := .bool x6) (by kernel_rfl) ⟨S1, rfl, hx, p1⟩
      · have h25' : x5 = false := by simpa using h25
        rw [h25']
        refine Goes.runs 4 [(75, undef), (76, .bool false), (2, .bool false)] [.code (sub [1, 1, 1, 0, 1, 0, 1, 1, 1, 1, 1, 0, 1, 1, 1] B37), .inBlock 0, .code (sub [1, 1, 1, 1] B37)] (by kernel_rfl) ?_
        obtain rfl := Option.some.inj h
        have p1 := (p1.front 0 _ rfl).drop
        have p1 := (p1.front 0 _ rfl).drop
        exact Goes.ret (fn := Try.f37) (by kernel_rfl) (v := .bool false) (by kernel_rfl) ⟨S1, rfl, hx, p1⟩
    · rw [decide_eq_false h24]
      refine Goes.runs 7 [(72, undef), (73, .bool false), (74, .bool false), (75, undef), (76, .bool false), (2, .bool false)] [.code (sub [1, 1, 1, 0, 1, 0, 1, 1, 1, 1, 1, 0, 1, 1, 1] B37), .inBlock 0, .code (sub [1, 1, 1, 1] B37)] (by kernel_rfl) ?_
      obtain rfl := Option.some.inj h
      have p1 := (p1.front 0 _ rfl).drop
      have p1 := (p1.front 0 _ rfl).drop
      exact Goes.ret (fn := Try.f37) (by kernel_rfl) (v := .bool false) (by kernel_rfl) ⟨S1, rfl, hx, p1⟩
  · rw [decide_eq_false h23]
    refine Goes.runs 13 [(66, undef), (67, undef), (68, undef), (69, undef), (70, .bool false), (71, .bool false), (72, undef), (73, .bool false), (74, .bool false), (75, undef), (76, .bool false), (2, .bool false)] [.code (sub [1, 1, 1, 0, 1, 0, 1, 1, 1, 1, 1, 0, 1, 1, 1] B37), .inBlock 0, .code (sub [1, 1, 1, 1] B37)] (by kernel_rfl) ?_
    obtain rfl := Option.some.inj h
    have p1 := (p1.front 0 _ rfl).drop
    have p1 := (p1.front 0 _ rfl).drop
    exact Goes.ret (fn := Try.f37) (by kernel_rfl) (v := .bool false) (by kernel_rfl) ⟨S1, rfl, hx, p1⟩

/-! tidepole/syntax.shaped -/
def L.syntax_shaped_l2 (nz : Nat) (wz : World) (S0 : Fz) (w0 : World) (Lr : List Ent) : T27 × (List Int) × Bool → Bool → Prop := fun ⟨x1v, x3v_0, x5⟩ r => ∀ S1 w1, Ext S0 w0 S1 w1 → ∀ (gx1 : Nat) (Ax1v_2 : Option Addr) (nx1v_2 : Nat) (cx1v_2 : Nat) (gx3 : Nat) (_ : Hp nz wz S1 w1 ((some gx1, .row 28 [.int .i64 x1v.Kind, .int .u64 (gi x1v.Set 0), .int .u64 (gi x1v.Set 1), .int .u64 (gi x1v.Set 2), .int .u64 (gi x1v.Set 3), .slice Ax1v_2 nx1v_2 cx1v_2, .int .i64 x1v.Min, .int .i64 x1v.Max] 8 0) :: (some gx3, .row 25 [.int .u64 (gi x3v_0 0), .int .u64 (gi x3v_0 1), .int .u64 (gi x3v_0 2), .int .u64 (gi x3v_0 3)] 4 0) :: Lr)) (_ : x1v.Set.length = 4) (_ : Rd kT27 S1 w1 Ax1v_2 cx1v_2 x1v.L) (_ : x1v.L.length = nx1v_2) (_ : x3v_0.length = 4) (junk : Nat → Value),
  Goes Try.prog (base 37) [.code (sub [1, 1, 1, 0, 1, 0, 1, 1, 1, 1, 1, 0, 1] B37), .inBlock 0, .code (sub [1, 1, 1, 1] B37)] ⟨lfr 77 [(1, .pointer (some ⟨gx1, 0, none⟩)), (3, .pointer (some ⟨gx3, 0, none⟩)), (5, .bool x5)] junk, []⟩ w1 (Done Try.prog 37 (Rets (Post.syntax_shaped nz wz S0 w0 Lr r)))

theorem W.syntax_shaped_l2 (nz : Nat) (wz : World) (S0 : Fz) (w0 : World) (Lr : List Ent) : ∀ a r, M.syntax_shaped_l2 a = some r → L.syntax_shaped_l2 nz wz S0 w0 Lr a r := by
  intro ⟨x1v, x3v_0, x5⟩ r h S1 w1 hx gx1 Ax1v_2 nx1v_2 cx1v_2 gx3 p1 lx1v_1 fx1v_2 lx1v_2 lx3v_0 junk
  rw [M.syntax_shaped_l2] at h
  try dsimp only at h
  subst lx1v_2
  refine Goes.runs 3 [(46, .pointer (some ⟨gx1, 7, none⟩))] [.inRegion (opsOf (sub [1, 1, 1, 0, 1, 0, 1, 1, 1, 1, 1, 0, 1, 0] B37)) [1, 2, 3, 4, 5, 6, 7, 8, 9, 10, 11, 12, 13, 14, 15], .code (sub [1, 1, 1, 0, 1, 0, 1, 1, 1, 1, 1, 0, 1, 1] B37), .inBlock 0, .code (sub [1, 1, 1, 1] B37)] (by kernel_rfl) ?_
  refine Op_.ld1 3 (.tmp 46) 47 3 ⟨gx1, 7, none⟩ (.int .i64 x1v.Max) (Goes.vs (by kernel_rfl)) (by kernel_rfl) (by kernel_rfl) ((p1.mem 0 rfl).cell 7 _ rfl) ?_
  refine Goes.runs 2 [(48, .bool (decide (x1v.Max = (-1)))), (49, .bool (decide (x1v.Max = (-1))))] [.inRegion (opsOf (sub [1, 1, 1, 0, 1, 0, 1, 1, 1, 1, 1, 0, 1, 0] B37)) [4, 5, 6, 7, 8, 9, 10, 11, 12, 13, 14, 15], .code (sub [1, 1, 1, 0, 1, 0, 1, 1, 1, 1, 1, 0, 1, 1] B37), .inBlock 0, .code (sub [1, 1, 1, 1] B37)] (by kernel_rfl) ?_
  refine ite_some h (fun h19 h => ?_) (fun h19 h => ?_)
  · rw [decide_eq_true h19]
    refine Goes.runs 13 [(50, undef), (51, undef), (52, undef), (53, undef), (54, undef), (55, undef), (56, undef), (57, undef), (58, undef), (59, undef), (60, .bool true), (6, .bool true)] [.code (sub [1, 1, 1, 0, 1, 0, 1, 1, 1, 1, 1, 0, 1, 1] B37), .inBlock 0, .code (sub [1, 1, 1, 1] B37)] (by kernel_rfl) ?_
    exact Goes.jump 77 [(1, .pointer (some ⟨gx1, 0, none⟩)), (3, .pointer (some ⟨gx3, 0, none⟩)), (5, .bool x5), (6, .bool true)] (by kernel_rfl) (W.syntax_shaped_l3 nz wz S0 w0 Lr _ _ h _ _ hx gx1 Ax1v_2 x1v.L.length cx1v_2 gx3 p1 lx1v_1 fx1v_2 rfl lx3v_0)
  · rw [decide_eq_false h19]
    refine Goes.runs 1 [(50, .pointer (some ⟨gx1, 7, none⟩))] [.inRegion (opsOf (sub [1, 1, 1, 0, 1, 0, 1, 1, 1, 1, 1, 0, 1, 0] B37)) [5, 6, 7, 8, 9, 10, 11, 12, 13, 14, 15], .code (sub [1, 1, 1, 0, 1, 0, 1, 1, 1, 1, 1, 0, 1, 1] B37), .inBlock 0, .code (sub [1, 1, 1, 1] B37)] (by kernel_rfl) ?_
    refine Op_.ld1 3 (.tmp 50) 51 3 ⟨gx1, 7, none⟩ (.int .i64 x1v.Max) (Goes.vs (by kernel_rfl)) (by kernel_rfl) (by kernel_rfl) ((p1.mem 0 rfl).cell 7 _ rfl) ?_
    refine Goes.runs 1 [(52, .pointer (some ⟨gx1, 6, none⟩))] [.inRegion (opsOf (sub [1, 1, 1, 0, 1, 0, 1, 1, 1, 1, 1, 0, 1, 0] B37)) [7, 8, 9, 10, 11, 12, 13, 14, 15], .code (sub [1, 1, 1, 0, 1, 0, 1, 1, 1, 1, 1, 0, 1, 1] B37), .inBlock 0, .code (sub [1, 1, 1, 1] B37)] (by kernel_rfl) ?_
    refine Op_.ld1 3 (.tmp 52) 53 3 ⟨gx1, 6, none⟩ (.int .i64 x1v.Min) (Goes.vs (by kernel_rfl)) (by kernel_rfl) (by kernel_rfl) ((p1.mem 0 rfl).cell 6 _ rfl) ?_
    refine Goes.runs 2 [(54, .bool (decide (x1v.Max ≥ x1v.Min))), (55, .bool (decide (x1v.Max ≥ x1v.Min)))] [.inRegion (opsOf (sub [1, 1, 1, 0, 1, 0, 1, 1, 1, 1, 1, 0, 1, 0] B37)) [10, 11, 12, 13, 14, 15], .code (sub [1, 1, 1, 0, 1, 0, 1, 1, 1, 1, 1, 0, 1, 1] B37), .inBlock 0, .code (sub [1, 1, 1, 1] B37)] (by kernel_rfl) ?_
    refine ite_some h (fun h22 h => ?_) (fun h22 h => ?_)
    · rw [decide_eq_true h22]
      refine Goes.runs 1 [(56, .pointer (some ⟨gx1, 7, none⟩))] [.inRegion (opsOf (sub [1, 1, 1, 0, 1, 0, 1, 1, 1, 1, 1, 0, 1, 0] B37)) [11, 12, 13, 14, 15], .code (sub [1, 1, 1, 0, 1, 0, 1, 1, 1, 1, 1, 0, 1, 1] B37), .inBlock 0, .code (sub [1, 1, 1, 1] B37)] (by kernel_rfl) ?_
      refine Op_.ld1 3 (.tmp 56) 57 3 ⟨gx1, 7, none⟩ (.int .i64 x1v.Max) (Goes.vs (by kernel_rfl)) (by kernel_rfl) (by kernel_rfl) ((p1.mem 0 rfl).cell 7 _ rfl) ?_
      refine Goes.runs 5 [(58, .bool (decide (x1v.Max ≤ 64))), (59, .bool (decide (x1v.Max ≤ 64))), (60, .bool (decide (x1v.Max ≤ 64))), (6, .bool (decide (x1v.Max ≤ 64)))] [.code (sub [1, 1, 1, 0, 1, 0, 1, 1, 1, 1, 1, 0, 1, 1] B37), .inBlock 0, .code (sub [1, 1, 1, 1] B37)] (by kernel_rfl) ?_
      exact Goes.jump 77 [(1, .pointer (some ⟨gx1, 0, none⟩)), (3, .pointer (some ⟨gx3, 0, none⟩)), (5, .bool x5), (6, .bool (decide (x1v.Max ≤ 64)))] (by kernel_rfl) (W.syntax_shaped_l3 nz wz S0 w0 Lr _ _ h _ _ hx gx1 Ax1v_2 x1v.L.length cx1v_2 gx3 p1 lx1v_1 fx1v_2 rfl lx3v_0)
    · rw [decide_eq_false h22]
      refine Goes.runs 7 [(56, undef), (57, undef), (58, undef), (59, .bool false), (60, .bool false), (6, .bool false)] [.code (sub [1, 1, 1, 0, 1, 0, 1, 1, 1, 1, 1, 0, 1, 1] B37), .inBlock 0, .code (sub [1, 1, 1, 1] B37)] (by kernel_rfl) ?_
      exact Goes.jump 77 [(1, .pointer (some ⟨gx1, 0, none⟩)), (3, .pointer (some ⟨gx3, 0, none⟩)), (5, .bool x5), (6, .bool false)] (by kernel_rfl) (W.syntax_shaped_l3 nz wz S0 w0 Lr _ _ h _ _ hx gx1 Ax1v_2 x1v.L.length cx1v_2 gx3 p1 lx1v_1 fx1v_2 rfl lx3v_0)

/-! tidepole/syntax.shaped -/
def L.syntax_shaped_l1 (nz : Nat) (wz : World) (S0 : Fz) (w0 : World) (Lr : List Ent) : T27 × (List Int) × Bool × Int × Bool → Bool → Prop := fun ⟨x1v, x3v_0, x4, x16, x26⟩ r => ∀ S1 w1, Ext S0 w0 S1 w1 → ∀ (gx1 : Nat) (Ax1v_2 : Option Addr) (nx1v_2 : Nat) (cx1v_2 : Nat) (gx3 : Nat) (_ : Hp nz wz S1 w1 ((some gx1, .row 28 [.int .i64 x1v.Kind, .int .u64 (gi x1v.Set 0), .int .u64 (gi x1v.Set 1), .int .u64 (gi x1v.Set 2), .int .u64 (gi x1v.Set 3), .slice Ax1v_2 nx1v_2 cx1v_2, .int .i64 x1v.Min, .int .i64 x1v.Max] 8 0) :: (some gx3, .row 25 [.int .u64 (gi x3v_0 0), .int .u64 (gi x3v_0 1), .int .u64 (gi x3v_0 2), .int .u64 (gi x3v_0 3)] 4 0) :: Lr)) (_ : x1v.Set.length = 4) (_ : Rd kT27 S1 w1 Ax1v_2 cx1v_2 x1v.L) (_ : x1v.L.length = nx1v_2) (_ : x3v_0.length = 4) (junk : Nat → Value),
  Goes Try.prog (base 37) [.code (sub [1, 1, 1, 0, 1, 0, 1, 1, 1] B37), .inBlock 0, .code (sub [1, 1, 1, 1] B37)] ⟨lfr 77 [(1, .pointer (some ⟨gx1, 0, none⟩)), (3, .pointer (some ⟨gx3, 0, none⟩)), (4, .bool x4), (16, .int .i64 x16), (26, .bool x26)] junk, []⟩ w1 (Done Try.prog 37 (Rets (Post.syntax_shaped nz wz S0 w0 Lr r)))

theorem W.syntax_shaped_l1 (nz : Nat) (wz : World) (S0 : Fz) (w0 : World) (Lr : List Ent) : ∀ a r, M.syntax_shaped_l1 a = some r → L.syntax_shaped_l1 nz wz S0 w0 Lr a r := by
  intro ⟨x1v, x3v_0, x4, x16, x26⟩ r h S1 w1 hx gx1 Ax1v_2 nx1v_2 cx1v_2 gx3 p1 lx1v_1 fx1v_2 lx1v_2 lx3v_0 junk
  rw [M.syntax_shaped_l1] at h
  try dsimp only at h
  subst lx1v_2
  refine ite_some h (fun h13 h => ?_) (fun h13 h => ?_)
  · rw [h13]
    refine Goes.runs 4 [(29, .pointer (some ⟨gx1, 1, none⟩))] [.inRegion (opsOf (sub [1, 1, 1, 0, 1, 0, 1, 1, 1, 0, 0] B37)) [1, 2, 3, 4, 5, 6, 7], .code (sub [1, 1, 1, 0, 1, 0, 1, 1, 1, 0, 1] B37), .inBlock 0, .code (sub [1, 1, 1, 1] B37)] (by kernel_rfl) ?_
    refine Op_.ldN 25 (.tmp 29) 30 25 ⟨gx1, 1, none⟩ [.int .u64 (gi x1v.Set 0), .int .u64 (gi x1v.Set 1), .int .u64 (gi x1v.Set 2), .int .u64 (gi x1v.Set 3)] (Goes.vs (by kernel_rfl)) (by kernel_rfl) (by kernel_rfl) (by kernel_rfl) (At_part (us := [.int .i64 x1v.Kind]) (vs := [.int .u64 (gi x1v.Set 0), .int .u64 (gi x1v.Set 1), .int .u64 (gi x1v.Set 2), .int .u64 (gi x1v.Set 3)]) (ws := [.slice Ax1v_2 x1v.L.length cx1v_2, .int .i64 x1v.Min, .int .i64 x1v.Max]) (p1.mem 0 rfl) 1 rfl) ?_
    refine Op_.ldN 25 (.tmp 3) 31 25 ⟨gx3, 0, none⟩ [.int .u64 (gi x3v_0 0), .int .u64 (gi x3v_0 1), .int .u64 (gi x3v_0 2), .int .u64 (gi x3v_0 3)] (Goes.vs (by kernel_rfl)) (by kernel_rfl) (by kernel_rfl) (by kernel_rfl) (At_part (us := []) (vs := [.int .u64 (gi x3v_0 0), .int .u64 (gi x3v_0 1), .int .u64 (gi x3v_0 2), .int .u64 (gi x3v_0 3)]) (ws := []) (p1.mem 1 rfl) 0 rfl) ?_
    refine Op_.eqA 25 (.tmp 30) (.tmp 31) 25 32 4 23 4 .u64 (us := ([.int .u64 (gi x1v.Set 0), .int .u64 (gi x1v.Set 1), .int .u64 (gi x1v.Set 2), .int .u64 (gi x1v.Set 3)] : List Value)) (vs := ([.int .u64 (gi x3v_0 0), .int .u64 (gi x3v_0 1), .int .u64 (gi x3v_0 2), .int .u64 (gi x3v_0 3)] : List Value)) (Goes.vs (by kernel_rfl)) (by kernel_rfl) (by kernel_rfl) (by kernel_rfl) (by kernel_rfl) (by kernel_rfl) (by kernel_rfl) (by kernel_rfl) (els_mk4 (S := S1) (w := w1) (k := .u64) lx1v_1) (els_mk4 (S := S1) (w := w1) (k := .u64) lx3v_0) (Els.len1 (els_mk4 (S := S1) (w := w1) (k := .u64) lx1v_1) rfl rfl) (Els.len1 (els_mk4 (S := S1) (w := w1) (k := .u64) lx3v_0) rfl rfl) ?_
    refine Goes.runs 1 [(33, .bool (decide (x1v.Set = x3v_0)))] [.inRegion (opsOf (sub [1, 1, 1, 0, 1, 0, 1, 1, 1, 0, 0] B37)) [5, 6, 7], .code (sub [1, 1, 1, 0, 1, 0, 1, 1, 1, 0, 1] B37), .inBlock 0, .code (sub [1, 1, 1, 1] B37)] (by kernel_rfl) ?_
    refine ite_some h (fun h14 h => ?_) (fun h14 h => ?_)
    · rw [decide_eq_true h14]
      refine Goes.runs 4 [(34, .bool x4), (35, .bool x4), (2, .bool x4)] [.code (sub [1, 1, 1, 0, 1, 0, 1, 1, 1, 0, 1] B37), .inBlock 0, .code (sub [1, 1, 1, 1] B37)] (by kernel_rfl) ?_
      obtain rfl := Option.some.inj h
      have p1 := (p1.front 0 _ rfl).drop
      have p1 := (p1.front 0 _ rfl).drop
      exact Goes.ret (fn := Try.f37) (by kernel_rfl) (v := .bool x4) (by kernel_rfl) ⟨S1, rfl, hx, p1⟩
    · rw [decide_eq_false h14]
      refine Goes.runs 4 [(34, undef), (35, .bool false), (2, .bool false)] [.code (sub [1, 1, 1, 0, 1, 0, 1, 1, 1, 0, 1] B37), .inBlock 0, .code (sub [1, 1, 1, 1] B37)] (by kernel_rfl) ?_
      obtain rfl := Option.some.inj h
      have p1 := (p1.front 0 _ rfl).drop
      have p1 := (p1.front 0 _ rfl).drop
      exact Goes.ret (fn := Try.f37) (by kernel_rfl) (v := .bool false) (by kernel_rfl) ⟨S1, rfl, hx, p1⟩
  · have h13' : x26 = false := by simpa using h13
    rw [h13']
    refine Goes.runs 6 [(37, .bool (decide (x16 = 4))), (36, .bool (decide (x16 = 4)))] [.code (sub [1, 1, 1, 0, 1, 0, 1, 1, 1, 1, 1] B37), .inBlock 0, .code (sub [1, 1, 1, 1] B37)] (by kernel_rfl) ?_
    refine ite_some h (fun h15 h => ?_) (fun h15 h => ?_)
    · rw [decide_eq_true h15]
      refine Goes.runs 4 [(38, .pointer (some ⟨gx1, 6, none⟩))] [.inRegion (opsOf (sub [1, 1, 1, 0, 1, 0, 1, 1, 1, 1, 1, 0, 0] B37)) [1, 2, 3, 4, 5, 6, 7, 8], .code (sub [1, 1, 1, 0, 1, 0, 1, 1, 1, 1, 1, 0, 1] B37), .inBlock 0, .code (sub [1, 1, 1, 1] B37)] (by kernel_rfl) ?_
      refine Op_.ld1 3 (.tmp 38) 39 3 ⟨gx1, 6, none⟩ (.int .i64 x1v.Min) (Goes.vs (by kernel_rfl)) (by kernel_rfl) (by kernel_rfl) ((p1.mem 0 rfl).cell 6 _ rfl) ?_
      refine Goes.runs 2 [(40, .bool (decide (x1v.Min ≥ 0))), (41, .bool (decide (x1v.Min ≥ 0)))] [.inRegion (opsOf (sub [1, 1, 1, 0, 1, 0, 1, 1, 1, 1, 1, 0, 0] B37)) [4, 5, 6, 7, 8], .code (sub [1, 1, 1, 0, 1, 0, 1, 1, 1, 1, 1, 0, 1] B37), .inBlock 0, .code (sub [1, 1, 1, 1] B37)] (by kernel_rfl) ?_
      refine ite_some h (fun h16 h => ?_) (fun h16 h => ?_)
      · rw [decide_eq_true h16]
        refine Goes.runs 1 [(42, .pointer (some ⟨gx1, 6, none⟩))] [.inRegion (opsOf (sub [1, 1, 1, 0, 1, 0, 1, 1, 1, 1, 1, 0, 0] B37)) [5, 6, 7, 8], .code (sub [1, 1, 1, 0, 1, 0, 1, 1, 1, 1, 1, 0, 1] B37), .inBlock 0, .code (sub [1, 1, 1, 1] B37)] (by kernel_rfl) ?_
        refine Op_.ld1 3 (.tmp 42) 43 3 ⟨gx1, 6, none⟩ (.int .i64 x1v.Min) (Goes.vs (by kernel_rfl)) (by kernel_rfl) (by kernel_rfl) ((p1.mem 0 rfl).cell 6 _ rfl) ?_
        refine Goes.runs 4 [(44, .bool (decide (x1v.Min ≤ 64))), (45, .bool (decide (x1v.Min ≤ 64))), (5, .bool (decide (x1v.Min ≤ 64)))] [.code (sub [1, 1, 1, 0, 1, 0, 1, 1, 1, 1, 1, 0, 1] B37), .inBlock 0, .code (sub [1, 1, 1, 1] B37)] (by kernel_rfl) ?_
        exact Goes.jump 77 [(1, .pointer (some ⟨gx1, 0, none⟩)), (3, .pointer (some ⟨gx3, 0, none⟩)), (5, .bool (decide (x1v.Min ≤ 64)))] (by kernel_rfl) (W.syntax_shaped_l2 nz wz S0 w0 Lr _ _ h _ _ hx gx1 Ax1v_2 x1v.L.length cx1v_2 gx3 p1 lx1v_1 fx1v_2 rfl lx3v_0)
      · rw [decide_eq_false h16]
        refine Goes.runs 6 [(42, undef), (43, undef), (44, undef), (45, .bool false), (5, .bool false)] [.code (sub [1, 1, 1, 0, 1, 0, 1, 1, 1, 1, 1, 0, 1] B37), .inBlock 0, .code (sub [1, 1, 1, 1] B37)] (by kernel_rfl) ?_
        exact Goes.jump 77 [(1, .pointer (some ⟨gx1, 0, none⟩)), (3, .pointer (some ⟨gx3, 0, none⟩)), (5, .bool false)] (by kernel_rfl) (W.syntax_shaped_l2 nz wz S0 w0 Lr _ _ h _ _ hx gx1 Ax1v_2 x1v.L.length cx1v_2 gx3 p1 lx1v_1 fx1v_2 rfl lx3v_0)
    · rw [decide_eq_false h15]
      refine Goes.runs 7 [(2, .bool false)] [.code (sub [1, 1, 1, 1, 1] B37)] (by kernel_rfl) ?_
      obtain rfl := Option.some.inj h
      have p1 := (p1.front 0 _ rfl).drop
      have p1 := (p1.front 0 _ rfl).drop
      exact Goes.ret (fn := Try.f37) (by kernel_rfl) (v := .bool false) (by kernel_rfl) ⟨S1, rfl, hx, p1⟩

/-! tidepole/syntax.shaped -/
def L.syntax_shaped_l0 (nz : Nat) (wz : World) (S0 : Fz) (w0 : World) (Lr : List Ent) : T27 × (List Int) × Bool → Bool → Prop := fun ⟨x1v, x3v_0, x4⟩ r => ∀ S1 w1, Ext S0 w0 S1 w1 → ∀ (gx1 : Nat) (Ax1v_2 : Option Addr) (nx1v_2 : Nat) (cx1v_2 : Nat) (gx3 : Nat) (_ : Hp nz wz S1 w1 ((some gx1, .row 28 [.int .i64 x1v.Kind, .int .u64 (gi x1v.Set 0), .int .u64 (gi x1v.Set 1), .int .u64 (gi x1v.Set 2), .int .u64 (gi x1v.Set 3), .slice Ax1v_2 nx1v_2 cx1v_2, .int .i64 x1v.Min, .int .i64 x1v.Max] 8 0) :: (some gx3, .row 25 [.int .u64 (gi x3v_0 0), .int .u64 (gi x3v_0 1), .int .u64 (gi x3v_0 2), .int .u64 (gi x3v_0 3)] 4 0) :: Lr)) (_ : x1v.Set.length = 4) (_ : Rd kT27 S1 w1 Ax1v_2 cx1v_2 x1v.L) (_ : x1v.L.length = nx1v_2) (_ : x3v_0.length = 4) (junk : Nat → Value),
  Goes Try.prog (base 37) [.code (sub [1, 1, 1] B37)] ⟨lfr 77 [(1, .pointer (some ⟨gx1, 0, none⟩)), (3, .pointer (some ⟨gx3, 0, none⟩)), (4, .bool x4)] junk, []⟩ w1 (Done Try.prog 37 (Rets (Post.syntax_shaped nz wz S0 w0 Lr r)))

theorem W.syntax_shaped_l0 (nz : Nat) (wz : World) (S0 : Fz) (w0 : World) (Lr : List Ent) : ∀ a r, M.syntax_shaped_l0 a = some r → L.syntax_shaped_l0 nz wz S0 w0 Lr a r := by
  intro ⟨x1v, x3v_0, x4⟩ r h S1 w1 hx gx1 Ax1v_2 nx1v_2 cx1v_2 gx3 p1 lx1v_1 fx1v_2 lx1v_2 lx3v_0 junk
  rw [M.syntax_shaped_l0] at h
  try dsimp only at h
  subst lx1v_2
  refine Goes.runs 4 [(15, .pointer (some ⟨gx1, 0, none⟩))] [.inRegion (opsOf (sub [1, 1, 1, 0, 0] B37)) [1], .code (sub [1, 1, 1, 0, 1] B37), .code (sub [1, 1, 1, 1] B37)] (by kernel_rfl) ?_
  refine Op_.ld1 3 (.tmp 15) 16 3 ⟨gx1, 0, none⟩ (.int .i64 x1v.Kind) (Goes.vs (by kernel_rfl)) (by kernel_rfl) (by kernel_rfl) ((p1.mem 0 rfl).cell 0 _ rfl) ?_
  refine Goes.runs 7 [(18, .bool (decide (x1v.Kind = 1))), (17, .bool (decide (x1v.Kind = 1)))] [.code (sub [1, 1, 1, 0, 1, 0, 1] B37), .inBlock 0, .code (sub [1, 1, 1, 1] B37)] (by kernel_rfl) ?_
  refine ite_some h (fun h8 h => ?_) (fun h8 h => ?_)
  · rw [decide_eq_true h8]
    refine Goes.runs 4 [(19, .pointer (some ⟨gx1, 5, none⟩))] [.inRegion (opsOf (sub [1, 1, 1, 0, 1, 0, 1, 0, 0] B37)) [1, 2, 3, 4, 5, 6, 7], .code (sub [1, 1, 1, 0, 1, 0, 1, 0, 1] B37), .inBlock 0, .code (sub [1, 1, 1, 1] B37)] (by kernel_rfl) ?_
    refine Op_.ld1 26 (.tmp 19) 20 26 ⟨gx1, 5, none⟩ (.slice Ax1v_2 x1v.L.length cx1v_2) (Goes.vs (by kernel_rfl)) (by kernel_rfl) (by kernel_rfl) ((p1.mem 0 rfl).cell 5 _ rfl) ?_
    refine Goes.runs 3 [(21, .int .i64 (x1v.L.length : Int)), (22, .bool (decide ((x1v.L.length : Int) = 0))), (23, .bool (decide ((x1v.L.length : Int) = 0)))] [.inRegion (opsOf (sub [1, 1, 1, 0, 1, 0, 1, 0, 0] B37)) [5, 6, 7], .code (sub [1, 1, 1, 0, 1, 0, 1, 0, 1] B37), .inBlock 0, .code (sub [1, 1, 1, 1] B37)] (by kernel_rfl) ?_
    refine ite_some h (fun h9 h => ?_) (fun h9 h => ?_)
    · rw [decide_eq_true h9]
      refine Goes.runs 4 [(24, .bool x4), (25, .bool x4), (2, .bool x4)] [.code (sub [1, 1, 1, 0, 1, 0, 1, 0, 1] B37), .inBlock 0, .code (sub [1, 1, 1, 1] B37)] (by kernel_rfl) ?_
      obtain rfl := Option.some.inj h
      have p1 := (p1.front 0 _ rfl).drop
      have p1 := (p1.front 0 _ rfl).drop
      exact Goes.ret (fn := Try.f37) (by kernel_rfl) (v := .bool x4) (by kernel_rfl) ⟨S1, rfl, hx, p1⟩
    · rw [decide_eq_false h9]
      refine Goes.runs 4 [(24, undef), (25, .bool false), (2, .bool false)] [.code (sub [1, 1, 1, 0, 1, 0, 1, 0, 1] B37), .inBlock 0, .code (sub [1, 1, 1, 1] B37)] (by kernel_rfl) ?_
      obtain rfl := Option.some.inj h
      have p1 := (p1.front 0 _ rfl).drop
      have p1 := (p1.front 0 _ rfl).drop
      exact Goes.ret (fn := Try.f37) (by kernel_rfl) (v := .bool false) (by kernel_rfl) ⟨S1, rfl, hx, p1⟩
  · rw [decide_eq_false h8]
    refine Goes.runs 7 [(27, .bool (decide (x1v.Kind = 2))), (26, .bool (decide (x1v.Kind = 2)))] [.code (sub [1, 1, 1, 0, 1, 0, 1, 1, 0, 1] B37), .code (sub [1, 1, 1, 0, 1, 0, 1, 1, 1] B37), .inBlock 0, .code (sub [1, 1, 1, 1] B37)] (by kernel_rfl) ?_
    refine ite_some h (fun h10 h => ?_) (fun h10 h => ?_)
    · rw [decide_eq_true h10]
      refine Goes.runs 2 [] [.code (sub [1, 1, 1, 0, 1, 0, 1, 1, 1] B37), .inBlock 0, .code (sub [1, 1, 1, 1] B37)] (by kernel_rfl) ?_
      exact Goes.jump 77 [(1, .pointer (some ⟨gx1, 0, none⟩)), (3, .pointer (some ⟨gx3, 0, none⟩)), (4, .bool x4), (16, .int .i64 x1v.Kind), (26, .bool true)] (by kernel_rfl) (W.syntax_shaped_l1 nz wz S0 w0 Lr _ _ h _ _ hx gx1 Ax1v_2 x1v.L.length cx1v_2 gx3 p1 lx1v_1 fx1v_2 rfl lx3v_0)
    · rw [decide_eq_false h10]
      refine Goes.runs 5 [(28, .bool (decide (x1v.Kind = 3))), (26, .bool (decide (x1v.Kind = 3)))] [.code (sub [1, 1, 1, 0, 1, 0, 1, 1, 1] B37), .inBlock 0, .code (sub [1, 1, 1, 1] B37)] (by kernel_rfl) ?_
      exact Goes.jump 77 [(1, .pointer (some ⟨gx1, 0, none⟩)), (3, .pointer (some ⟨gx3, 0, none⟩)), (4, .bool x4), (16, .int .i64 x1v.Kind), (26, .bool (decide (x1v.Kind = 3)))] (by kernel_rfl) (W.syntax_shaped_l1 nz wz S0 w0 Lr _ _ h _ _ hx gx1 Ax1v_2 x1v.L.length cx1v_2 gx3 p1 lx1v_1 fx1v_2 rfl lx3v_0)

/-! tidepole/syntax.shaped -/
theorem W.syntax_shaped (x0 : T27) (r : Bool) (h : M.syntax_shaped x0 = some r) (nz : Nat) (wz : World) (S0 : Fz) (w0 : World) (Lr : List Ent) (Ax0_2 : Option Addr) (nx0_2 : Nat) (cx0_2 : Nat) (p0 : Hp nz wz S0 w0 (Lr)) (lx0_1 : x0.Set.length = 4) (fx0_2 : Rd kT27 S0 w0 Ax0_2 cx0_2 x0.L) (lx0_2 : x0.L.length = nx0_2) :
    Calls Try.prog 37 #[.agg #[.int .i64 x0.Kind, .int .u64 (gi x0.Set 0), .int .u64 (gi x0.Set 1), .int .u64 (gi x0.Set 2), .int .u64 (gi x0.Set 3), .slice Ax0_2 nx0_2 cx0_2, .int .i64 x0.Min, .int .i64 x0.Max]] w0 (Rets (Post.syntax_shaped nz wz S0 w0 Lr r)) := by
  subst lx0_2
  refine calls_of_goes (fn := Try.f37) (c := B37) (by kernel_rfl) (by kernel_rfl) 76 (by kernel_rfl) ?_
  refine Goes.jump 77 [(0, .agg #[.int .i64 x0.Kind, .int .u64 (gi x0.Set 0), .int .u64 (gi x0.Set 1), .int .u64 (gi x0.Set 2), .int .u64 (gi x0.Set 3), .slice Ax0_2 x0.L.length cx0_2, .int .i64 x0.Min, .int .i64 x0.Max])] (by kernel_rfl) (fun junk => ?_)
  delta M.syntax_shaped at h
  refine Goes.runs 2 [] [.inRegion (opsOf (sub [0] B37)) [0, 1], .code (sub [1] B37)] (by kernel_rfl) ?_
  refine Op_.box 28 (.tmp 0) 1 0 (.agg #[.int .i64 x0.Kind, .int .u64 (gi x0.Set 0), .int .u64 (gi x0.Set 1), .int .u64 (gi x0.Set 2), .int .u64 (gi x0.Set 3), .slice Ax0_2 x0.L.length cx0_2, .int .i64 x0.Min, .int .i64 x0.Max]) [.int .i64 x0.Kind, .int .u64 (gi x0.Set 0), .int .u64 (gi x0.Set 1), .int .u64 (gi x0.Set 2), .int .u64 (gi x0.Set 3), .slice Ax0_2 x0.L.length cx0_2, .int .i64 x0.Min, .int .i64 x0.Max] p0 (Goes.vs (by kernel_rfl)) (by kernel_rfl) (by kernel_rfl) ?_
  intro b1 w2 z2 p2
  refine Goes.runs 4 [(2, .bool false)] [.inRegion (opsOf (sub [1, 0] B37)) [0], .code (sub [1, 1] B37)] (by kernel_rfl) ?_
  refine Op_.alloc 25 3 0 (.agg #[.int .u64 0, .int .u64 0, .int .u64 0, .int .u64 0]) [.int .u64 0, .int .u64 0, .int .u64 0, .int .u64 0] p2 (Goes.vs (by kernel_rfl)) (by kernel_rfl) (by kernel_rfl) ?_
  intro b3 w3 z3 p3
  refine Goes.runs 4 [(7, .pointer (some ⟨b1, 6, none⟩))] [.inRegion (opsOf (sub [1, 1, 0] B37)) [1, 2, 3, 4, 5, 6, 7, 8], .code (sub [1, 1, 1] B37)] (by kernel_rfl) ?_
  refine Op_.ld1 3 (.tmp 7) 8 3 ⟨b1, 6, none⟩ (.int .i64 x0.Min) (Goes.vs (by kernel_rfl)) (by kernel_rfl) (by kernel_rfl) ((p3.mem 1 rfl).cell 6 _ rfl) ?_
  refine Goes.runs 2 [(9, .bool (decide (x0.Min = 0))), (10, .bool (decide (x0.Min = 0)))] [.inRegion (opsOf (sub [1, 1, 0] B37)) [4, 5, 6, 7, 8], .code (sub [1, 1, 1] B37)] (by kernel_rfl) ?_
  refine ite_some h (fun h5 h => ?_) (fun h5 h => ?_)
  · rw [decide_eq_true h5]
    refine Goes.runs 1 [(11, .pointer (some ⟨b1, 7, none⟩))] [.inRegion (opsOf (sub [1, 1, 0] B37)) [5, 6, 7, 8], .code (sub [1, 1, 1] B37)] (by kernel_rfl) ?_
    refine Op_.ld1 3 (.tmp 11) 12 3 ⟨b1, 7, none⟩ (.int .i64 x0.Max) (Goes.vs (by kernel_rfl)) (by kernel_rfl) (by kernel_rfl) ((p3.mem 1 rfl).cell 7 _ rfl) ?_
    refine Goes.runs 4 [(13, .bool (decide (x0.Max = 0))), (14, .bool (decide (x0.Max = 0))), (4, .bool (decide (x0.Max = 0)))] [.code (sub [1, 1, 1] B37)] (by kernel_rfl) ?_
    have p3 := p3.front 0 _ rfl
    have p3 := p3.front 1 _ rfl
    exact Goes.jump 77 [(1, .pointer (some ⟨b1, 0, none⟩)), (3, .pointer (some ⟨b3, 0, none⟩)), (4, .bool (decide (x0.Max = 0)))] (by kernel_rfl) (W.syntax_shaped_l0 nz wz S0 w0 Lr _ _ h _ _ (((Ext.refl S0 w0).trans z2).trans z3) b1 Ax0_2 x0.L.length cx0_2 b3 p3 lx0_1 (fx0_2.ext (z2.trans z3)) rfl rfl)
  · rw [decide_eq_false h5]
    refine Goes.runs 6 [(11, undef), (12, undef), (13, undef), (14, .bool false), (4, .bool false)] [.code (sub [1, 1, 1] B37)] (by kernel_rfl) ?_
    have p3 := p3.front 0 _ rfl
    have p3 := p3.front 1 _ rfl
    exact Goes.jump 77 [(1, .pointer (some ⟨b1, 0, none⟩)), (3, .pointer (some ⟨b3, 0, none⟩)), (4, .bool false)] (by kernel_rfl) (W.syntax_shaped_l0 nz wz S0 w0 Lr _ _ h _ _ (((Ext.refl S0 w0).trans z2).trans z3) b1 Ax0_2 x0.L.length cx0_2 b3 p3 lx0_1 (fx0_2.ext (z2.trans z3)) rfl rfl)

/-! tidepole/syntax.right -/
def Post.syntax_right (nz : Nat) (wz : World) (S0 : Fz) (w0 : World) (Lr : List Ent) (r : Bool) (v : Value) (w' : World) : Prop :=
  ∃ (S' : Fz), v = .bool r ∧ Ext S0 w0 S' w' ∧ Hp nz wz S' w' (Lr)

def LF.syntax_right : T27 → Bool → Prop := fun x0 r => ∀ (nz : Nat) (wz : World) (S0 : Fz) (w0 : World) (Lr : List Ent) (Ax0_2 : Option Addr) (nx0_2 : Nat) (cx0_2 : Nat) (_ : Hp nz wz S0 w0 (Lr)) (_ : x0.Set.length = 4) (_ : Rd kT27 S0 w0 Ax0_2 cx0_2 x0.L) (_ : x0.L.length = nx0_2),
  Calls Try.prog 21 #[.agg #[.int .i64 x0.Kind, .int .u64 (gi x0.Set 0), .int .u64 (gi x0.Set 1), .int .u64 (gi x0.Set 2), .int .u64 (gi x0.Set 3), .slice Ax0_2 nx0_2 cx0_2, .int .i64 x0.Min, .int .i64 x0.Max]] w0 (Rets (Post.syntax_right nz wz S0 w0 Lr r))

def L.syntax_right_l0 (nz : Nat) (wz : World) (S0 : Fz) (w0 : World) (Lr : List Ent) : T27 × (List T27) × Int × Int → Bool → Prop := fun ⟨x1v, x6, x7, x8⟩ r => ∀ S1 w1, Ext S0 w0 S1 w1 → ∀ (gx1 : Nat) (Ax1v_2 : Option Addr) (nx1v_2 : Nat) (cx1v_2 : Nat) (Ax6 : Option Addr) (nx6 : Nat) (cx6 : Nat) (_ : Hp nz wz S1 w1 ((some gx1, .row 28 [.int .i64 x1v.Kind, .int .u64 (gi x1v.Set 0), .int .u64 (gi x1v.Set 1), .int .u64 (gi x1v.Set 2), .int .u64 (gi x1v.Set 3), .slice Ax1v_2 nx1v_2 cx1v_2, .int .i64 x1v.Min, .int .i64 x1v.Max] 8 0) :: Lr)) (_ : x1v.Set.length = 4) (_ : Rd kT27 S1 w1 Ax1v_2 cx1v_2 x1v.L) (_ : x1v.L.length = nx1v_2) (_ : Rd kT27 S1 w1 Ax6 cx6 x6) (_ : x6.length = nx6) (junk : Nat → Value),
  Goes Try.prog (base 21) [.code (sub [1, 0, 1, 0, 0] B21), .inLoop (sub [1, 0, 1, 0, 0] B21), .inBlock 0, .code (sub [1, 1] B21)] ⟨lfr 18 [(1, .pointer (some ⟨gx1, 0, none⟩)), (6, .slice Ax6 nx6 cx6), (7, .int .i64 x7), (8, .int .i64 x8)] junk, []⟩ w1 (Done Try.prog 21 (Rets (Post.syntax_right nz wz S0 w0 Lr r)))

def LL.syntax_right_l0 : T27 × (List T27) × Int × Int → Bool → Prop := fun a r => ∀ (nz : Nat) (wz : World) (S0 : Fz) (w0 : World) (Lr : List Ent), L.syntax_right_l0 nz wz S0 w0 Lr a r

theorem W.syntax_right_all : (∀ a r, M.syntax_right a = some r → LF.syntax_right a r) ∧ (∀ a r, M.syntax_right_l0 a = some r → LL.syntax_right_l0 a r) := by
  refine M.syntax_right.mutual_partial_correctness LF.syntax_right LL.syntax_right_l0 ?_ ?_
  · intro rec_syntax_right_l0 ih_syntax_right_l0 x0 r h nz wz S0 w0 Lr Ax0_2 nx0_2 cx0_2 p0 lx0_1 fx0_2 lx0_2
    try dsimp only at h
    subst lx0_2
    refine calls_of_goes (fn := Try.f21) (c := B21) (by kernel_rfl) (by kernel_rfl) 17 (by kernel_rfl) ?_
    refine Goes.jump 18 [(0, .agg #[.int .i64 x0.Kind, .int .u64 (gi x0.Set 0), .int .u64 (gi x0.Set 1), .int .u64 (gi x0.Set 2), .int .u64 (gi x0.Set 3), .slice Ax0_2 x0.L.length cx0_2, .int .i64 x0.Min, .int .i64 x0.Max])] (by kernel_rfl) (fun junk => ?_)
    refine Goes.runs 2 [] [.inRegion (opsOf (sub [0] B21)) [0, 1], .code (sub [1] B21)] (by kernel_rfl) ?_
    refine Op_.box 28 (.tmp 0) 1 0 (.agg #[.int .i64 x0.Kind, .int .u64 (gi x0.Set 0), .int .u64 (gi x0.Set 1), .int .u64 (gi x0.Set 2), .int .u64 (gi x0.Set 3), .slice Ax0_2 x0.L.length cx0_2, .int .i64 x0.Min, .int .i64 x0.Max]) [.int .i64 x0.Kind, .int .u64 (gi x0.Set 0), .int .u64 (gi x0.Set 1), .int .u64 (gi x0.Set 2), .int .u64 (gi x0.Set 3), .slice Ax0_2 x0.L.length cx0_2, .int .i64 x0.Min, .int .i64 x0.Max] p0 (Goes.vs (by kernel_rfl)) (by kernel_rfl) (by kernel_rfl) ?_
    intro b1 w2 z2 p2
    refine Goes.runs 6 [(2, .bool false), (5, .pointer (some ⟨b1, 5, none⟩))] [.inRegion (opsOf (sub [1, 0, 0] B21)) [1, 2, 3], .code (sub [1, 0, 1] B21), .code (sub [1, 1] B21)] (by kernel_rfl) ?_
    refine Op_.ld1 26 (.tmp 5) 6 26 ⟨b1, 5, none⟩ (.slice Ax0_2 x0.L.length cx0_2) (Goes.vs (by kernel_rfl)) (by kernel_rfl) (by kernel_rfl) ((p2.mem 0 rfl).cell 5 _ rfl) ?_
    refine Goes.runs 5 [(7, .int .i64 (x0.L.length : Int)), (8, .int .i64 0)] [.code (sub [1, 0, 1, 0, 0] B21), .inLoop (sub [1, 0, 1, 0, 0] B21), .inBlock 0, .code (sub [1, 1] B21)] (by kernel_rfl) ?_
    exact Goes.jump 18 [(1, .pointer (some ⟨b1, 0, none⟩)), (6, .slice Ax0_2 x0.L.length cx0_2), (7, .int .i64 (x0.L.length : Int)), (8, .int .i64 0)] (by kernel_rfl) (ih_syntax_right_l0 _ _ h nz wz S0 w0 Lr _ _ ((Ext.refl S0 w0).trans z2) b1 Ax0_2 x0.L.length cx0_2 Ax0_2 x0.L.length cx0_2 p2 lx0_1 (fx0_2.ext z2) rfl (fx0_2.ext z2) rfl)
  · intro rec_syntax_right rec_syntax_right_l0 ih_syntax_right ih_syntax_right_l0 ⟨x1v, x6, x7, x8⟩ r h nz wz S0 w0 Lr S1 w1 hx gx1 Ax1v_2 nx1v_2 cx1v_2 Ax6 nx6 cx6 p1 lx1v_1 fx1v_2 lx1v_2 fx6 lx6 junk
    try dsimp only at h
    subst lx1v_2
    subst lx6
    refine Goes.runs 5 [(9, .bool (decide (x8 < x7)))] [.code (sub [1, 0, 1, 0, 0, 1, 0] B21), .code (sub [1, 0, 1, 0, 0, 1, 1] B21), .inLoop (sub [1, 0, 1, 0, 0] B21), .inBlock 0, .code (sub [1, 1] B21)] (by kernel_rfl) ?_
    refine ite_some h (fun h4 h => ?_) (fun h4 h => ?_)
    · rw [decide_eq_true h4]
      refine Goes.runs 6 [] [.inRegion (opsOf (sub [1, 0, 1, 0, 0, 1, 1, 0, 0, 0] B21)) [0, 1, 2, 3], .code (sub [1, 0, 1, 0, 0, 1, 1, 0, 0, 1] B21), .inBlock 1, .code (sub [1, 0, 1, 0, 0, 1, 1, 1] B21), .inLoop (sub [1, 0, 1, 0, 0] B21), .inBlock 0, .code (sub [1, 1] B21)] (by kernel_rfl) ?_
      refine guard_some' h fun g5 h => ?_
      refine guard_some' h fun g6 h => ?_
      refine Op_.ixR_n 26 (.tmp 6) (.tmp 8) 10 0 28 .i64 x8 (gi x6 x8) rfl rfl fx6 (Goes.vs (by kernel_rfl)) (by kernel_rfl) (by kernel_rfl) (by kernel_rfl) (by kernel_rfl) g5 g6 ?_
      intro a7 _ f8 q9
      have q10 := q9
      obtain ⟨_, _, rfl, rfl, ⟨_, _, rfl, ⟨l11, f12⟩, ⟨_, _, rfl, ⟨A13, c14, rfl, f15⟩, ⟨_, _, rfl, rfl, rfl⟩⟩⟩⟩ := kT27_open q10
      obtain rfl := els_lit4' f12 l11
      refine Op_.ldN 28 (.tmp 10) 11 28 a7 ([.int .i64 ((gi x6 x8).Kind)] ++ ([.int .u64 (gi ((gi x6 x8).Set) 0), .int .u64 (gi ((gi x6 x8).Set) 1), .int .u64 (gi ((gi x6 x8).Set) 2), .int .u64 (gi ((gi x6 x8).Set) 3)] ++ ([.slice A13 (((gi x6 x8).L).length) c14] ++ ([.int .i64 ((gi x6 x8).Min)] ++ [.int .i64 ((gi x6 x8).Max)])))) (Goes.vs (by kernel_rfl)) (by kernel_rfl) (by kernel_rfl) (by kernel_rfl) (f8.cell) ?_
      refine Op_.alloc 28 4 0 (.agg #[.int .i64 0, .int .u64 0, .int .u64 0, .int .u64 0, .int .u64 0, .slice none 0 0, .int .i64 0, .int .i64 0]) [.int .i64 0, .int .u64 0, .int .u64 0, .int .u64 0, .int .u64 0, .slice none 0 0, .int .i64 0, .int .i64 0] p1 (Goes.vs (by kernel_rfl)) (by kernel_rfl) (by kernel_rfl) ?_
      intro b16 w3 z3 p3
      refine Op_.st 28 (.tmp 4) (.tmp 11) 0 0 b16 0 (.agg #[.int .i64 ((gi x6 x8).Kind), .int .u64 (gi ((gi x6 x8).Set) 0), .int .u64 (gi ((gi x6 x8).Set) 1), .int .u64 (gi ((gi x6 x8).Set) 2), .int .u64 (gi ((gi x6 x8).Set) 3), .slice A13 (((gi x6 x8).L).length) c14, .int .i64 ((gi x6 x8).Min), .int .i64 ((gi x6 x8).Max)]) [.int .i64 ((gi x6 x8).Kind), .int .u64 (gi ((gi x6 x8).Set) 0), .int .u64 (gi ((gi x6 x8).Set) 1), .int .u64 (gi ((gi x6 x8).Set) 2), .int .u64 (gi ((gi x6 x8).Set) 3), .slice A13 (((gi x6 x8).L).length) c14, .int .i64 ((gi x6 x8).Min), .int .i64 ((gi x6 x8).Max)] p3 rfl (Goes.ss (by kernel_rfl)) (by kernel_rfl) (by kernel_rfl) (by kernel_rfl) (by kernel_rfl) (Nat.zero_le _) (by simp only [List.length_cons, List.length_nil]; omega) (by simp [Value.oneCell']) ?_
      intro w4 z4 p4
      refine Goes.runs 3 [] [.inRegion (opsOf (sub [1, 0, 1, 0, 0, 1, 1, 0, 0, 1, 0] B21)) [0, 1, 2], .code (sub [1, 0, 1, 0, 0, 1, 1, 0, 0, 1, 1] B21), .inBlock 1, .code (sub [1, 0, 1, 0, 0, 1, 1, 1] B21), .inLoop (sub [1, 0, 1, 0, 0] B21), .inBlock 0, .code (sub [1, 1] B21)] (by kernel_rfl) ?_
      refine Op_.ldN 28 (.tmp 4) 12 28 ⟨b16, 0, none⟩ [.int .i64 ((gi x6 x8).Kind), .int .u64 (gi ((gi x6 x8).Set) 0), .int .u64 (gi ((gi x6 x8).Set) 1), .int .u64 (gi ((gi x6 x8).Set) 2), .int .u64 (gi ((gi x6 x8).Set) 3), .slice A13 (((gi x6 x8).L).length) c14, .int .i64 ((gi x6 x8).Min), .int .i64 ((gi x6 x8).Max)] (Goes.vs (by kernel_rfl)) (by kernel_rfl) (by kernel_rfl) (by kernel_rfl) (At_part (us := []) (vs := [.int .i64 ((gi x6 x8).Kind), .int .u64 (gi ((gi x6 x8).Set) 0), .int .u64 (gi ((gi x6 x8).Set) 1), .int .u64 (gi ((gi x6 x8).Set) 2), .int .u64 (gi ((gi x6 x8).Set) 3), .slice A13 (((gi x6 x8).L).length) c14, .int .i64 ((gi x6 x8).Min), .int .i64 ((gi x6 x8).Max)]) (ws := []) (p4.mem 0 rfl) 0 rfl) ?_
      refine bind_some' h fun y18 e19 h => ?_
      refine Op_.call (.call { callee := .value (.func 21), args := #[(.tmp 12)], argTypes := #[28] }) 13 4 21 #[.agg #[.int .i64 ((gi x6 x8).Kind), .int .u64 (gi ((gi x6 x8).Set) 0), .int .u64 (gi ((gi x6 x8).Set) 1), .int .u64 (gi ((gi x6 x8).Set) 2), .int .u64 (gi ((gi x6 x8).Set) 3), .slice A13 (((gi x6 x8).L).length) c14, .int .i64 ((gi x6 x8).Min), .int .i64 ((gi x6 x8).Max)]] (Goes.cs (by kernel_rfl)) (by kernel_rfl) (ih_syntax_right (⟨(gi x6 x8).Kind, ((gi x6 x8).Set), (gi x6 x8).L, (gi x6 x8).Min, (gi x6 x8).Max⟩ : T27) y18 e19 nz wz S1 w4 ((some b16, .row 28 [.int .i64 ((gi x6 x8).Kind), .int .u64 (gi ((gi x6 x8).Set) 0), .int .u64 (gi ((gi x6 x8).Set) 1), .int .u64 (gi ((gi x6 x8).Set) 2), .int .u64 (gi ((gi x6 x8).Set) 3), .slice A13 (((gi x6 x8).L).length) c14, .int .i64 ((gi x6 x8).Min), .int .i64 ((gi x6 x8).Max)] 8 0) :: (some gx1, .row 28 [.int .i64 x1v.Kind, .int .u64 (gi x1v.Set 0), .int .u64 (gi x1v.Set 1), .int .u64 (gi x1v.Set 2), .int .u64 (gi x1v.Set 3), .slice Ax1v_2 x1v.L.length cx1v_2, .int .i64 x1v.Min, .int .i64 x1v.Max] 8 0) :: Lr) A13 (((gi x6 x8).L).length) c14 p4 l11 (f15.ext (z3.trans z4)) rfl) ?_
      rintro _ w5 ⟨S5, rfl, z5, p5⟩
      have p5 := (p5.front 0 _ rfl).drop
      refine Goes.runs 2 [(14, .bool (!y18))] [.code (sub [1, 0, 1, 0, 0, 1, 1, 0, 0, 1, 1] B21), .inBlock 1, .code (sub [1, 0, 1, 0, 0, 1, 1, 1] B21), .inLoop (sub [1, 0, 1, 0, 0] B21), .inBlock 0, .code (sub [1, 1] B21)] (by kernel_rfl) ?_
      refine ite_some h (fun h20 h => ?_) (fun h20 h => ?_)
      · rw [h20]
        refine Goes.runs 8 [(15, .int .i64 (wr .i64 (x8 + 1))), (8, .int .i64 (wr .i64 (x8 + 1)))] [.code (sub [1, 0, 1, 0, 0] B21), .inLoop (sub [1, 0, 1, 0, 0] B21), .inBlock 0, .code (sub [1, 1] B21)] (by kernel_rfl) ?_
        exact Goes.jump 18 [(1, .pointer (some ⟨gx1, 0, none⟩)), (6, .slice Ax6 x6.length cx6), (7, .int .i64 x7), (8, .int .i64 (wr .i64 (x8 + 1)))] (by kernel_rfl) (ih_syntax_right_l0 _ _ h nz wz S0 w0 Lr _ _ (((hx.trans z3).trans z4).trans z5) gx1 Ax1v_2 x1v.L.length cx1v_2 Ax6 x6.length cx6 p5 lx1v_1 (fx1v_2.ext ((z3.trans z4).trans z5)) rfl (fx6.ext ((z3.trans z4).trans z5)) rfl)
      · have h20' : y18 = false := by simpa using h20
        rw [h20']
        refine Goes.runs 5 [(2, .bool false)] [.code (sub [1, 0, 1, 0, 0, 1, 1, 0, 0, 1, 1, 0, 1] B21), .inBlock 1, .code (sub [1, 0, 1, 0, 0, 1, 1, 1] B21), .inLoop (sub [1, 0, 1, 0, 0] B21), .inBlock 0, .code (sub [1, 1] B21)] (by kernel_rfl) ?_
        obtain rfl := Option.some.inj h
        have p5 := (p5.front 0 _ rfl).drop
        exact Goes.ret (fn := Try.f21) (by kernel_rfl) (v := .bool false) (by kernel_rfl) ⟨S5, rfl, (((hx.trans z3).trans z4).trans z5), p5⟩
    · rw [decide_eq_false h4]
      refine Goes.runs 4 [] [.inRegion (opsOf (sub [1, 1, 0] B21)) [0, 1, 2], .code (sub [1, 1, 1] B21)] (by kernel_rfl) ?_
      refine Op_.ldN 28 (.tmp 1) 16 28 ⟨gx1, 0, none⟩ [.int .i64 x1v.Kind, .int .u64 (gi x1v.Set 0), .int .u64 (gi x1v.Set 1), .int .u64 (gi x1v.Set 2), .int .u64 (gi x1v.Set 3), .slice Ax1v_2 x1v.L.length cx1v_2, .int .i64 x1v.Min, .int .i64 x1v.Max] (Goes.vs (by kernel_rfl)) (by kernel_rfl) (by kernel_rfl) (by kernel_rfl) (At_part (us := []) (vs := [.int .i64 x1v.Kind, .int .u64 (gi x1v.Set 0), .int .u64 (gi x1v.Set 1), .int .u64 (gi x1v.Set 2), .int .u64 (gi x1v.Set 3), .slice Ax1v_2 x1v.L.length cx1v_2, .int .i64 x1v.Min, .int .i64 x1v.Max]) (ws := []) (p1.mem 0 rfl) 0 rfl) ?_
      refine bind_some' h fun y21 e22 h => ?_
      refine Op_.call (.call { callee := .value (.func 37), args := #[(.tmp 16)], argTypes := #[28] }) 17 4 37 #[.agg #[.int .i64 x1v.Kind, .int .u64 (gi x1v.Set 0), .int .u64 (gi x1v.Set 1), .int .u64 (gi x1v.Set 2), .int .u64 (gi x1v.Set 3), .slice Ax1v_2 x1v.L.length cx1v_2, .int .i64 x1v.Min, .int .i64 x1v.Max]] (Goes.cs (by kernel_rfl)) (by kernel_rfl) (W.syntax_shaped x1v y21 e22 nz wz S1 w1 ((some gx1, .row 28 [.int .i64 x1v.Kind, .int .u64 (gi x1v.Set 0), .int .u64 (gi x1v.Set 1), .int .u64 (gi x1v.Set 2), .int .u64 (gi x1v.Set 3), .slice Ax1v_2 x1v.L.length cx1v_2, .int .i64 x1v.Min, .int .i64 x1v.Max] 8 0) :: Lr) Ax1v_2 x1v.L.length cx1v_2 p1 lx1v_1 fx1v_2 rfl) ?_
      rintro _ w6 ⟨S6, rfl, z6, p6⟩
      have p6 := (p6.front 0 _ rfl).drop
      refine Goes.runs 2 [(2, .bool y21)] [.code (sub [1, 1, 1] B21)] (by kernel_rfl) ?_
      obtain rfl := Option.some.inj h
      exact Goes.ret (fn := Try.f21) (by kernel_rfl) (v := .bool y21) (by kernel_rfl) ⟨S6, rfl, (hx.trans z6), p6⟩

theorem W.syntax_right : ∀ a r, M.syntax_right a = some r → LF.syntax_right a r := (W.syntax_right_all).1

theorem W.syntax_right_l0 : ∀ a r, M.syntax_right_l0 a = some r → LL.syntax_right_l0 a r := (W.syntax_right_all).2

/-! tidepole/syntax.Size -/
def Post.syntax_Size (nz : Nat) (wz : World) (S0 : Fz) (w0 : World) (Lr : List Ent) (r : Int) (v : Value) (w' : World) : Prop :=
  ∃ (S' : Fz), v = .int .i64 r ∧ Ext S0 w0 S' w' ∧ Hp nz wz S' w' (Lr)

theorem W.syntax_Size (x0 : T27) (r : Int) (h : M.syntax_Size x0 = some r) (nz : Nat) (wz : World) (S0 : Fz) (w0 : World) (Lr : List Ent) (Ax0_2 : Option Addr) (nx0_2 : Nat) (cx0_2 : Nat) (p0 : Hp nz wz S0 w0 (Lr)) (lx0_1 : x0.Set.length = 4) (fx0_2 : Rd kT27 S0 w0 Ax0_2 cx0_2 x0.L) (lx0_2 : x0.L.length = nx0_2) :
    Calls Try.prog 10 #[.agg #[.int .i64 x0.Kind, .int .u64 (gi x0.Set 0), .int .u64 (gi x0.Set 1), .int .u64 (gi x0.Set 2), .int .u64 (gi x0.Set 3), .slice Ax0_2 nx0_2 cx0_2, .int .i64 x0.Min, .int .i64 x0.Max]] w0 (Rets (Post.syntax_Size nz wz S0 w0 Lr r)) := by
  subst lx0_2
  refine calls_of_goes (fn := Try.f10) (c := B10) (by kernel_rfl) (by kernel_rfl) 12 (by kernel_rfl) ?_
  refine Goes.jump 13 [(0, .agg #[.int .i64 x0.Kind, .int .u64 (gi x0.Set 0), .int .u64 (gi x0.Set 1), .int .u64 (gi x0.Set 2), .int .u64 (gi x0.Set 3), .slice Ax0_2 x0.L.length cx0_2, .int .i64 x0.Min, .int .i64 x0.Max])] (by kernel_rfl) (fun junk => ?_)
  delta M.syntax_Size at h
  refine Goes.runs 2 [] [.inRegion (opsOf (sub [0] B10)) [0, 1], .code (sub [1] B10)] (by kernel_rfl) ?_
  refine Op_.box 28 (.tmp 0) 1 0 (.agg #[.int .i64 x0.Kind, .int .u64 (gi x0.Set 0), .int .u64 (gi x0.Set 1), .int .u64 (gi x0.Set 2), .int .u64 (gi x0.Set 3), .slice Ax0_2 x0.L.length cx0_2, .int .i64 x0.Min, .int .i64 x0.Max]) [.int .i64 x0.Kind, .int .u64 (gi x0.Set 0), .int .u64 (gi x0.Set 1), .int .u64 (gi x0.Set 2), .int .u64 (gi x0.Set 3), .slice Ax0_2 x0.L.length cx0_2, .int .i64 x0.Min, .int .i64 x0.Max] p0 (Goes.vs (by kernel_rfl)) (by kernel_rfl) (by kernel_rfl) ?_
  intro b1 w2 z2 p2
  refine Goes.runs 4 [(2, .int .i64 0)] [.inRegion (opsOf (sub [1, 0] B10)) [0, 1], .code (sub [1, 1] B10)] (by kernel_rfl) ?_
  refine Op_.alloc 3 3 0 (.int .i64 0) [.int .i64 0] p2 (Goes.vs (by kernel_rfl)) (by kernel_rfl) (by kernel_rfl) ?_
  intro b3 w3 z3 p3
  refine Op_.st 3 (.tmp 3) (.const (.int .i64 0)) 0 0 b3 0 (.int .i64 0) [.int .i64 0] p3 rfl (Goes.ss (by kernel_rfl)) (by kernel_rfl) (by kernel_rfl) (by kernel_rfl) (by kernel_rfl) (Nat.zero_le _) (by simp only [List.length_cons, List.length_nil]; omega) (by simp [Value.oneCell']) ?_
  intro w4 z4 p4
  refine Goes.runs 4 [] [.inRegion (opsOf (sub [1, 1, 0, 0] B10)) [0, 1, 2, 3, 4, 5, 6, 7], .code (sub [1, 1, 0, 1] B10), .code (sub [1, 1, 1] B10)] (by kernel_rfl) ?_
  refine Op_.ldN 28 (.tmp 1) 4 28 ⟨b1, 0, none⟩ [.int .i64 x0.Kind, .int .u64 (gi x0.Set 0), .int .u64 (gi x0.Set 1), .int .u64 (gi x0.Set 2), .int .u64 (gi x0.Set 3), .slice Ax0_2 x0.L.length cx0_2, .int .i64 x0.Min, .int .i64 x0.Max] (Goes.vs (by kernel_rfl)) (by kernel_rfl) (by kernel_rfl) (by kernel_rfl) (At_part (us := []) (vs := [.int .i64 x0.Kind, .int .u64 (gi x0.Set 0), .int .u64 (gi x0.Set 1), .int .u64 (gi x0.Set 2), .int .u64 (gi x0.Set 3), .slice Ax0_2 x0.L.length cx0_2, .int .i64 x0.Min, .int .i64 x0.Max]) (ws := []) (p4.mem 1 rfl) 0 rfl) ?_
  refine bind_some' h fun y5 e6 h => ?_
  refine Op_.call (.call { callee := .value (.func 20), args := #[(.tmp 4), (.const (.int .i64 128)), (.tmp 3)], argTypes := #[28, 3, 55] }) 5 4 20 #[.agg #[.int .i64 x0.Kind, .int .u64 (gi x0.Set 0), .int .u64 (gi x0.Set 1), .int .u64 (gi x0.Set 2), .int .u64 (gi x0.Set 3), .slice Ax0_2 x0.L.length cx0_2, .int .i64 x0.Min, .int .i64 x0.Max], .int .i64 128, .pointer (some ⟨b3, 0, none⟩)] (Goes.cs (by kernel_rfl)) (by kernel_rfl) (W.syntax_count (x0, 128, 0) y5 e6 nz wz S0 w4 ((some b1, .row 28 [.int .i64 x0.Kind, .int .u64 (gi x0.Set 0), .int .u64 (gi x0.Set 1), .int .u64 (gi x0.Set 2), .int .u64 (gi x0.Set 3), .slice Ax0_2 x0.L.length cx0_2, .int .i64 x0.Min, .int .i64 x0.Max] 8 0) :: Lr) Ax0_2 x0.L.length cx0_2 b3 p4 lx0_1 (fx0_2.ext ((z2.trans z3).trans z4)) rfl) ?_
  rintro _ w5 ⟨S5, rfl, z5, p5⟩
  refine Goes.runs 2 [(6, .bool (!y5.1)), (7, .bool (!y5.1))] [.inRegion (opsOf (sub [1, 1, 0, 0] B10)) [4, 5, 6, 7], .code (sub [1, 1, 0, 1] B10), .code (sub [1, 1, 1] B10)] (by kernel_rfl) ?_
  refine ite_some h (fun h7 h => ?_) (fun h7 h => ?_)
  · rw [h7]
    refine Op_.ldN 28 (.tmp 1) 8 28 ⟨b1, 0, none⟩ [.int .i64 x0.Kind, .int .u64 (gi x0.Set 0), .int .u64 (gi x0.Set 1), .int .u64 (gi x0.Set 2), .int .u64 (gi x0.Set 3), .slice Ax0_2 x0.L.length cx0_2, .int .i64 x0.Min, .int .i64 x0.Max] (Goes.vs (by kernel_rfl)) (by kernel_rfl) (by kernel_rfl) (by kernel_rfl) (At_part (us := []) (vs := [.int .i64 x0.Kind, .int .u64 (gi x0.Set 0), .int .u64 (gi x0.Set 1), .int .u64 (gi x0.Set 2), .int .u64 (gi x0.Set 3), .slice Ax0_2 x0.L.length cx0_2, .int .i64 x0.Min, .int .i64 x0.Max]) (ws := []) (p5.mem 1 rfl) 0 rfl) ?_
    refine bind_some' h fun y8 e9 h => ?_
    refine Op_.call (.call { callee := .value (.func 21), args := #[(.tmp 8)], argTypes := #[28] }) 9 4 21 #[.agg #[.int .i64 x0.Kind, .int .u64 (gi x0.Set 0), .int .u64 (gi x0.Set 1), .int .u64 (gi x0.Set 2), .int .u64 (gi x0.Set 3), .slice Ax0_2 x0.L.length cx0_2, .int .i64 x0.Min, .int .i64 x0.Max]] (Goes.cs (by kernel_rfl)) (by kernel_rfl) (W.syntax_right x0 y8 e9 nz wz S5 w5 ((some b3, .row 3 [.int .i64 y5.2] 1 0) :: (some b1, .row 28 [.int .i64 x0.Kind, .int .u64 (gi x0.Set 0), .int .u64 (gi x0.Set 1), .int .u64 (gi x0.Set 2), .int .u64 (gi x0.Set 3), .slice Ax0_2 x0.L.length cx0_2, .int .i64 x0.Min, .int .i64 x0.Max] 8 0) :: Lr) Ax0_2 x0.L.length cx0_2 p5 lx0_1 (fx0_2.ext (((z2.trans z3).trans z4).trans z5)) rfl) ?_
    rintro _ w6 ⟨S6, rfl, z6, p6⟩
    have p6 := (p6.front 1 _ rfl).drop
    refine Goes.runs 3 [(10, .bool (!y8)), (11, .bool (!y8))] [.code (sub [1, 1, 0, 1] B10), .code (sub [1, 1, 1] B10)] (by kernel_rfl) ?_
    refine ite_some h (fun h10 h => ?_) (fun h10 h => ?_)
    · rw [h10]
      refine Goes.runs 4 [] [.inRegion (opsOf (sub [1, 1, 1, 0] B10)) [0, 1], .code (sub [1, 1, 1, 1] B10)] (by kernel_rfl) ?_
      refine Op_.ld1 3 (.tmp 3) 12 3 ⟨b3, 0, none⟩ (.int .i64 y5.2) (Goes.vs (by kernel_rfl)) (by kernel_rfl) (by kernel_rfl) ((p6.mem 0 rfl).cell 0 _ rfl) ?_
      refine Goes.runs 2 [(2, .int .i64 y5.2)] [.code (sub [1, 1, 1, 1] B10)] (by kernel_rfl) ?_
      obtain rfl := Option.some.inj h
      have p6 := (p6.front 0 _ rfl).drop
      exact Goes.ret (fn := Try.f10) (by kernel_rfl) (v := .int .i64 y5.2) (by kernel_rfl) ⟨S6, rfl, ((((((Ext.refl S0 w0).trans z2).trans z3).trans z4).trans z5).trans z6), p6⟩
    · have h10' : y8 = false := by simpa using h10
      rw [h10']
      refine Goes.runs 5 [(2, .int .i64 0)] [.code (sub [1, 1, 0, 1, 0, 1] B10), .code (sub [1, 1, 1] B10)] (by kernel_rfl) ?_
      obtain rfl := Option.some.inj h
      have p6 := (p6.front 0 _ rfl).drop
      exact Goes.ret (fn := Try.f10) (by kernel_rfl) (v := .int .i64 0) (by kernel_rfl) ⟨S6, rfl, ((((((Ext.refl S0 w0).trans z2).trans z3).trans z4).trans z5).trans z6), p6⟩
  · have h7' : y5.1 = false := by simpa using h7
    rw [h7']
    refine Goes.runs 10 [(8, undef), (9, undef), (10, undef), (11, .bool true), (2, .int .i64 0)] [.code (sub [1, 1, 0, 1, 0, 1] B10), .code (sub [1, 1, 1] B10)] (by kernel_rfl) ?_
    obtain rfl := Option.some.inj h
    have p5 := (p5.front 0 _ rfl).drop
    have p5 := (p5.front 0 _ rfl).drop
    exact Goes.ret (fn := Try.f10) (by kernel_rfl) (v := .int .i64 0) (by kernel_rfl) ⟨S5, rfl, (((((Ext.refl S0 w0).trans z2).trans z3).trans z4).trans z5), p5⟩

/-! tidepole/syntax.Check -/
def Post.syntax_Check (nz : Nat) (wz : World) (S0 : Fz) (w0 : World) (Lr : List Ent) (r : Bool) (v : Value) (w' : World) : Prop :=
  ∃ (S' : Fz), v = .bool r ∧ Ext S0 w0 S' w' ∧ Hp nz wz S' w' (Lr)

theorem W.syntax_Check (x0 : T27) (r : Bool) (h : M.syntax_Check x0 = some r) (nz : Nat) (wz : World) (S0 : Fz) (w0 : World) (Lr : List Ent) (Ax0_2 : Option Addr) (nx0_2 : Nat) (cx0_2 : Nat) (p0 : Hp nz wz S0 w0 (Lr)) (lx0_1 : x0.Set.length = 4) (fx0_2 : Rd kT27 S0 w0 Ax0_2 cx0_2 x0.L) (lx0_2 : x0.L.length = nx0_2) :
    Calls Try.prog 9 #[.agg #[.int .i64 x0.Kind, .int .u64 (gi x0.Set 0), .int .u64 (gi x0.Set 1), .int .u64 (gi x0.Set 2), .int .u64 (gi x0.Set 3), .slice Ax0_2 nx0_2 cx0_2, .int .i64 x0.Min, .int .i64 x0.Max]] w0 (Rets (Post.syntax_Check nz wz S0 w0 Lr r)) := by
  subst lx0_2
  refine calls_of_goes (fn := Try.f9) (c := B9) (by kernel_rfl) (by kernel_rfl) 5 (by kernel_rfl) ?_
  refine Goes.jump 6 [(0, .agg #[.int .i64 x0.Kind, .int .u64 (gi x0.Set 0), .int .u64 (gi x0.Set 1), .int .u64 (gi x0.Set 2), .int .u64 (gi x0.Set 3), .slice Ax0_2 x0.L.length cx0_2, .int .i64 x0.Min, .int .i64 x0.Max])] (by kernel_rfl) (fun junk => ?_)
  delta M.syntax_Check at h
  refine Goes.runs 2 [] [.inRegion (opsOf (sub [0] B9)) [0, 1], .code (sub [1] B9)] (by kernel_rfl) ?_
  refine Op_.box 28 (.tmp 0) 1 0 (.agg #[.int .i64 x0.Kind, .int .u64 (gi x0.Set 0), .int .u64 (gi x0.Set 1), .int .u64 (gi x0.Set 2), .int .u64 (gi x0.Set 3), .slice Ax0_2 x0.L.length cx0_2, .int .i64 x0.Min, .int .i64 x0.Max]) [.int .i64 x0.Kind, .int .u64 (gi x0.Set 0), .int .u64 (gi x0.Set 1), .int .u64 (gi x0.Set 2), .int .u64 (gi x0.Set 3), .slice Ax0_2 x0.L.length cx0_2, .int .i64 x0.Min, .int .i64 x0.Max] p0 (Goes.vs (by kernel_rfl)) (by kernel_rfl) (by kernel_rfl) ?_
  intro b1 w2 z2 p2
  refine Goes.runs 4 [(2, .bool false)] [.inRegion (opsOf (sub [1, 0] B9)) [0, 1, 2, 3], .code (sub [1, 1] B9)] (by kernel_rfl) ?_
  refine Op_.ldN 28 (.tmp 1) 3 28 ⟨b1, 0, none⟩ [.int .i64 x0.Kind, .int .u64 (gi x0.Set 0), .int .u64 (gi x0.Set 1), .int .u64 (gi x0.Set 2), .int .u64 (gi x0.Set 3), .slice Ax0_2 x0.L.length cx0_2, .int .i64 x0.Min, .int .i64 x0.Max] (Goes.vs (by kernel_rfl)) (by kernel_rfl) (by kernel_rfl) (by kernel_rfl) (At_part (us := []) (vs := [.int .i64 x0.Kind, .int .u64 (gi x0.Set 0), .int .u64 (gi x0.Set 1), .int .u64 (gi x0.Set 2), .int .u64 (gi x0.Set 3), .slice Ax0_2 x0.L.length cx0_2, .int .i64 x0.Min, .int .i64 x0.Max]) (ws := []) (p2.mem 0 rfl) 0 rfl) ?_
  refine bind_some' h fun y3 e4 h => ?_
  refine Op_.call (.call { callee := .value (.func 10), args := #[(.tmp 3)], argTypes := #[28] }) 4 3 10 #[.agg #[.int .i64 x0.Kind, .int .u64 (gi x0.Set 0), .int .u64 (gi x0.Set 1), .int .u64 (gi x0.Set 2), .int .u64 (gi x0.Set 3), .slice Ax0_2 x0.L.length cx0_2, .int .i64 x0.Min, .int .i64 x0.Max]] (Goes.cs (by kernel_rfl)) (by kernel_rfl) (W.syntax_Size x0 y3 e4 nz wz S0 w2 ((some b1, .row 28 [.int .i64 x0.Kind, .int .u64 (gi x0.Set 0), .int .u64 (gi x0.Set 1), .int .u64 (gi x0.Set 2), .int .u64 (gi x0.Set 3), .slice Ax0_2 x0.L.length cx0_2, .int .i64 x0.Min, .int .i64 x0.Max] 8 0) :: Lr) Ax0_2 x0.L.length cx0_2 p2 lx0_1 (fx0_2.ext z2) rfl) ?_
  rintro _ w3 ⟨S3, rfl, z3, p3⟩
  have p3 := (p3.front 0 _ rfl).drop
  refine Goes.runs 3 [(5, .bool (decide (y3 > 0))), (2, .bool (decide (y3 > 0)))] [.code (sub [1, 1] B9)] (by kernel_rfl) ?_
  obtain rfl := Option.some.inj h
  exact Goes.ret (fn := Try.f9) (by kernel_rfl) (v := .bool (decide (y3 > 0))) (by kernel_rfl) ⟨S3, rfl, (((Ext.refl S0 w0).trans z2).trans z3), p3⟩

/-! tidepole/tidepolelaw10.SyntaxReads -/
def Post.tidepolelaw10_SyntaxReads (nz : Nat) (wz : World) (S0 : Fz) (w0 : World) (Lr : List Ent) (r : Bool) (v : Value) (w' : World) : Prop :=
  ∃ (S' : Fz), v = .bool r ∧ Ext S0 w0 S' w' ∧ Hp nz wz S' w' (Lr)

def L.tidepolelaw10_SyntaxReads_l0 (nz : Nat) (wz : World) (S0 : Fz) (w0 : World) (Lr : List Ent) : Bool → Bool → Prop := fun x2 r => ∀ S1 w1, Ext S0 w0 S1 w1 → ∀ (_ : Hp nz wz S1 w1 (Lr)) (junk : Nat → Value),
  Goes Try.prog (base 3) [.code (sub [1, 1, 1, 1, 0, 1, 0, 1] B3), .code (sub [1, 1, 1, 1, 1] B3)] ⟨lfr 66 [(2, .bool x2)] junk, []⟩ w1 (Done Try.prog 3 (Rets (Post.tidepolelaw10_SyntaxReads nz wz S0 w0 Lr r)))

theorem W.tidepolelaw10_SyntaxReads_l0 (nz : Nat) (wz : World) (S0 : Fz) (w0 : World) (Lr : List Ent) : ∀ a r, M.tidepolelaw10_SyntaxReads_l0 a = some r → L.tidepolelaw10_SyntaxReads_l0 nz wz S0 w0 Lr a r := by
  intro x2 r h S1 w1 hx p1 junk
  rw [M.tidepolelaw10_SyntaxReads_l0] at h
  try dsimp only at h
  obtain rfl := Option.some.inj h
  exact Goes.ret (fn := Try.f3) (by kernel_rfl) (v := .bool x2) (by kernel_rfl) ⟨S1, rfl, hx, p1⟩

/-! tidepole/tidepolelaw10.SyntaxReads -/
theorem W.tidepolelaw10_SyntaxReads (x0 : ByteArray) (r : Bool) (h : M.tidepolelaw10_SyntaxReads x0 = some r) (nz : Nat) (wz : World) (S0 : Fz) (w0 : World) (Lr : List Ent) (p0 : Hp nz wz S0 w0 (Lr)) :
    Calls Try.prog 3 #[.string x0] w0 (Rets (Post.tidepolelaw10_SyntaxReads nz wz S0 w0 Lr r)) := by
  refine calls_of_goes (fn := Try.f3) (c := B3) (by kernel_rfl) (by kernel_rfl) 65 (by kernel_rfl) ?_
  refine Goes.jump 66 [(0, .string x0)] (by kernel_rfl) (fun junk => ?_)
  delta M.tidepolelaw10_SyntaxReads at h
  refine Goes.runs 7 [(2, .bool false)] [.inRegion (opsOf (sub [1, 0, 0] B3)) [0, 1], .code (sub [1, 0, 1] B3), .code (sub [1, 1] B3)] (by kernel_rfl) ?_
  refine bind_some' h fun y1 e2 h => ?_
  refine Op_.call (.call { callee := .value (.func 7), args := #[], argTypes := #[] }) 6 4 7 #[] (Goes.cs (by kernel_rfl)) (by kernel_rfl) (W.tidepolelaw10_works y1 e2 nz wz S0 w0 (Lr)  p0 ) ?_
  rintro _ w2 ⟨S2, rfl, z2, p2⟩
  refine Goes.runs 2 [(7, .bool (!y1))] [.code (sub [1, 0, 1] B3), .code (sub [1, 1] B3)] (by kernel_rfl) ?_
  refine ite_some h (fun h3 h => ?_) (fun h3 h => ?_)
  · rw [h3]
    refine Goes.runs 8 [(8, .string x0), (9, .string x0), (10, .int .i64 (x0.size : Int)), (11, .int .i64 (imn (x0.size : Int) 257))] [.inRegion (opsOf (sub [1, 1, 0] B3)) [4, 5], .code (sub [1, 1, 1] B3)] (by kernel_rfl) ?_
    refine guard_some' h fun g4 h => ?_
    refine guard_some' h fun g5 h => ?_
    refine Op_.slS_n 9 (.tmp 8) none (some (.tmp 11)) 12 9 x0 0 (imn (x0.size : Int) 257) (ss x0 0 (imn (x0.size : Int) 257)) rfl (Goes.vs (by kernel_rfl)) (by kernel_rfl) (by kernel_rfl) Bnd.no (Bnd.at_ .i64 (by kernel_rfl)) (by decide : (0 : Int) ≤ 0) g4 g5 ?_
    refine Goes.runs 5 [(0, .string (ss x0 0 (imn (x0.size : Int) 257))), (14, .string (ss x0 0 (imn (x0.size : Int) 257)))] [.inRegion (opsOf (sub [1, 1, 1, 0] B3)) [1, 2, 3, 4, 5, 6, 7, 8, 9], .code (sub [1, 1, 1, 1] B3)] (by kernel_rfl) ?_
    refine bind_some' h fun y6 e7 h => ?_
    refine Op_.call (.call { callee := .value (.func 8), args := #[(.tmp 14)], argTypes := #[9] }) 15 30 8 #[.string (ss x0 0 (imn (x0.size : Int) 257))] (Goes.cs (by kernel_rfl)) (by kernel_rfl) (W.syntax_Parse (ss x0 0 (imn (x0.size : Int) 257)) y6 e7 nz wz S2 w2 (Lr)  p2 ) ?_
    rintro _ w3 ⟨S3, Ar_3_0_2, nr_3_0_2, cr_3_0_2, rfl, z3, p3, lr_3_0_1, fr_3_0_2, rfl⟩
    refine Goes.runs 4 [(13, .tuple #[.agg #[.int .i64 y6.1.Kind, .int .u64 (gi y6.1.Set 0), .int .u64 (gi y6.1.Set 1), .int .u64 (gi y6.1.Set 2), .int .u64 (gi y6.1.Set 3), .slice Ar_3_0_2 y6.1.L.length cr_3_0_2, .int .i64 y6.1.Min, .int .i64 y6.1.Max], .int .i64 y6.2.1, .int .i64 y6.2.2]), (16, .agg #[.int .i64 y6.1.Kind, .int .u64 (gi y6.1.Set 0), .int .u64 (gi y6.1.Set 1), .int .u64 (gi y6.1.Set 2), .int .u64 (gi y6.1.Set 3), .slice Ar_3_0_2 y6.1.L.length cr_3_0_2, .int .i64 y6.1.Min, .int .i64 y6.1.Max]), (17, .int .i64 y6.2.1), (18, .int .i64 y6.2.2)] [.inRegion (opsOf (sub [1, 1, 1, 0] B3)) [6, 7, 8, 9], .code (sub [1, 1, 1, 1] B3)] (by kernel_rfl) ?_
    refine Op_.alloc 28 3 0 (.agg #[.int .i64 0, .int .u64 0, .int .u64 0, .int .u64 0, .int .u64 0, .slice none 0 0, .int .i64 0, .int .i64 0]) [.int .i64 0, .int .u64 0, .int .u64 0, .int .u64 0, .int .u64 0, .slice none 0 0, .int .i64 0, .int .i64 0] p3 (Goes.vs (by kernel_rfl)) (by kernel_rfl) (by kernel_rfl) ?_
    intro b8 w4 z4 p4
    refine Op_.st 28 (.tmp 3) (.tmp 16) 0 0 b8 0 (.agg #[.int .i64 y6.1.Kind, .int .u64 (gi y6.1.Set 0), .int .u64 (gi y6.1.Set 1), .int .u64 (gi y6.1.Set 2), .int .u64 (gi y6.1.Set 3), .slice Ar_3_0_2 y6.1.L.length cr_3_0_2, .int .i64 y6.1.Min, .int .i64 y6.1.Max]) [.int .i64 y6.1.Kind, .int .u64 (gi y6.1.Set 0), .int .u64 (gi y6.1.Set 1), .int .u64 (gi y6.1.Set 2), .int .u64 (gi y6.1.Set 3), .slice Ar_3_0_2 y6.1.L.length cr_3_0_2, .int .i64 y6.1.Min, .int .i64 y6.1.Max] p4 rfl (Goes.ss (by kernel_rfl)) (by kernel_rfl) (by kernel_rfl) (by kernel_rfl) (by kernel_rfl) (Nat.zero_le _) (by simp only [List.length_cons, List.length_nil]; omega) (by simp [Value.oneCell']) ?_
    intro w5 z5 p5
    refine Goes.runs 9 [(4, .int .i64 y6.2.1), (5, .int .i64 y6.2.2), (19, .int .i64 y6.2.2), (20, .bool (!(decide (y6.2.2 = 0))))] [.code (sub [1, 1, 1, 1, 0, 1] B3), .code (sub [1, 1, 1, 1, 1] B3)] (by kernel_rfl) ?_
    refine ite_some h (fun h10 h => ?_) (fun h10 h => ?_)
    · rw [decide_eq_true h10]
      refine Goes.runs 7 [(46, .int .i64 y6.2.1), (47, .bool (decide (y6.2.1 = 0))), (48, .bool (decide (y6.2.1 = 0)))] [.inRegion (opsOf (sub [1, 1, 1, 1, 1, 0] B3)) [3, 4, 5, 6, 7, 8, 9, 10, 11, 12, 13, 14, 15, 16, 17, 18, 19, 20], .code (sub [1, 1, 1, 1, 1, 1] B3)] (by kernel_rfl) ?_
      refine ite_some h (fun h11 h => ?_) (fun h11 h => ?_)
      · rw [decide_eq_true h11]
        refine Op_.ldN 28 (.tmp 3) 49 28 ⟨b8, 0, none⟩ [.int .i64 y6.1.Kind, .int .u64 (gi y6.1.Set 0), .int .u64 (gi y6.1.Set 1), .int .u64 (gi y6.1.Set 2), .int .u64 (gi y6.1.Set 3), .slice Ar_3_0_2 y6.1.L.length cr_3_0_2, .int .i64 y6.1.Min, .int .i64 y6.1.Max] (Goes.vs (by kernel_rfl)) (by kernel_rfl) (by kernel_rfl) (by kernel_rfl) (At_part (us := []) (vs := [.int .i64 y6.1.Kind, .int .u64 (gi y6.1.Set 0), .int .u64 (gi y6.1.Set 1), .int .u64 (gi y6.1.Set 2), .int .u64 (gi y6.1.Set 3), .slice Ar_3_0_2 y6.1.L.length cr_3_0_2, .int .i64 y6.1.Min, .int .i64 y6.1.Max]) (ws := []) (p5.mem 0 rfl) 0 rfl) ?_
        refine bind_some' h fun y12 e13 h => ?_
        refine Op_.call (.call { callee := .value (.func 9), args := #[(.tmp 49)], argTypes := #[28] }) 50 4 9 #[.agg #[.int .i64 y6.1.Kind, .int .u64 (gi y6.1.Set 0), .int .u64 (gi y6.1.Set 1), .int .u64 (gi y6.1.Set 2), .int .u64 (gi y6.1.Set 3), .slice Ar_3_0_2 y6.1.L.length cr_3_0_2, .int .i64 y6.1.Min, .int .i64 y6.1.Max]] (Goes.cs (by kernel_rfl)) (by kernel_rfl) (W.syntax_Check y6.1 y12 e13 nz wz S3 w5 ((some b8, .row 28 [.int .i64 y6.1.Kind, .int .u64 (gi y6.1.Set 0), .int .u64 (gi y6.1.Set 1), .int .u64 (gi y6.1.Set 2), .int .u64 (gi y6.1.Set 3), .slice Ar_3_0_2 y6.1.L.length cr_3_0_2, .int .i64 y6.1.Min, .int .i64 y6.1.Max] 8 0) :: Lr) Ar_3_0_2 y6.1.L.length cr_3_0_2 p5 lr_3_0_1 (fr_3_0_2.ext (z4.trans z5)) rfl) ?_
        rintro _ w6 ⟨S6, rfl, z6, p6⟩
        refine Goes.runs 2 [(51, .bool y12), (52, .bool y12)] [.inRegion (opsOf (sub [1, 1, 1, 1, 1, 0] B3)) [7, 8, 9, 10, 11, 12, 13, 14, 15, 16, 17, 18, 19, 20], .code (sub [1, 1, 1, 1, 1, 1] B3)] (by kernel_rfl) ?_
        refine ite_some h (fun h14 h => ?_) (fun h14 h => ?_)
        · rw [h14]
          refine Op_.ldN 28 (.tmp 3) 53 28 ⟨b8, 0, none⟩ [.int .i64 y6.1.Kind, .int .u64 (gi y6.1.Set 0), .int .u64 (gi y6.1.Set 1), .int .u64 (gi y6.1.Set 2), .int .u64 (gi y6.1.Set 3), .slice Ar_3_0_2 y6.1.L.length cr_3_0_2, .int .i64 y6.1.Min, .int .i64 y6.1.Max] (Goes.vs (by kernel_rfl)) (by kernel_rfl) (by kernel_rfl) (by kernel_rfl) (At_part (us := []) (vs := [.int .i64 y6.1.Kind, .int .u64 (gi y6.1.Set 0), .int .u64 (gi y6.1.Set 1), .int .u64 (gi y6.1.Set 2), .int .u64 (gi y6.1.Set 3), .slice Ar_3_0_2 y6.1.L.length cr_3_0_2, .int .i64 y6.1.Min, .int .i64 y6.1.Max]) (ws := []) (p6.mem 0 rfl) 0 rfl) ?_
          refine bind_some' h fun y15 e16 h => ?_
          refine Op_.call (.call { callee := .value (.func 10), args := #[(.tmp 53)], argTypes := #[28] }) 54 3 10 #[.agg #[.int .i64 y6.1.Kind, .int .u64 (gi y6.1.Set 0), .int .u64 (gi y6.1.Set 1), .int .u64 (gi y6.1.Set 2), .int .u64 (gi y6.1.Set 3), .slice Ar_3_0_2 y6.1.L.length cr_3_0_2, .int .i64 y6.1.Min, .int .i64 y6.1.Max]] (Goes.cs (by kernel_rfl)) (by kernel_rfl) (W.syntax_Size y6.1 y15 e16 nz wz S6 w6 ((some b8, .row 28 [.int .i64 y6.1.Kind, .int .u64 (gi y6.1.Set 0), .int .u64 (gi y6.1.Set 1), .int .u64 (gi y6.1.Set 2), .int .u64 (gi y6.1.Set 3), .slice Ar_3_0_2 y6.1.L.length cr_3_0_2, .int .i64 y6.1.Min, .int .i64 y6.1.Max] 8 0) :: Lr) Ar_3_0_2 y6.1.L.length cr_3_0_2 p6 lr_3_0_1 (fr_3_0_2.ext ((z4.trans z5).trans z6)) rfl) ?_
          rintro _ w7 ⟨S7, rfl, z7, p7⟩
          refine Goes.runs 3 [(55, .bool (decide (y15 ≥ 1))), (56, .bool (decide (y15 ≥ 1))), (57, .bool (decide (y15 ≥ 1)))] [.inRegion (opsOf (sub [1, 1, 1, 1, 1, 0] B3)) [12, 13, 14, 15, 16, 17, 18, 19, 20], .code (sub [1, 1, 1, 1, 1, 1] B3)] (by kernel_rfl) ?_
          refine ite_some h (fun h17 h => ?_) (fun h17 h => ?_)
          · rw [decide_eq_true h17]
            refine Op_.ldN 28 (.tmp 3) 58 28 ⟨b8, 0, none⟩ [.int .i64 y6.1.Kind, .int .u64 (gi y6.1.Set 0), .int .u64 (gi y6.1.Set 1), .int .u64 (gi y6.1.Set 2), .int .u64 (gi y6.1.Set 3), .slice Ar_3_0_2 y6.1.L.length cr_3_0_2, .int .i64 y6.1.Min, .int .i64 y6.1.Max] (Goes.vs (by kernel_rfl)) (by kernel_rfl) (by kernel_rfl) (by kernel_rfl) (At_part (us := []) (vs := [.int .i64 y6.1.Kind, .int .u64 (gi y6.1.Set 0), .int .u64 (gi y6.1.Set 1), .int .u64 (gi y6.1.Set 2), .int .u64 (gi y6.1.Set 3), .slice Ar_3_0_2 y6.1.L.length cr_3_0_2, .int .i64 y6.1.Min, .int .i64 y6.1.Max]) (ws := []) (p7.mem 0 rfl) 0 rfl) ?_
            refine bind_some' h fun y18 e19 h => ?_
            refine Op_.call (.call { callee := .value (.func 10), args := #[(.tmp 58)], argTypes := #[28] }) 59 3 10 #[.agg #[.int .i64 y6.1.Kind, .int .u64 (gi y6.1.Set 0), .int .u64 (gi y6.1.Set 1), .int .u64 (gi y6.1.Set 2), .int .u64 (gi y6.1.Set 3), .slice Ar_3_0_2 y6.1.L.length cr_3_0_2, .int .i64 y6.1.Min, .int .i64 y6.1.Max]] (Goes.cs (by kernel_rfl)) (by kernel_rfl) (W.syntax_Size y6.1 y18 e19 nz wz S7 w7 ((some b8, .row 28 [.int .i64 y6.1.Kind, .int .u64 (gi y6.1.Set 0), .int .u64 (gi y6.1.Set 1), .int .u64 (gi y6.1.Set 2), .int .u64 (gi y6.1.Set 3), .slice Ar_3_0_2 y6.1.L.length cr_3_0_2, .int .i64 y6.1.Min, .int .i64 y6.1.Max] 8 0) :: Lr) Ar_3_0_2 y6.1.L.length cr_3_0_2 p7 lr_3_0_1 (fr_3_0_2.ext (((z4.trans z5).trans z6).trans z7)) rfl) ?_
            rintro _ w8 ⟨S8, rfl, z8, p8⟩
            have p8 := (p8.front 0 _ rfl).drop
            refine Goes.runs 8 [(60, .string (ss x0 0 (imn (x0.size : Int) 257))), (61, .int .i64 ((ss x0 0 (imn (x0.size : Int) 257)).size : Int)), (62, .int .i64 (wr .i64 (2 * ((ss x0 0 (imn (x0.size : Int) 257)).size : Int)))), (63, .int .i64 (wr .i64 ((wr .i64 (2 * ((ss x0 0 (imn (x0.size : Int) 257)).size : Int))) + 1))), (64, .bool (decide (y18 ≤ wr .i64 ((wr .i64 (2 * ((ss x0 0 (imn (x0.size : Int) 257)).size : Int))) + 1)))), (65, .bool (decide (y18 ≤ wr .i64 ((wr .i64 (2 * ((ss x0 0 (imn (x0.size : Int) 257)).size : Int))) + 1)))), (2, .bool (decide (y18 ≤ wr .i64 ((wr .i64 (2 * ((ss x0 0 (imn (x0.size : Int) 257)).size : Int))) + 1))))] [.code (sub [1, 1, 1, 1, 1, 1] B3)] (by kernel_rfl) ?_
            obtain rfl := Option.some.inj h
            exact Goes.ret (fn := Try.f3) (by kernel_rfl) (v := .bool (decide (y18 ≤ wr .i64 ((wr .i64 (2 * ((ss x0 0 (imn (x0.size : Int) 257)).size : Int))) + 1)))) (by kernel_rfl) ⟨S8, rfl, ((((((((Ext.refl S0 w0).trans z2).trans z3).trans z4).trans z5).trans z6).trans z7).trans z8), p8⟩
          · rw [decide_eq_false h17]
            refine Goes.runs 10 [(58, undef), (59, undef), (60, undef), (61, undef), (62, undef), (63, undef), (64, undef), (65, .bool false), (2, .bool false)] [.code (sub [1, 1, 1, 1, 1, 1] B3)] (by kernel_rfl) ?_
            obtain rfl := Option.some.inj h
            have p7 := (p7.front 0 _ rfl).drop
            exact Goes.ret (fn := Try.f3) (by kernel_rfl) (v := .bool false) (by kernel_rfl) ⟨S7, rfl, (((((((Ext.refl S0 w0).trans z2).trans z3).trans z4).trans z5).trans z6).trans z7), p7⟩
        · have h14' : y12 = false := by simpa using h14
          rw [h14']
          refine Goes.runs 14 [(53, undef), (54, undef), (55, undef), (56, .bool false), (57, .bool false), (58, undef), (59, undef), (60, undef), (61, undef), (62, undef), (63, undef), (64, undef), (65, .bool false), (2, .bool false)] [.inRegion (opsOf (sub [1, 1, 1, 1, 1, 0] B3)) [], .code (sub [1, 1, 1, 1, 1, 1] B3)] (by kernel_rfl) ?_
          refine Goes.runs 1 [] [.code (sub [1, 1, 1, 1, 1, 1] B3)] (by kernel_rfl) ?_
          obtain rfl := Option.some.inj h
          have p6 := (p6.front 0 _ rfl).drop
          exact Goes.ret (fn := Try.f3) (by kernel_rfl) (v := .bool false) (by kernel_rfl) ⟨S6, rfl, ((((((Ext.refl S0 w0).trans z2).trans z3).trans z4).trans z5).trans z6), p6⟩
      · rw [decide_eq_false h11]
        refine Goes.runs 14 [(49, undef), (50, undef), (51, .bool false), (52, .bool false), (53, undef), (54, undef), (55, undef), (56, .bool false), (57, .bool false), (58, undef), (59, undef), (60, undef), (61, undef), (62, undef)] [.inRegion (opsOf (sub [1, 1, 1, 1, 1, 0] B3)) [17, 18, 19, 20], .code (sub [1, 1, 1, 1, 1, 1] B3)] (by kernel_rfl) ?_
        refine Goes.runs 5 [(63, undef), (64, undef), (65, .bool false), (2, .bool false)] [.code (sub [1, 1, 1, 1, 1, 1] B3)] (by kernel_rfl) ?_
        obtain rfl := Option.some.inj h
        have p5 := (p5.front 0 _ rfl).drop
        exact Goes.ret (fn := Try.f3) (by kernel_rfl) (v := .bool false) (by kernel_rfl) ⟨S3, rfl, (((((Ext.refl S0 w0).trans z2).trans z3).trans z4).trans z5), p5⟩
    · rw [decide_eq_false h10]
      refine Goes.runs 6 [(21, .int .i64 y6.2.1), (22, .bool (decide (y6.2.1 ≥ 0))), (23, .bool (decide (y6.2.1 ≥ 0)))] [.inRegion (opsOf (sub [1, 1, 1, 1, 0, 1, 0, 0] B3)) [3, 4, 5, 6, 7, 8, 9, 10, 11, 12, 13, 14, 15, 16, 17, 18, 19, 20, 21, 22, 23, 24, 25], .code (sub [1, 1, 1, 1, 0, 1, 0, 1] B3), .code (sub [1, 1, 1, 1, 1] B3)] (by kernel_rfl) ?_
      refine ite_some h (fun h20 h => ?_) (fun h20 h => ?_)
      · rw [decide_eq_true h20]
        refine Goes.runs 6 [(24, .int .i64 y6.2.1), (25, .string (ss x0 0 (imn (x0.size : Int) 257))), (26, .int .i64 ((ss x0 0 (imn (x0.size : Int) 257)).size : Int)), (27, .bool (decide (y6.2.1 ≤ ((ss x0 0 (imn (x0.size : Int) 257)).size : Int)))), (28, .bool (decide (y6.2.1 ≤ ((ss x0 0 (imn (x0.size : Int) 257)).size : Int)))), (29, .bool (decide (y6.2.1 ≤ ((ss x0 0 (imn (x0.size : Int) 257)).size : Int))))] [.inRegion (opsOf (sub [1, 1, 1, 1, 0, 1, 0, 0] B3)) [9, 10, 11, 12, 13, 14, 15, 16, 17, 18, 19, 20, 21, 22, 23, 24, 25], .code (sub [1, 1, 1, 1, 0, 1, 0, 1] B3), .code (sub [1, 1, 1, 1, 1] B3)] (by kernel_rfl) ?_
        refine ite_some h (fun h21 h => ?_) (fun h21 h => ?_)
        · rw [decide_eq_true h21]
          refine Goes.runs 3 [(30, .int .i64 y6.2.2), (31, .bool (decide (y6.2.2 = 100))), (32, .bool (decide (y6.2.2 = 100)))] [.inRegion (opsOf (sub [1, 1, 1, 1, 0, 1, 0, 0] B3)) [12, 13, 14, 15, 16, 17, 18, 19, 20, 21, 22, 23, 24, 25], .code (sub [1, 1, 1, 1, 0, 1, 0, 1] B3), .code (sub [1, 1, 1, 1, 1] B3)] (by kernel_rfl) ?_
          refine ite_some h (fun h22 h => ?_) (fun h22 h => ?_)
          · rw [decide_eq_true h22]
            refine Goes.runs 14 [(33, undef), (34, undef), (35, undef), (36, undef), (37, undef), (38, undef), (39, undef), (40, undef), (41, undef), (42, undef), (43, undef), (44, .bool true), (45, .bool true), (2, .bool true)] [.inRegion (opsOf (sub [1, 1, 1, 1, 0, 1, 0, 0] B3)) [], .code (sub [1, 1, 1, 1, 0, 1, 0, 1] B3), .code (sub [1, 1, 1, 1, 1] B3)] (by kernel_rfl) ?_
            refine Goes.runs 1 [] [.code (sub [1, 1, 1, 1, 0, 1, 0, 1] B3), .code (sub [1, 1, 1, 1, 1] B3)] (by kernel_rfl) ?_
            have p5 := (p5.front 0 _ rfl).drop
            exact Goes.jump 66 [(2, .bool true)] (by kernel_rfl) (W.tidepolelaw10_SyntaxReads_l0 nz wz S0 w0 Lr _ _ h _ _ (((((Ext.refl S0 w0).trans z2).trans z3).trans z4).trans z5) p5)
          · rw [decide_eq_false h22]
            refine Goes.runs 3 [(33, .int .i64 y6.2.2), (34, .bool (decide (y6.2.2 = 3))), (35, .bool (decide (y6.2.2 = 3)))] [.inRegion (opsOf (sub [1, 1, 1, 1, 0, 1, 0, 0] B3)) [15, 16, 17, 18, 19, 20, 21, 22, 23, 24, 25], .code (sub [1, 1, 1, 1, 0, 1, 0, 1] B3), .code (sub [1, 1, 1, 1, 1] B3)] (by kernel_rfl) ?_
            refine ite_some h (fun h23 h => ?_) (fun h23 h => ?_)
            · rw [decide_eq_true h23]
              refine Goes.runs 4 [(36, .int .i64 y6.2.1), (37, .bool (decide (y6.2.1 = 0))), (38, .bool (decide (y6.2.1 = 0))), (39, .bool (decide (y6.2.1 = 0)))] [.inRegion (opsOf (sub [1, 1, 1, 1, 0, 1, 0, 0] B3)) [19, 20, 21, 22, 23, 24, 25], .code (sub [1, 1, 1, 1, 0, 1, 0, 1] B3), .code (sub [1, 1, 1, 1, 1] B3)] (by kernel_rfl) ?_
              refine ite_some h (fun h24 h => ?_) (fun h24 h => ?_)
              · rw [decide_eq_true h24]
                refine Goes.runs 8 [(40, .string (ss x0 0 (imn (x0.size : Int) 257))), (41, .int .i64 ((ss x0 0 (imn (x0.size : Int) 257)).size : Int)), (42, .bool (decide (((ss x0 0 (imn (x0.size : Int) 257)).size : Int) > 256))), (43, .bool (decide (((ss x0 0 (imn (x0.size : Int) 257)).size : Int) > 256))), (44, .bool (decide (((ss x0 0 (imn (x0.size : Int) 257)).size : Int) > 256))), (45, .bool (decide (((ss x0 0 (imn (x0.size : Int) 257)).size : Int) > 256))), (2, .bool (decide (((ss x0 0 (imn (x0.size : Int) 257)).size : Int) > 256)))] [.code (sub [1, 1, 1, 1, 0, 1, 0, 1] B3), .code (sub [1, 1, 1, 1, 1] B3)] (by kernel_rfl) ?_
                have p5 := (p5.front 0 _ rfl).drop
                exact Goes.jump 66 [(2, .bool (decide (((ss x0 0 (imn (x0.size : Int) 257)).size : Int) > 256)))] (by kernel_rfl) (W.tidepolelaw10_SyntaxReads_l0 nz wz S0 w0 Lr _ _ h _ _ (((((Ext.refl S0 w0).trans z2).trans z3).trans z4).trans z5) p5)
              · rw [decide_eq_false h24]
                refine Goes.runs 8 [(40, undef), (41, undef), (42, undef), (43, .bool false), (44, .bool false), (45, .bool false), (2, .bool false)] [.code (sub [1, 1, 1, 1, 0, 1, 0, 1] B3), .code (sub [1, 1, 1, 1, 1] B3)] (by kernel_rfl) ?_
                have p5 := (p5.front 0 _ rfl).drop
                exact Goes.jump 66 [(2, .bool false)] (by kernel_rfl) (W.tidepolelaw10_SyntaxReads_l0 nz wz S0 w0 Lr _ _ h _ _ (((((Ext.refl S0 w0).trans z2).trans z3).trans z4).trans z5) p5)
            · rw [decide_eq_false h23]
              refine Goes.runs 12 [(36, undef), (37, undef), (38, .bool false), (39, .bool false), (40, undef), (41, undef), (42, undef), (43, .bool false), (44, .bool false), (45, .bool false), (2, .bool false)] [.code (sub [1, 1, 1, 1, 0, 1, 0, 1] B3), .code (sub [1, 1, 1, 1, 1] B3)] (by kernel_rfl) ?_
              have p5 := (p5.front 0 _ rfl).drop
              exact Goes.jump 66 [(2, .bool false)] (by kernel_rfl) (W.tidepolelaw10_SyntaxReads_l0 nz wz S0 w0 Lr _ _ h _ _ (((((Ext.refl S0 w0).trans z2).trans z3).trans z4).trans z5) p5)
        · rw [decide_eq_false h21]
          refine Goes.runs 14 [(30, undef), (31, undef), (32, undef), (33, undef), (34, undef), (35, undef), (36, undef), (37, undef), (38, undef), (39, undef), (40, undef), (41, undef), (42, undef), (43, undef)] [.inRegion (opsOf (sub [1, 1, 1, 1, 0, 1, 0, 0] B3)) [23, 24, 25], .code (sub [1, 1, 1, 1, 0, 1, 0, 1] B3), .code (sub [1, 1, 1, 1, 1] B3)] (by kernel_rfl) ?_
          refine Goes.runs 4 [(44, undef), (45, .bool false), (2, .bool false)] [.code (sub [1, 1, 1, 1, 0, 1, 0, 1] B3), .code (sub [1, 1, 1, 1, 1] B3)] (by kernel_rfl) ?_
          have p5 := (p5.front 0 _ rfl).drop
          exact Goes.jump 66 [(2, .bool false)] (by kernel_rfl) (W.tidepolelaw10_SyntaxReads_l0 nz wz S0 w0 Lr _ _ h _ _ (((((Ext.refl S0 w0).trans z2).trans z3).trans z4).trans z5) p5)
      · rw [decide_eq_false h20]
        refine Goes.runs 14 [(24, undef), (25, undef), (26, undef), (27, undef), (28, .bool false), (29, .bool false), (30, undef), (31, undef), (32, undef), (33, undef), (34, undef), (35, undef), (36, undef), (37, undef)] [.inRegion (opsOf (sub [1, 1, 1, 1, 0, 1, 0, 0] B3)) [17, 18, 19, 20, 21, 22, 23, 24, 25], .code (sub [1, 1, 1, 1, 0, 1, 0, 1] B3), .code (sub [1, 1, 1, 1, 1] B3)] (by kernel_rfl) ?_
        refine Goes.runs 10 [(38, undef), (39, undef), (40, undef), (41, undef), (42, undef), (43, undef), (44, undef), (45, .bool false), (2, .bool false)] [.code (sub [1, 1, 1, 1, 0, 1, 0, 1] B3), .code (sub [1, 1, 1, 1, 1] B3)] (by kernel_rfl) ?_
        have p5 := (p5.front 0 _ rfl).drop
        exact Goes.jump 66 [(2, .bool false)] (by kernel_rfl) (W.tidepolelaw10_SyntaxReads_l0 nz wz S0 w0 Lr _ _ h _ _ (((((Ext.refl S0 w0).trans z2).trans z3).trans z4).trans z5) p5)
  · have h3' : y1 = false := by simpa using h3
    rw [h3']
    refine Goes.runs 5 [(2, .bool false)] [.code (sub [1, 0, 1, 0, 1] B3), .code (sub [1, 1] B3)] (by kernel_rfl) ?_
    obtain rfl := Option.some.inj h
    exact Goes.ret (fn := Try.f3) (by kernel_rfl) (v := .bool false) (by kernel_rfl) ⟨S2, rfl, ((Ext.refl S0 w0).trans z2), p2⟩

end Go.Gx
