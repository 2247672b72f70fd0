import Derived.Test.YtemokppdnkiejaaWSyna

set_option linter.unusedVariables false

set_option maxRecDepth 100000

set_option maxHeartbeats 4000000

namespace Go.Gx

open Go.RowKit Go.Proofs

/-! (*tidepole/syntax.parser).pair -/
theorem W.syntax_parser_pair (x0v : T48) (r : (List Int) × T48) (h : M.syntax_parser_pair x0v = some r) (nz : Nat) (wz : World) (S0 : Fz) (w0 : World) (Lr : List Ent) (gx0 : Nat) (vx0v_3 : Value) (p0 : Hp nz wz S0 w0 ((some gx0, .row 49 [.string x0v.s, .int .i64 x0v.at_, .int .i64 x0v.deep, vx0v_3] 4 0) :: Lr)) (fx0v_3 : PtO kT52 S0 w0 vx0v_3 x0v.bad) :
    Calls Try.prog 98 #[.pointer (some ⟨gx0, 0, none⟩)] w0 (Rets (Post.syntax_parser_pair nz wz S0 w0 Lr gx0 r)) := by
  refine calls_of_goes (fn := Try.f98) (c := B98) (by kernel_rfl) (by kernel_rfl) 71 (by kernel_rfl) ?_
  refine Goes.jump 72 [(0, .pointer (some ⟨gx0, 0, none⟩))] (by kernel_rfl) (fun junk => ?_)
  delta M.syntax_parser_pair at h
  refine Goes.runs 2 [] [.inRegion (opsOf (sub [0] B98)) [0], .code (sub [1] B98)] (by kernel_rfl) ?_
  refine Op_.alloc 25 2 0 (.agg #[.int .u64 0, .int .u64 0, .int .u64 0, .int .u64 0]) [.int .u64 0, .int .u64 0, .int .u64 0, .int .u64 0] p0 (Goes.vs (by kernel_rfl)) (by kernel_rfl) (by kernel_rfl) ?_
  intro b2 w2 z2 p2
  refine Goes.runs 6 [(7, .pointer (some ⟨gx0, 0, none⟩)), (8, .pointer (some ⟨gx0, 0, none⟩)), (9, .pointer (some ⟨gx0, 1, none⟩))] [.inRegion (opsOf (sub [1, 0] B98)) [3, 4], .code (sub [1, 1] B98)] (by kernel_rfl) ?_
  refine Op_.ld1 3 (.tmp 9) 10 3 ⟨gx0, 1, none⟩ (.int .i64 x0v.at_) (Goes.vs (by kernel_rfl)) (by kernel_rfl) (by kernel_rfl) ((p2.mem 1 rfl).cell 1 _ rfl) ?_
  refine Goes.runs 5 [(3, .int .i64 x0v.at_), (11, .pointer (some ⟨gx0, 0, none⟩))] [.inRegion (opsOf (sub [1, 1, 0] B98)) [1, 2, 3], .code (sub [1, 1, 1] B98)] (by kernel_rfl) ?_
  have p2 := p2.front 1 _ rfl
  refine bind_some' h fun y4 e5 h => ?_
  refine Op_.call (.call { callee := .value (.func 101), args := #[(.tmp 11)], argTypes := #[46] }) 12 136 101 #[.pointer (some ⟨gx0, 0, none⟩)] (Goes.cs (by kernel_rfl)) (by kernel_rfl) (W.syntax_parser_item x0v y4 e5 nz wz S0 w2 ((some b2, .row 25 [.int .u64 0, .int .u64 0, .int .u64 0, .int .u64 0] 4 0) :: Lr) gx0 vx0v_3 p2 (fx0v_3.ext z2)) ?_
  rintro _ w3 ⟨S3, ve0_3v_3, rfl, z3, p3, lr_3_0, fe0_3v_3⟩
  refine Op_.alloc 136 4 0 (.agg #[.int .u64 0, .int .u64 0, .int .u64 0, .int .u64 0, .int .u8 0, .bool false]) [.int .u64 0, .int .u64 0, .int .u64 0, .int .u64 0, .int .u8 0, .bool false] p3 (Goes.vs (by kernel_rfl)) (by kernel_rfl) (by kernel_rfl) ?_
  intro b6 w4 z4 p4
  refine Op_.st 136 (.tmp 4) (.tmp 12) 0 0 b6 0 (.agg #[.int .u64 (gi y4.1.set_ 0), .int .u64 (gi y4.1.set_ 1), .int .u64 (gi y4.1.set_ 2), .int .u64 (gi y4.1.set_ 3), .int .u8 y4.1.b, .bool y4.1.single]) [.int .u64 (gi y4.1.set_ 0), .int .u64 (gi y4.1.set_ 1), .int .u64 (gi y4.1.set_ 2), .int .u64 (gi y4.1.set_ 3), .int .u8 y4.1.b, .bool y4.1.single] p4 rfl (Goes.ss (by kernel_rfl)) (by kernel_rfl) (by kernel_rfl) (by kernel_rfl) (by kernel_rfl) (Nat.zero_le _) (by simp only [List.length_cons, List.length_nil]; omega) (by simp [Value.oneCell']) ?_
  intro w5 z5 p5
  refine Goes.runs 5 [(13, .pointer (some ⟨gx0, 0, none⟩))] [.inRegion (opsOf (sub [1, 1, 1, 0, 0] B98)) [1, 2], .code (sub [1, 1, 1, 0, 1] B98), .code (sub [1, 1, 1, 1] B98)] (by kernel_rfl) ?_
  have p5 := p5.front 1 _ rfl
  refine bind_some' h fun y8 e9 h => ?_
  refine Op_.call (.call { callee := .value (.func 54), args := #[(.tmp 13)], argTypes := #[46] }) 14 5 54 #[.pointer (some ⟨gx0, 0, none⟩)] (Goes.cs (by kernel_rfl)) (by kernel_rfl) (W.syntax_parser_peek y4.2 y8 e9 nz wz S3 w5 ((some b6, .row 136 [.int .u64 (gi y4.1.set_ 0), .int .u64 (gi y4.1.set_ 1), .int .u64 (gi y4.1.set_ 2), .int .u64 (gi y4.1.set_ 3), .int .u8 y4.1.b, .bool y4.1.single] 6 0) :: (some b2, .row 25 [.int .u64 0, .int .u64 0, .int .u64 0, .int .u64 0] 4 0) :: Lr) gx0 ve0_3v_3 p5 (fe0_3v_3.ext (z4.trans z5))) ?_
  rintro _ w6 ⟨S6, ve0_6v_3, rfl, z6, p6, fe0_6v_3⟩
  refine Goes.runs 2 [(15, .bool (!(decide (y8.1 = 45))))] [.code (sub [1, 1, 1, 0, 1] B98), .code (sub [1, 1, 1, 1] B98)] (by kernel_rfl) ?_
  refine ite_some h (fun h10 h => ?_) (fun h10 h => ?_)
  · rw [decide_eq_true h10]
    refine Goes.runs 6 [(18, .pointer (some ⟨b6, 5, none⟩))] [.inRegion (opsOf (sub [1, 1, 1, 1, 0, 0] B98)) [1, 2], .code (sub [1, 1, 1, 1, 0, 1] B98), .code (sub [1, 1, 1, 1, 1] B98)] (by kernel_rfl) ?_
    refine Op_.ld1 4 (.tmp 18) 19 4 ⟨b6, 5, none⟩ (.bool y4.1.single) (Goes.vs (by kernel_rfl)) (by kernel_rfl) (by kernel_rfl) ((p6.mem 1 rfl).cell 5 _ rfl) ?_
    refine Goes.runs 2 [(20, .bool (!y4.1.single))] [.code (sub [1, 1, 1, 1, 0, 1] B98), .code (sub [1, 1, 1, 1, 1] B98)] (by kernel_rfl) ?_
    refine ite_some h (fun h11 h => ?_) (fun h11 h => ?_)
    · rw [h11]
      have p6 : Hp nz wz S6 w6 ((some gx0, .row 49 [.string y8.2.s, .int .i64 y8.2.at_, .int .i64 y8.2.deep, ve0_6v_3] 4 0) :: (some b6, .row 136 [.int .u64 (gi y4.1.set_ 0), .int .u64 (gi y4.1.set_ 1), .int .u64 (gi y4.1.set_ 2), .int .u64 (gi y4.1.set_ 3), .int .u8 y4.1.b, .bool true] 6 0) :: (some b2, .row 25 [.int .u64 0, .int .u64 0, .int .u64 0, .int .u64 0] 4 0) :: Lr) := by simpa only [h11] using p6
      refine Goes.runs 7 [(29, .pointer (some ⟨gx0, 0, none⟩)), (30, .pointer (some ⟨gx0, 0, none⟩)), (31, .pointer (some ⟨gx0, 1, none⟩))] [.inRegion (opsOf (sub [1, 1, 1, 1, 1, 0] B98)) [3, 4, 5, 6, 7], .code (sub [1, 1, 1, 1, 1, 1] B98)] (by kernel_rfl) ?_
      refine Op_.ld1 3 (.tmp 31) 32 3 ⟨gx0, 1, none⟩ (.int .i64 y8.2.at_) (Goes.vs (by kernel_rfl)) (by kernel_rfl) (by kernel_rfl) ((p6.mem 0 rfl).cell 1 _ rfl) ?_
      refine Goes.runs 3 [(33, .int .i64 (wr .i64 (y8.2.at_ + 1))), (34, .pointer (some ⟨gx0, 0, none⟩)), (35, .pointer (some ⟨gx0, 1, none⟩))] [.inRegion (opsOf (sub [1, 1, 1, 1, 1, 0] B98)) [7], .code (sub [1, 1, 1, 1, 1, 1] B98)] (by kernel_rfl) ?_
      refine Op_.st 3 (.tmp 35) (.tmp 33) 0 0 gx0 1 (.int .i64 (wr .i64 (y8.2.at_ + 1))) [.int .i64 (wr .i64 (y8.2.at_ + 1))] p6 rfl (Goes.ss (by kernel_rfl)) (by kernel_rfl) (by kernel_rfl) (by kernel_rfl) (by kernel_rfl) (Nat.zero_le _) (by simp only [List.length_cons, List.length_nil]; omega) (by simp [Value.oneCell']) ?_
      intro w7 z7 p7
      refine Goes.runs 6 [(36, .pointer (some ⟨gx0, 0, none⟩)), (37, .pointer (some ⟨gx0, 0, none⟩)), (38, .pointer (some ⟨gx0, 1, none⟩))] [.inRegion (opsOf (sub [1, 1, 1, 1, 1, 1, 0] B98)) [3, 4], .code (sub [1, 1, 1, 1, 1, 1, 1] B98)] (by kernel_rfl) ?_
      refine Op_.ld1 3 (.tmp 38) 39 3 ⟨gx0, 1, none⟩ (.int .i64 (wr .i64 (y8.2.at_ + 1))) (Goes.vs (by kernel_rfl)) (by kernel_rfl) (by kernel_rfl) ((p7.mem 0 rfl).cell 1 _ rfl) ?_
      refine Goes.runs 5 [(5, .int .i64 (wr .i64 (y8.2.at_ + 1))), (40, .pointer (some ⟨gx0, 0, none⟩))] [.inRegion (opsOf (sub [1, 1, 1, 1, 1, 1, 1, 0] B98)) [1, 2, 3], .code (sub [1, 1, 1, 1, 1, 1, 1, 1] B98)] (by kernel_rfl) ?_
      refine bind_some' h fun y12 e13 h => ?_
      refine Op_.call (.call { callee := .value (.func 101), args := #[(.tmp 40)], argTypes := #[46] }) 41 136 101 #[.pointer (some ⟨gx0, 0, none⟩)] (Goes.cs (by kernel_rfl)) (by kernel_rfl) (W.syntax_parser_item (⟨y8.2.s, wr .i64 (y8.2.at_ + 1), y8.2.deep, y8.2.bad⟩ : T48) y12 e13 nz wz S6 w7 ((some b6, .row 136 [.int .u64 (gi y4.1.set_ 0), .int .u64 (gi y4.1.set_ 1), .int .u64 (gi y4.1.set_ 2), .int .u64 (gi y4.1.set_ 3), .int .u8 y4.1.b, .bool true] 6 0) :: (some b2, .row 25 [.int .u64 0, .int .u64 0, .int .u64 0, .int .u64 0] 4 0) :: Lr) gx0 ve0_6v_3 p7 (fe0_6v_3.ext z7)) ?_
      rintro _ w8 ⟨S8, ve0_8v_3, rfl, z8, p8, lr_8_0, fe0_8v_3⟩
      refine Op_.alloc 136 6 0 (.agg #[.int .u64 0, .int .u64 0, .int .u64 0, .int .u64 0, .int .u8 0, .bool false]) [.int .u64 0, .int .u64 0, .int .u64 0, .int .u64 0, .int .u8 0, .bool false] p8 (Goes.vs (by kernel_rfl)) (by kernel_rfl) (by kernel_rfl) ?_
      intro b14 w9 z9 p9
      refine Op_.st 136 (.tmp 6) (.tmp 41) 0 0 b14 0 (.agg #[.int .u64 (gi y12.1.set_ 0), .int .u64 (gi y12.1.set_ 1), .int .u64 (gi y12.1.set_ 2), .int .u64 (gi y12.1.set_ 3), .int .u8 y12.1.b, .bool y12.1.single]) [.int .u64 (gi y12.1.set_ 0), .int .u64 (gi y12.1.set_ 1), .int .u64 (gi y12.1.set_ 2), .int .u64 (gi y12.1.set_ 3), .int .u8 y12.1.b, .bool y12.1.single] p9 rfl (Goes.ss (by kernel_rfl)) (by kernel_rfl) (by kernel_rfl) (by kernel_rfl) (by kernel_rfl) (Nat.zero_le _) (by simp only [List.length_cons, List.length_nil]; omega) (by simp [Value.oneCell']) ?_
      intro w10 z10 p10
      refine Goes.runs 8 [(48, .pointer (some ⟨gx0, 0, none⟩)), (49, .pointer (some ⟨gx0, 0, none⟩)), (50, .pointer (some ⟨gx0, 3, none⟩))] [.inRegion (opsOf (sub [1, 1, 1, 1, 1, 1, 1, 1, 0, 0, 0] B98)) [3, 4, 5], .code (sub [1, 1, 1, 1, 1, 1, 1, 1, 0, 0, 1] B98), .inBlock 0, .code (sub [1, 1, 1, 1, 1, 1, 1, 1, 1] B98)] (by kernel_rfl) ?_
      refine Op_.ld1 47 (.tmp 50) 51 47 ⟨gx0, 3, none⟩ (ve0_8v_3) (Goes.vs (by kernel_rfl)) (by kernel_rfl) (by kernel_rfl) ((p10.mem 1 rfl).cell 3 _ rfl) ?_
      refine let_some h fun v25 h16 h => ?_
      rcases v25 with _ | y17
      · try dsimp only at h
        obtain rfl := PtO.nil (fe0_8v_3.ext (z9.trans z10)) h16
        refine Goes.runs 3 [(52, .bool false), (47, .bool false)] [.code (sub [1, 1, 1, 1, 1, 1, 1, 1, 0, 0, 1] B98), .inBlock 0, .code (sub [1, 1, 1, 1, 1, 1, 1, 1, 1] B98)] (by kernel_rfl) ?_
        have p10 := p10.front 1 _ rfl
        have p10 := p10.front 1 _ rfl
        have p10 := p10.front 2 _ rfl
        have p10 := p10.front 3 _ rfl
        exact Goes.jump 72 [(0, .pointer (some ⟨gx0, 0, none⟩)), (2, .pointer (some ⟨b2, 0, none⟩)), (3, .int .i64 x0v.at_), (4, .pointer (some ⟨b6, 0, none⟩)), (5, .int .i64 (wr .i64 (y8.2.at_ + 1))), (6, .pointer (some ⟨b14, 0, none⟩)), (47, .bool false)] (by kernel_rfl) (W.syntax_parser_pair_l0 nz wz S0 w0 Lr gx0 _ _ h _ _ ((((((((((Ext.refl S0 w0).trans z2).trans z3).trans z4).trans z5).trans z6).trans z7).trans z8).trans z9).trans z10) b2 b6 b14 (.pointer none) p10 rfl lr_3_0 lr_8_0 rfl)
      · try dsimp only at h
        obtain ⟨a19, _, rfl, -, f20, q21⟩ := PtO.got (fe0_8v_3.ext (z9.trans z10)) h16
        obtain rfl := q21
        refine Goes.runs 3 [(52, .bool true), (47, .bool true)] [.code (sub [1, 1, 1, 1, 1, 1, 1, 1, 0, 0, 1] B98), .inBlock 0, .code (sub [1, 1, 1, 1, 1, 1, 1, 1, 1] B98)] (by kernel_rfl) ?_
        have p10 := p10.front 1 _ rfl
        have p10 := p10.front 1 _ rfl
        have p10 := p10.front 2 _ rfl
        have p10 := p10.front 3 _ rfl
        exact Goes.jump 72 [(0, .pointer (some ⟨gx0, 0, none⟩)), (2, .pointer (some ⟨b2, 0, none⟩)), (3, .int .i64 x0v.at_), (4, .pointer (some ⟨b6, 0, none⟩)), (5, .int .i64 (wr .i64 (y8.2.at_ + 1))), (6, .pointer (some ⟨b14, 0, none⟩)), (47, .bool true)] (by kernel_rfl) (W.syntax_parser_pair_l0 nz wz S0 w0 Lr gx0 _ _ h _ _ ((((((((((Ext.refl S0 w0).trans z2).trans z3).trans z4).trans z5).trans z6).trans z7).trans z8).trans z9).trans z10) b2 b6 b14 (.pointer (some a19)) p10 rfl lr_3_0 lr_8_0 ⟨_, _, rfl, List.cons_ne_nil _ _, f20, rfl⟩)
    · have h11' : y4.1.single = false := by simpa using h11
      rw [h11']
      have p6 : Hp nz wz S6 w6 ((some gx0, .row 49 [.string y8.2.s, .int .i64 y8.2.at_, .int .i64 y8.2.deep, ve0_6v_3] 4 0) :: (some b6, .row 136 [.int .u64 (gi y4.1.set_ 0), .int .u64 (gi y4.1.set_ 1), .int .u64 (gi y4.1.set_ 2), .int .u64 (gi y4.1.set_ 3), .int .u8 y4.1.b, .bool false] 6 0) :: (some b2, .row 25 [.int .u64 0, .int .u64 0, .int .u64 0, .int .u64 0] 4 0) :: Lr) := by simpa only [h11'] using p6
      refine Goes.runs 7 [(21, .pointer (some ⟨gx0, 0, none⟩)), (22, .pointer (some ⟨gx0, 0, none⟩)), (23, .pointer (some ⟨gx0, 0, none⟩)), (24, .pointer (some ⟨gx0, 1, none⟩))] [.inRegion (opsOf (sub [1, 1, 1, 1, 0, 1, 0, 0] B98)) [4, 5], .code (sub [1, 1, 1, 1, 0, 1, 0, 1] B98), .code (sub [1, 1, 1, 1, 1] B98)] (by kernel_rfl) ?_
      refine Op_.ld1 3 (.tmp 24) 25 3 ⟨gx0, 1, none⟩ (.int .i64 y8.2.at_) (Goes.vs (by kernel_rfl)) (by kernel_rfl) (by kernel_rfl) ((p6.mem 0 rfl).cell 1 _ rfl) ?_
      refine bind_some' h fun y26 e27 h => ?_
      refine Op_.call (.call { callee := .value (.func 19), args := #[(.tmp 21), (.tmp 25)], argTypes := #[46, 3] }) 26 28 19 #[.pointer (some ⟨gx0, 0, none⟩), .int .i64 y8.2.at_] (Goes.cs (by kernel_rfl)) (by kernel_rfl) (W.syntax_parser_fail y8.2 y8.2.at_ y26 e27 nz wz S6 w6 ((some b6, .row 136 [.int .u64 (gi y4.1.set_ 0), .int .u64 (gi y4.1.set_ 1), .int .u64 (gi y4.1.set_ 2), .int .u64 (gi y4.1.set_ 3), .int .u8 y4.1.b, .bool false] 6 0) :: (some b2, .row 25 [.int .u64 0, .int .u64 0, .int .u64 0, .int .u64 0] 4 0) :: Lr) gx0 ve0_6v_3 p6 fe0_6v_3) ?_
      rintro _ w11 ⟨S11, Ar_11_2, nr_11_2, cr_11_2, ve0_11v_3, rfl, z11, p11, lr_11_1, fr_11_2, rfl, fe0_11v_3⟩
      refine Goes.runs 4 [(27, .pointer (some ⟨b6, 0, none⟩))] [.inRegion (opsOf (sub [1, 1, 1, 1, 0, 1, 0, 1, 0] B98)) [1, 2], .code (sub [1, 1, 1, 1, 0, 1, 0, 1, 1] B98), .code (sub [1, 1, 1, 1, 1] B98)] (by kernel_rfl) ?_
      refine Op_.ldN 25 (.tmp 27) 28 25 ⟨b6, 0, none⟩ [.int .u64 (gi y4.1.set_ 0), .int .u64 (gi y4.1.set_ 1), .int .u64 (gi y4.1.set_ 2), .int .u64 (gi y4.1.set_ 3)] (Goes.vs (by kernel_rfl)) (by kernel_rfl) (by kernel_rfl) (by kernel_rfl) (At_part (us := []) (vs := [.int .u64 (gi y4.1.set_ 0), .int .u64 (gi y4.1.set_ 1), .int .u64 (gi y4.1.set_ 2), .int .u64 (gi y4.1.set_ 3)]) (ws := [.int .u8 y4.1.b, .bool false]) (p11.mem 1 rfl) 0 rfl) ?_
      refine Op_.st 25 (.tmp 2) (.tmp 28) 0 2 b2 0 (.agg #[.int .u64 (gi y4.1.set_ 0), .int .u64 (gi y4.1.set_ 1), .int .u64 (gi y4.1.set_ 2), .int .u64 (gi y4.1.set_ 3)]) [.int .u64 (gi y4.1.set_ 0), .int .u64 (gi y4.1.set_ 1), .int .u64 (gi y4.1.set_ 2), .int .u64 (gi y4.1.set_ 3)] p11 rfl (Goes.ss (by kernel_rfl)) (by kernel_rfl) (by kernel_rfl) (by kernel_rfl) (by kernel_rfl) (Nat.zero_le _) (by simp only [List.length_cons, List.length_nil]; omega) (by simp [Value.oneCell']) ?_
      intro w12 z12 p12
      refine Goes.runs 1 [] [.code (sub [1, 1, 1, 1, 0, 1, 0, 1, 1] B98), .code (sub [1, 1, 1, 1, 1] B98)] (by kernel_rfl) ?_
      obtain rfl := Option.some.inj h
      have p12 := (p12.front 1 _ rfl).drop
      have p12 := p12.front 0 _ rfl
      have p12 := p12.front 1 _ rfl
      exact Goes.ret (fn := Try.f98) (by kernel_rfl) (v := .agg #[.int .u64 (gi y4.1.set_ 0), .int .u64 (gi y4.1.set_ 1), .int .u64 (gi y4.1.set_ 2), .int .u64 (gi y4.1.set_ 3)]) (results_n1 (fn := Try.f98) (a := .cell 2 25) (by kernel_rfl) (resV_cell ⟨b2, 0, none⟩ (by kernel_rfl) (run_loadN [.int .u64 (gi y4.1.set_ 0), .int .u64 (gi y4.1.set_ 1), .int .u64 (gi y4.1.set_ 2), .int .u64 (gi y4.1.set_ 3)] (by kernel_rfl) (by kernel_rfl) (At_part (us := []) (vs := [.int .u64 (gi y4.1.set_ 0), .int .u64 (gi y4.1.set_ 1), .int .u64 (gi y4.1.set_ 2), .int .u64 (gi y4.1.set_ 3)]) (ws := []) (p12.mem 0 rfl) 0 rfl)))) ⟨S11, ([.int .u64 (gi y4.1.set_ 0), .int .u64 (gi y4.1.set_ 1), .int .u64 (gi y4.1.set_ 2), .int .u64 (gi y4.1.set_ 3)] : List Value), ve0_11v_3, rfl, ((((((((Ext.refl S0 w0).trans z2).trans z3).trans z4).trans z5).trans z6).trans z11).trans z12), p12.drop, (els_mk4 (S := S11) (w := w12) (k := .u64) lr_3_0), rfl, (fe0_11v_3.ext z12)⟩
  · rw [decide_eq_false h10]
    refine Goes.runs 4 [(16, .pointer (some ⟨b6, 0, none⟩))] [.inRegion (opsOf (sub [1, 1, 1, 0, 1, 0, 0] B98)) [1, 2], .code (sub [1, 1, 1, 0, 1, 0, 1] B98), .code (sub [1, 1, 1, 1] B98)] (by kernel_rfl) ?_
    refine Op_.ldN 25 (.tmp 16) 17 25 ⟨b6, 0, none⟩ [.int .u64 (gi y4.1.set_ 0), .int .u64 (gi y4.1.set_ 1), .int .u64 (gi y4.1.set_ 2), .int .u64 (gi y4.1.set_ 3)] (Goes.vs (by kernel_rfl)) (by kernel_rfl) (by kernel_rfl) (by kernel_rfl) (At_part (us := []) (vs := [.int .u64 (gi y4.1.set_ 0), .int .u64 (gi y4.1.set_ 1), .int .u64 (gi y4.1.set_ 2), .int .u64 (gi y4.1.set_ 3)]) (ws := [.int .u8 y4.1.b, .bool y4.1.single]) (p6.mem 1 rfl) 0 rfl) ?_
    refine Op_.st 25 (.tmp 2) (.tmp 17) 0 2 b2 0 (.agg #[.int .u64 (gi y4.1.set_ 0), .int .u64 (gi y4.1.set_ 1), .int .u64 (gi y4.1.set_ 2), .int .u64 (gi y4.1.set_ 3)]) [.int .u64 (gi y4.1.set_ 0), .int .u64 (gi y4.1.set_ 1), .int .u64 (gi y4.1.set_ 2), .int .u64 (gi y4.1.set_ 3)] p6 rfl (Goes.ss (by kernel_rfl)) (by kernel_rfl) (by kernel_rfl) (by kernel_rfl) (by kernel_rfl) (Nat.zero_le _) (by simp only [List.length_cons, List.length_nil]; omega) (by simp [Value.oneCell']) ?_
    intro w13 z13 p13
    refine Goes.runs 1 [] [.code (sub [1, 1, 1, 0, 1, 0, 1] B98), .code (sub [1, 1, 1, 1] B98)] (by kernel_rfl) ?_
    obtain rfl := Option.some.inj h
    have p13 := (p13.front 1 _ rfl).drop
    have p13 := p13.front 0 _ rfl
    have p13 := p13.front 1 _ rfl
    exact Goes.ret (fn := Try.f98) (by kernel_rfl) (v := .agg #[.int .u64 (gi y4.1.set_ 0), .int .u64 (gi y4.1.set_ 1), .int .u64 (gi y4.1.set_ 2), .int .u64 (gi y4.1.set_ 3)]) (results_n1 (fn := Try.f98) (a := .cell 2 25) (by kernel_rfl) (resV_cell ⟨b2, 0, none⟩ (by kernel_rfl) (run_loadN [.int .u64 (gi y4.1.set_ 0), .int .u64 (gi y4.1.set_ 1), .int .u64 (gi y4.1.set_ 2), .int .u64 (gi y4.1.set_ 3)] (by kernel_rfl) (by kernel_rfl) (At_part (us := []) (vs := [.int .u64 (gi y4.1.set_ 0), .int .u64 (gi y4.1.set_ 1), .int .u64 (gi y4.1.set_ 2), .int .u64 (gi y4.1.set_ 3)]) (ws := []) (p13.mem 0 rfl) 0 rfl)))) ⟨S6, ([.int .u64 (gi y4.1.set_ 0), .int .u64 (gi y4.1.set_ 1), .int .u64 (gi y4.1.set_ 2), .int .u64 (gi y4.1.set_ 3)] : List Value), ve0_6v_3, rfl, (((((((Ext.refl S0 w0).trans z2).trans z3).trans z4).trans z5).trans z6).trans z13), p13.drop, (els_mk4 (S := S6) (w := w13) (k := .u64) lr_3_0), rfl, (fe0_6v_3.ext z13)⟩

/-! (*tidepole/syntax.parser).class -/
def Post.syntax_parser_class_r_2 (nz : Nat) (wz : World) (S0 : Fz) (w0 : World) (Lr : List Ent) (lk : Nat) (rk : Nat) (jkk : Nat → Value) (gkq2 : Nat) (Gkq2v_2 : Option Nat) (nkq2v_2 : Nat) (ckq2v_2 : Nat) (cskq2v_2 : List Value) (gkq4 : Nat) (gkq9b0 : Nat) (gkq9b0v_0 : Nat) (vkq9b0v_0v_3 : Value) (kq2v : T27) (kq3 : Bool) (kq9b0v_0v : T48) (r : List Int) (v : Value) (w' : World) : Prop :=
  ∃ (S' : Fz) (cse2 : List Value), v = .bool true ∧ Ext S0 w0 S' w' ∧ Hp nz wz S' w' ((some lk, .obj (lpst 83 (lfr 20 [(2, .pointer (some ⟨gkq2, 0, none⟩)), (3, .bool kq3), (4, .pointer (some ⟨gkq4, 0, none⟩)), (9, .func (.func 97) #[] #[.pointer (some ⟨gkq9b0, 0, none⟩)])] jkk) #[10] (rfAssign (sub [1, 1, 1, 0, 1, 0] B83)) (rfBody (sub [1, 1, 1, 0, 1, 0] B83)) rk .ready none)) :: (some gkq2, .row 28 [.int .i64 kq2v.Kind, .int .u64 (gi kq2v.Set 0), .int .u64 (gi kq2v.Set 1), .int .u64 (gi kq2v.Set 2), .int .u64 (gi kq2v.Set 3), .slice (Gp Gkq2v_2) nkq2v_2 ckq2v_2, .int .i64 kq2v.Min, .int .i64 kq2v.Max] 8 0) :: (Gkq2v_2, .row 28 cskq2v_2 (ckq2v_2 * kT27.size) 0) :: (some gkq4, .row 25 cse2 4 0) :: (some gkq9b0, .row 46 [.pointer (some ⟨gkq9b0v_0, 0, none⟩)] 1 0) :: (some gkq9b0v_0, .row 49 [.string kq9b0v_0v.s, .int .i64 kq9b0v_0v.at_, .int .i64 kq9b0v_0v.deep, vkq9b0v_0v_3] 4 0) :: Lr) ∧ Els (kInt .u64) S' w' cse2 r ∧ cse2.length = 4

theorem W.syntax_parser_class_r_2 (kq2v : T27) (kq3 : Bool) (kq4 : List Int) (kq9b0v_0v : T48) (a0 : List Int) (r : List Int) (h : M.syntax_parser_class_r_2 kq2v kq3 kq4 kq9b0v_0v a0 = some r) (nz : Nat) (wz : World) (S0 : Fz) (w0 : World) (Lr : List Ent) (lk : Nat) (rk : Nat) (jkk : Nat → Value) (gkq2 : Nat) (Gkq2v_2 : Option Nat) (nkq2v_2 : Nat) (ckq2v_2 : Nat) (cskq2v_2 : List Value) (gkq4 : Nat) (cskq4 : List Value) (gkq9b0 : Nat) (gkq9b0v_0 : Nat) (vkq9b0v_0v_3 : Value) (vsa0 : List Value) (p0 : Hp nz wz S0 w0 ((some lk, .obj (lpst 83 (lfr 20 [(2, .pointer (some ⟨gkq2, 0, none⟩)), (3, .bool kq3), (4, .pointer (some ⟨gkq4, 0, none⟩)), (9, .func (.func 97) #[] #[.pointer (some ⟨gkq9b0, 0, none⟩)])] jkk) #[10] (rfAssign (sub [1, 1, 1, 0, 1, 0] B83)) (rfBody (sub [1, 1, 1, 0, 1, 0] B83)) rk .ready none)) :: (some gkq2, .row 28 [.int .i64 kq2v.Kind, .int .u64 (gi kq2v.Set 0), .int .u64 (gi kq2v.Set 1), .int .u64 (gi kq2v.Set 2), .int .u64 (gi kq2v.Set 3), .slice (Gp Gkq2v_2) nkq2v_2 ckq2v_2, .int .i64 kq2v.Min, .int .i64 kq2v.Max] 8 0) :: (Gkq2v_2, .row 28 cskq2v_2 (ckq2v_2 * kT27.size) 0) :: (some gkq4, .row 25 cskq4 4 0) :: (some gkq9b0, .row 46 [.pointer (some ⟨gkq9b0v_0, 0, none⟩)] 1 0) :: (some gkq9b0v_0, .row 49 [.string kq9b0v_0v.s, .int .i64 kq9b0v_0v.at_, .int .i64 kq9b0v_0v.deep, vkq9b0v_0v_3] 4 0) :: Lr)) (lkq2v_1 : kq2v.Set.length = 4) (fkq2v_2 : Els kT27 S0 w0 cskq2v_2 kq2v.L) (lkq2v_2 : kq2v.L.length = nkq2v_2) (fkq4 : Els (kInt .u64) S0 w0 cskq4 kq4) (lkq4 : cskq4.length = 4) (fkq9b0v_0v_3 : PtO kT52 S0 w0 vkq9b0v_0v_3 kq9b0v_0v.bad) (fa0 : Els (kInt .u64) S0 w0 vsa0 a0) (la0 : vsa0.length = 4) :
    Goes Try.prog (rbase 83 lk) [.code (rfAssign (sub [1, 1, 1, 0, 1, 0] B83)), .beginRound, .code (rfBody (sub [1, 1, 1, 0, 1, 0] B83))] ⟨setp (lfr 20 [(2, .pointer (some ⟨gkq2, 0, none⟩)), (3, .bool kq3), (4, .pointer (some ⟨gkq4, 0, none⟩)), (9, .func (.func 97) #[] #[.pointer (some ⟨gkq9b0, 0, none⟩)])] jkk) #[10] #[.agg vsa0.toArray], []⟩ w0 (DoneR (Post.syntax_parser_class_r_2 nz wz S0 w0 Lr lk rk jkk gkq2 Gkq2v_2 nkq2v_2 ckq2v_2 cskq2v_2 gkq4 gkq9b0 gkq9b0v_0 vkq9b0v_0v_3 kq2v kq3 kq9b0v_0v r)) := by
  subst lkq2v_2
  refine Goes.jump 20 [(2, .pointer (some ⟨gkq2, 0, none⟩)), (3, .bool kq3), (4, .pointer (some ⟨gkq4, 0, none⟩)), (9, .func (.func 97) #[] #[.pointer (some ⟨gkq9b0, 0, none⟩)]), (10, .agg vsa0.toArray)] (by kernel_rfl) (fun junk => ?_)
  delta M.syntax_parser_class_r_2 at h
  refine Goes.runs 1 [] [.inRegion (opsOf (sub [1, 1, 1, 0, 1, 0, 0] B83)) [0, 1], .beginRound, .code (sub [1, 1, 1, 0, 1, 0, 1] B83)] (by kernel_rfl) ?_
  refine Op_.alloc 25 5 0 (.agg #[.int .u64 0, .int .u64 0, .int .u64 0, .int .u64 0]) [.int .u64 0, .int .u64 0, .int .u64 0, .int .u64 0] p0 (Goes.vs (by kernel_rfl)) (by kernel_rfl) (by kernel_rfl) ?_
  intro b7 w2 z2 p2
  have f9 : Els (kInt .u64) S0 w2 ([.int .u64 0, .int .u64 0, .int .u64 0, .int .u64 0] : List Value) [0, 0, 0, 0] := (Els.cons (K := (kInt .u64)) (vs := [.int .u64 0]) (x := 0) rfl (Els.cons (K := (kInt .u64)) (vs := [.int .u64 0]) (x := 0) rfl (Els.cons (K := (kInt .u64)) (vs := [.int .u64 0]) (x := 0) rfl (Els.cons (K := (kInt .u64)) (vs := [.int .u64 0]) (x := 0) rfl Els.nil))))
  refine Op_.stA 25 (.tmp 5) (.tmp 10) 0 0 b7 4 vsa0 p2 rfl rfl (Goes.ss (by kernel_rfl)) (by kernel_rfl) (by kernel_rfl) (by kernel_rfl) la0 (Els.one (fa0.ext z2)) ?_
  intro w3 z3 p3
  refine Goes.runs 1 [] [.beginRound, .code (sub [1, 1, 1, 0, 1, 0, 1] B83)] (by kernel_rfl) ?_
  refine Goes.beginR 1 rfl p3 rfl ?_
  intro w4 z4 p4
  refine Goes.runs 2 [] [.inRegion (opsOf (sub [1, 1, 1, 0, 1, 0, 1, 0] B83)) [0, 1, 2, 3, 4], .inBlock 1] (by kernel_rfl) ?_
  refine Op_.ldN 25 (.tmp 4) 11 25 ⟨gkq4, 0, none⟩ cskq4 (Goes.vs (by kernel_rfl)) (by kernel_rfl) (by kernel_rfl) (by rw [lkq4]; kernel_rfl) (At_all (p4.mem 4 rfl)) ?_
  refine Op_.ldN 25 (.tmp 5) 12 25 ⟨b7, 0, none⟩ vsa0 (Goes.vs (by kernel_rfl)) (by kernel_rfl) (by kernel_rfl) (by rw [la0]; kernel_rfl) (At_all (p4.mem 0 rfl)) ?_
  have l10 := Els.len1 (fkq4.ext ((z2.trans z3).trans z4)) lkq4 rfl
  obtain rfl := els_lit4 (fkq4.ext ((z2.trans z3).trans z4)) lkq4
  have l11 := Els.len1 (fa0.ext ((z2.trans z3).trans z4)) la0 rfl
  obtain rfl := els_lit4 (fa0.ext ((z2.trans z3).trans z4)) la0
  have f13 : Els (kArr 4 (kInt .u64)) S0 w4 ([.int .u64 (gi kq4 0), .int .u64 (gi kq4 1), .int .u64 (gi kq4 2), .int .u64 (gi kq4 3), .int .u64 (gi a0 0), .int .u64 (gi a0 1), .int .u64 (gi a0 2), .int .u64 (gi a0 3)] : List Value) [kq4, a0] := by exact (Els.cons (K := (kArr 4 (kInt .u64))) (vs := [.int .u64 (gi kq4 0), .int .u64 (gi kq4 1), .int .u64 (gi kq4 2), .int .u64 (gi kq4 3)]) (x := kq4) ⟨l10, els_mk4 l10⟩ (Els.cons (K := (kArr 4 (kInt .u64))) (vs := [.int .u64 (gi a0 0), .int .u64 (gi a0 1), .int .u64 (gi a0 2), .int .u64 (gi a0 3)]) (x := a0) ⟨l11, els_mk4 l11⟩ Els.nil))
  refine Op_.made (.buildSlice 149 2 #[(0, (.tmp 11)), (1, (.tmp 12))]) 13 149 (fun b => .slice (Gp (some b)) 2 2) 25 ([.int .u64 (gi kq4 0), .int .u64 (gi kq4 1), .int .u64 (gi kq4 2), .int .u64 (gi kq4 3), .int .u64 (gi a0 0), .int .u64 (gi a0 1), .int .u64 (gi a0 2), .int .u64 (gi a0 3)] : List Value) p4 (Goes.vs (by kernel_rfl)) (by kernel_rfl) ?_
  intro b12 w5 z5 p5
  have p5 : Hp nz wz S0 w5 (((some b12), .row 25 ([.int .u64 (gi kq4 0), .int .u64 (gi kq4 1), .int .u64 (gi kq4 2), .int .u64 (gi kq4 3), .int .u64 (gi a0 0), .int .u64 (gi a0 1), .int .u64 (gi a0 2), .int .u64 (gi a0 3)] : List Value) (2 * (kArr 4 (kInt .u64)).size) 0) :: (some b7, .row 25 ([.int .u64 (gi a0 0), .int .u64 (gi a0 1), .int .u64 (gi a0 2), .int .u64 (gi a0 3)] : List Value) 4 0) :: (some lk, .obj (lpst 83 (lfr 20 [(2, .pointer (some ⟨gkq2, 0, none⟩)), (3, .bool kq3), (4, .pointer (some ⟨gkq4, 0, none⟩)), (9, .func (.func 97) #[] #[.pointer (some ⟨gkq9b0, 0, none⟩)])] jkk) #[10] (rfAssign (sub [1, 1, 1, 0, 1, 0] B83)) (rfBody (sub [1, 1, 1, 0, 1, 0] B83)) rk .busy none)) :: (some gkq2, .row 28 [.int .i64 kq2v.Kind, .int .u64 (gi kq2v.Set 0), .int .u64 (gi kq2v.Set 1), .int .u64 (gi kq2v.Set 2), .int .u64 (gi kq2v.Set 3), .slice (Gp Gkq2v_2) kq2v.L.length ckq2v_2, .int .i64 kq2v.Min, .int .i64 kq2v.Max] 8 0) :: (Gkq2v_2, .row 28 cskq2v_2 (ckq2v_2 * kT27.size) 0) :: (some gkq4, .row 25 ([.int .u64 (gi kq4 0), .int .u64 (gi kq4 1), .int .u64 (gi kq4 2), .int .u64 (gi kq4 3)] : List Value) 4 0) :: (some gkq9b0, .row 46 [.pointer (some ⟨gkq9b0v_0, 0, none⟩)] 1 0) :: (some gkq9b0v_0, .row 49 [.string kq9b0v_0v.s, .int .i64 kq9b0v_0v.at_, .int .i64 kq9b0v_0v.deep, vkq9b0v_0v_3] 4 0) :: Lr) := p5
  obtain ⟨S6, z6, p6, f15⟩ := p5.freezeRd 0 rfl (f13.ext z5) (by decide)
  refine bind_some' h fun y16 e17 h => ?_
  refine Op_.call (.call { callee := .value (.func 92), args := #[(.tmp 13)], argTypes := #[149] }) 14 25 92 #[.slice (Gp (some b12)) 2 2] (Goes.cs (by kernel_rfl)) (by kernel_rfl) (W.syntax_join [kq4, a0] y16 e17 nz wz S6 w5 (((some b12), .row 25 ([.int .u64 (gi kq4 0), .int .u64 (gi kq4 1), .int .u64 (gi kq4 2), .int .u64 (gi kq4 3), .int .u64 (gi a0 0), .int .u64 (gi a0 1), .int .u64 (gi a0 2), .int .u64 (gi a0 3)] : List Value) (2 * (kArr 4 (kInt .u64)).size) (([.int .u64 (gi kq4 0), .int .u64 (gi kq4 1), .int .u64 (gi kq4 2), .int .u64 (gi kq4 3), .int .u64 (gi a0 0), .int .u64 (gi a0 1), .int .u64 (gi a0 2), .int .u64 (gi a0 3)] : List Value).length)) :: (some b7, .row 25 ([.int .u64 (gi a0 0), .int .u64 (gi a0 1), .int .u64 (gi a0 2), .int .u64 (gi a0 3)] : List Value) 4 0) :: (some lk, .obj (lpst 83 (lfr 20 [(2, .pointer (some ⟨gkq2, 0, none⟩)), (3, .bool kq3), (4, .pointer (some ⟨gkq4, 0, none⟩)), (9, .func (.func 97) #[] #[.pointer (some ⟨gkq9b0, 0, none⟩)])] jkk) #[10] (rfAssign (sub [1, 1, 1, 0, 1, 0] B83)) (rfBody (sub [1, 1, 1, 0, 1, 0] B83)) rk .busy none)) :: (some gkq2, .row 28 [.int .i64 kq2v.Kind, .int .u64 (gi kq2v.Set 0), .int .u64 (gi kq2v.Set 1), .int .u64 (gi kq2v.Set 2), .int .u64 (gi kq2v.Set 3), .slice (Gp Gkq2v_2) kq2v.L.length ckq2v_2, .int .i64 kq2v.Min, .int .i64 kq2v.Max] 8 0) :: (Gkq2v_2, .row 28 cskq2v_2 (ckq2v_2 * kT27.size) 0) :: (some gkq4, .row 25 ([.int .u64 (gi kq4 0), .int .u64 (gi kq4 1), .int .u64 (gi kq4 2), .int .u64 (gi kq4 3)] : List Value) 4 0) :: (some gkq9b0, .row 46 [.pointer (some ⟨gkq9b0v_0, 0, none⟩)] 1 0) :: (some gkq9b0v_0, .row 49 [.string kq9b0v_0v.s, .int .i64 kq9b0v_0v.at_, .int .i64 kq9b0v_0v.deep, vkq9b0v_0v_3] 4 0) :: Lr) (Gp (some b12)) 2 2 p6 f15 rfl) ?_
  rintro _ w7 ⟨S7, vsr_7, rfl, z7, p7, fr_7, lr_7⟩
  have p7 := (p7.front 0 _ rfl).drop
  have p7 := (p7.front 0 _ rfl).drop
  refine Op_.stA 25 (.tmp 4) (.tmp 14) 0 3 gkq4 4 vsr_7 p7 rfl lkq4 (Goes.ss (by kernel_rfl)) (by kernel_rfl) (by kernel_rfl) (by kernel_rfl) lr_7 (Els.one fr_7) ?_
  intro w8 z8 p8
  refine Goes.runs 2 [] [] (by kernel_rfl) ?_
  obtain rfl := Option.some.inj h
  refine Goes.endR 0 p8 rfl ?_
  intro w9 z9 p9
  exact ⟨S7, vsr_7, rfl, (((((((((Ext.refl S0 w0).trans z2).trans z3).trans z4).trans z5).trans z6).trans z7).trans z8).trans z9), p9, (fr_7.ext (z8.trans z9)), lr_7⟩

/-! (*tidepole/syntax.parser).items$1 -/
def Post.syntax_parser_items_1 (nz : Nat) (wz : World) (S0 : Fz) (w0 : World) (Lr : List Ent) (lx0 : Nat) (rx0 : Nat) (jkx0 : Nat → Value) (gx0q2 : Nat) (Gx0q2v_2 : Option Nat) (nx0q2v_2 : Nat) (cx0q2v_2 : Nat) (csx0q2v_2 : List Value) (gx0q4 : Nat) (gx0q9b0 : Nat) (gx0q9b0v_0 : Nat) (x0q2v : T27) (x0q3 : Bool) (r : (List Int) × T48) (v : Value) (w' : World) : Prop :=
  ∃ (S' : Fz) (cse2 : List Value) (ve4v_3 : Value), v = .tuple #[] ∧ Ext S0 w0 S' w' ∧ Hp nz wz S' w' ((some lx0, .obj (lpst 83 (lfr 20 [(2, .pointer (some ⟨gx0q2, 0, none⟩)), (3, .bool x0q3), (4, .pointer (some ⟨gx0q4, 0, none⟩)), (9, .func (.func 97) #[] #[.pointer (some ⟨gx0q9b0, 0, none⟩)])] jkx0) #[10] (rfAssign (sub [1, 1, 1, 0, 1, 0] B83)) (rfBody (sub [1, 1, 1, 0, 1, 0] B83)) rx0 .ready none)) :: (some gx0q2, .row 28 [.int .i64 x0q2v.Kind, .int .u64 (gi x0q2v.Set 0), .int .u64 (gi x0q2v.Set 1), .int .u64 (gi x0q2v.Set 2), .int .u64 (gi x0q2v.Set 3), .slice (Gp Gx0q2v_2) nx0q2v_2 cx0q2v_2, .int .i64 x0q2v.Min, .int .i64 x0q2v.Max] 8 0) :: (Gx0q2v_2, .row 28 csx0q2v_2 (cx0q2v_2 * kT27.size) 0) :: (some gx0q4, .row 25 cse2 4 0) :: (some gx0q9b0, .row 46 [.pointer (some ⟨gx0q9b0v_0, 0, none⟩)] 1 0) :: (some gx0q9b0v_0, .row 49 [.string r.2.s, .int .i64 r.2.at_, .int .i64 r.2.deep, ve4v_3] 4 0) :: Lr) ∧ Els (kInt .u64) S' w' cse2 r.1 ∧ cse2.length = 4 ∧ PtO kT52 S' w' ve4v_3 r.2.bad

def L.syntax_parser_items_1_l0 (nz : Nat) (wz : World) (S0 : Fz) (w0 : World) (Lr : List Ent) (lx0 : Nat) (rx0 : Nat) (jkx0 : Nat → Value) (gx0q2 : Nat) (Gx0q2v_2 : Option Nat) (nx0q2v_2 : Nat) (cx0q2v_2 : Nat) (csx0q2v_2 : List Value) (gx0q4 : Nat) (gx0q9b0 : Nat) (gx0q9b0v_0 : Nat) : Bool × (List Int) × T48 × T27 × Bool → ((List Int) × T48) → Prop := fun ⟨x3, e2, e4v, x0q2v, x0q3⟩ r => ∀ S1 w1, Ext S0 w0 S1 w1 → ∀ (cse2 : List Value) (ve4v_3 : Value) (_ : Hp nz wz S1 w1 ((some lx0, .obj (lpst 83 (lfr 20 [(2, .pointer (some ⟨gx0q2, 0, none⟩)), (3, .bool x0q3), (4, .pointer (some ⟨gx0q4, 0, none⟩)), (9, .func (.func 97) #[] #[.pointer (some ⟨gx0q9b0, 0, none⟩)])] jkx0) #[10] (rfAssign (sub [1, 1, 1, 0, 1, 0] B83)) (rfBody (sub [1, 1, 1, 0, 1, 0] B83)) rx0 .ready none)) :: (some gx0q2, .row 28 [.int .i64 x0q2v.Kind, .int .u64 (gi x0q2v.Set 0), .int .u64 (gi x0q2v.Set 1), .int .u64 (gi x0q2v.Set 2), .int .u64 (gi x0q2v.Set 3), .slice (Gp Gx0q2v_2) nx0q2v_2 cx0q2v_2, .int .i64 x0q2v.Min, .int .i64 x0q2v.Max] 8 0) :: (Gx0q2v_2, .row 28 csx0q2v_2 (cx0q2v_2 * kT27.size) 0) :: (some gx0q4, .row 25 cse2 4 0) :: (some gx0q9b0, .row 46 [.pointer (some ⟨gx0q9b0v_0, 0, none⟩)] 1 0) :: (some gx0q9b0v_0, .row 49 [.string e4v.s, .int .i64 e4v.at_, .int .i64 e4v.deep, ve4v_3] 4 0) :: Lr)) (_ : x0q2v.Set.length = 4) (_ : Els kT27 S1 w1 csx0q2v_2 x0q2v.L) (_ : x0q2v.L.length = nx0q2v_2) (_ : Els (kInt .u64) S1 w1 cse2 e2) (_ : cse2.length = 4) (_ : PtO kT52 S1 w1 ve4v_3 e4v.bad) (junk : Nat → Value),
  Goes Try.prog (base 97) [.code (sub [1, 0, 0] B97), .inLoop (sub [1, 0, 0] B97), .inBlock 0] ⟨lfr 22 [(0, yieldV lx0), (1, .pointer (some ⟨gx0q9b0, 0, none⟩)), (3, .bool x3)] junk, []⟩ w1 (Done Try.prog 97 (Rets (Post.syntax_parser_items_1 nz wz S0 w0 Lr lx0 rx0 jkx0 gx0q2 Gx0q2v_2 nx0q2v_2 cx0q2v_2 csx0q2v_2 gx0q4 gx0q9b0 gx0q9b0v_0 x0q2v x0q3 r)))

def L.syntax_parser_items_1_l1 (nz : Nat) (wz : World) (S0 : Fz) (w0 : World) (Lr : List Ent) (lx0 : Nat) (rx0 : Nat) (jkx0 : Nat → Value) (gx0q2 : Nat) (Gx0q2v_2 : Option Nat) (nx0q2v_2 : Nat) (cx0q2v_2 : Nat) (csx0q2v_2 : List Value) (gx0q4 : Nat) (gx0q9b0 : Nat) (gx0q9b0v_0 : Nat) : Bool × (List Int) × T48 × T27 × Bool → ((List Int) × T48) → Prop := fun ⟨x16, e2, e4v, x0q2v, x0q3⟩ r => ∀ S1 w1, Ext S0 w0 S1 w1 → ∀ (cse2 : List Value) (ve4v_3 : Value) (_ : Hp nz wz S1 w1 ((some lx0, .obj (lpst 83 (lfr 20 [(2, .pointer (some ⟨gx0q2, 0, none⟩)), (3, .bool x0q3), (4, .pointer (some ⟨gx0q4, 0, none⟩)), (9, .func (.func 97) #[] #[.pointer (some ⟨gx0q9b0, 0, none⟩)])] jkx0) #[10] (rfAssign (sub [1, 1, 1, 0, 1, 0] B83)) (rfBody (sub [1, 1, 1, 0, 1, 0] B83)) rx0 .ready none)) :: (some gx0q2, .row 28 [.int .i64 x0q2v.Kind, .int .u64 (gi x0q2v.Set 0), .int .u64 (gi x0q2v.Set 1), .int .u64 (gi x0q2v.Set 2), .int .u64 (gi x0q2v.Set 3), .slice (Gp Gx0q2v_2) nx0q2v_2 cx0q2v_2, .int .i64 x0q2v.Min, .int .i64 x0q2v.Max] 8 0) :: (Gx0q2v_2, .row 28 csx0q2v_2 (cx0q2v_2 * kT27.size) 0) :: (some gx0q4, .row 25 cse2 4 0) :: (some gx0q9b0, .row 46 [.pointer (some ⟨gx0q9b0v_0, 0, none⟩)] 1 0) :: (some gx0q9b0v_0, .row 49 [.string e4v.s, .int .i64 e4v.at_, .int .i64 e4v.deep, ve4v_3] 4 0) :: Lr)) (_ : x0q2v.Set.length = 4) (_ : Els kT27 S1 w1 csx0q2v_2 x0q2v.L) (_ : x0q2v.L.length = nx0q2v_2) (_ : Els (kInt .u64) S1 w1 cse2 e2) (_ : cse2.length = 4) (_ : PtO kT52 S1 w1 ve4v_3 e4v.bad) (junk : Nat → Value),
  Goes Try.prog (base 97) [.code (sub [1, 0, 0, 0, 1] B97), .code (sub [1, 0, 0, 1] B97), .inLoop (sub [1, 0, 0] B97), .inBlock 0] ⟨lfr 22 [(0, yieldV lx0), (1, .pointer (some ⟨gx0q9b0, 0, none⟩)), (16, .bool x16)] junk, []⟩ w1 (Done Try.prog 97 (Rets (Post.syntax_parser_items_1 nz wz S0 w0 Lr lx0 rx0 jkx0 gx0q2 Gx0q2v_2 nx0q2v_2 cx0q2v_2 csx0q2v_2 gx0q4 gx0q9b0 gx0q9b0v_0 x0q2v x0q3 r)))

theorem W.syntax_parser_items_1_l0_all (nz : Nat) (wz : World) (S0 : Fz) (w0 : World) (Lr : List Ent) (lx0 : Nat) (rx0 : Nat) (jkx0 : Nat → Value) (gx0q2 : Nat) (Gx0q2v_2 : Option Nat) (nx0q2v_2 : Nat) (cx0q2v_2 : Nat) (csx0q2v_2 : List Value) (gx0q4 : Nat) (gx0q9b0 : Nat) (gx0q9b0v_0 : Nat) : (∀ a r, M.syntax_parser_items_1_l0 a = some r → (L.syntax_parser_items_1_l0 nz wz S0 w0 Lr lx0 rx0 jkx0 gx0q2 Gx0q2v_2 nx0q2v_2 cx0q2v_2 csx0q2v_2 gx0q4 gx0q9b0 gx0q9b0v_0) a r) ∧ (∀ a r, M.syntax_parser_items_1_l1 a = some r → (L.syntax_parser_items_1_l1 nz wz S0 w0 Lr lx0 rx0 jkx0 gx0q2 Gx0q2v_2 nx0q2v_2 cx0q2v_2 csx0q2v_2 gx0q4 gx0q9b0 gx0q9b0v_0) a r) := by
  refine M.syntax_parser_items_1_l0.mutual_partial_correctness (L.syntax_parser_items_1_l0 nz wz S0 w0 Lr lx0 rx0 jkx0 gx0q2 Gx0q2v_2 nx0q2v_2 cx0q2v_2 csx0q2v_2 gx0q4 gx0q9b0 gx0q9b0v_0) (L.syntax_parser_items_1_l1 nz wz S0 w0 Lr lx0 rx0 jkx0 gx0q2 Gx0q2v_2 nx0q2v_2 cx0q2v_2 csx0q2v_2 gx0q4 gx0q9b0 gx0q9b0v_0) ?_ ?_
  · intro rec_syntax_parser_items_1_l1 ih_syntax_parser_items_1_l1 ⟨x3, e2, e4v, x0q2v, x0q3⟩ r h S1 w1 hx cse2 ve4v_3 p1 lx0q2v_1 fs1 ls1 fe2 le2 fe4v_3 junk
    try dsimp only at h
    subst ls1
    refine Goes.runs 3 [] [.inRegion (opsOf (sub [1, 0, 0, 0, 0] B97)) [0, 1, 2, 3, 4, 5, 6, 7, 8, 9, 10, 11, 12], .code (sub [1, 0, 0, 0, 1] B97), .code (sub [1, 0, 0, 1] B97), .inLoop (sub [1, 0, 0] B97), .inBlock 0] (by kernel_rfl) ?_
    refine Op_.ld1 46 (.tmp 1) 4 46 ⟨gx0q9b0, 0, none⟩ (.pointer (some ⟨gx0q9b0v_0, 0, none⟩)) (Goes.vs (by kernel_rfl)) (by kernel_rfl) (by kernel_rfl) ((p1.mem 4 rfl).cell 0 _ rfl) ?_
    refine Goes.runs 2 [(5, .pointer (some ⟨gx0q9b0v_0, 0, none⟩)), (6, .pointer (some ⟨gx0q9b0v_0, 3, none⟩))] [.inRegion (opsOf (sub [1, 0, 0, 0, 0] B97)) [3, 4, 5, 6, 7, 8, 9, 10, 11, 12], .code (sub [1, 0, 0, 0, 1] B97), .code (sub [1, 0, 0, 1] B97), .inLoop (sub [1, 0, 0] B97), .inBlock 0] (by kernel_rfl) ?_
    refine Op_.ld1 47 (.tmp 6) 7 47 ⟨gx0q9b0v_0, 3, none⟩ (ve4v_3) (Goes.vs (by kernel_rfl)) (by kernel_rfl) (by kernel_rfl) ((p1.mem 5 rfl).cell 3 _ rfl) ?_
    refine let_some h fun v17 h8 h => ?_
    rcases v17 with _ | y9
    · try dsimp only at h
      obtain rfl := PtO.nil fe4v_3 h8
      refine Goes.runs 4 [(8, .bool true), (9, .bool true), (10, .bool x3), (11, .bool x3)] [.inRegion (opsOf (sub [1, 0, 0, 0, 0] B97)) [8, 9, 10, 11, 12], .code (sub [1, 0, 0, 0, 1] B97), .code (sub [1, 0, 0, 1] B97), .inLoop (sub [1, 0, 0] B97), .inBlock 0] (by kernel_rfl) ?_
      refine ite_some h (fun h14 h => ?_) (fun h14 h => ?_)
      · rw [h14]
        refine Goes.runs 6 [(12, undef), (13, undef), (14, undef), (15, .bool true), (16, .bool true)] [.code (sub [1, 0, 0, 0, 1] B97), .code (sub [1, 0, 0, 1] B97), .inLoop (sub [1, 0, 0] B97), .inBlock 0] (by kernel_rfl) ?_
        exact Goes.jump 22 [(0, yieldV lx0), (1, .pointer (some ⟨gx0q9b0, 0, none⟩)), (16, .bool true)] (by kernel_rfl) (ih_syntax_parser_items_1_l1 _ _ h _ _ hx cse2 (.pointer none) p1 lx0q2v_1 fs1 rfl fe2 le2 rfl)
      · have h14' : x3 = false := by simpa using h14
        rw [h14']
        refine Op_.ld1 46 (.tmp 1) 12 46 ⟨gx0q9b0, 0, none⟩ (.pointer (some ⟨gx0q9b0v_0, 0, none⟩)) (Goes.vs (by kernel_rfl)) (by kernel_rfl) (by kernel_rfl) ((p1.mem 4 rfl).cell 0 _ rfl) ?_
        have p1 := p1.front 5 _ rfl
        refine bind_some' h fun y15 e16 h => ?_
        refine Op_.call (.call { callee := .value (.func 35), args := #[(.tmp 12), (.const (.int .u8 93))], argTypes := #[46, 5] }) 13 4 35 #[.pointer (some ⟨gx0q9b0v_0, 0, none⟩), .int .u8 93] (Goes.cs (by kernel_rfl)) (by kernel_rfl) (W.syntax_parser_take (⟨e4v.s, e4v.at_, e4v.deep, none⟩ : T48) 93 y15 e16 nz wz S1 w1 ((some lx0, .obj (lpst 83 (lfr 20 [(2, .pointer (some ⟨gx0q2, 0, none⟩)), (3, .bool x0q3), (4, .pointer (some ⟨gx0q4, 0, none⟩)), (9, .func (.func 97) #[] #[.pointer (some ⟨gx0q9b0, 0, none⟩)])] jkx0) #[10] (rfAssign (sub [1, 1, 1, 0, 1, 0] B83)) (rfBody (sub [1, 1, 1, 0, 1, 0] B83)) rx0 .ready none)) :: (some gx0q2, .row 28 [.int .i64 x0q2v.Kind, .int .u64 (gi x0q2v.Set 0), .int .u64 (gi x0q2v.Set 1), .int .u64 (gi x0q2v.Set 2), .int .u64 (gi x0q2v.Set 3), .slice (Gp Gx0q2v_2) x0q2v.L.length cx0q2v_2, .int .i64 x0q2v.Min, .int .i64 x0q2v.Max] 8 0) :: (Gx0q2v_2, .row 28 csx0q2v_2 (cx0q2v_2 * kT27.size) 0) :: (some gx0q4, .row 25 cse2 4 0) :: (some gx0q9b0, .row 46 [.pointer (some ⟨gx0q9b0v_0, 0, none⟩)] 1 0) :: Lr) gx0q9b0v_0 (.pointer none) p1 rfl) ?_
        rintro _ w2 ⟨S2, ve0_2v_3, rfl, z2, p2, fe0_2v_3⟩
        refine Goes.runs 4 [(14, .bool (!y15.1)), (15, .bool (!y15.1)), (16, .bool (!y15.1))] [.code (sub [1, 0, 0, 0, 1] B97), .code (sub [1, 0, 0, 1] B97), .inLoop (sub [1, 0, 0] B97), .inBlock 0] (by kernel_rfl) ?_
        have p2 := p2.front 0 _ rfl
        have p2 := p2.front 5 _ rfl
        have p2 := p2.front 5 _ rfl
        have p2 := p2.front 5 _ rfl
        have p2 := p2.front 5 _ rfl
        have p2 := p2.front 5 _ rfl
        exact Goes.jump 22 [(0, yieldV lx0), (1, .pointer (some ⟨gx0q9b0, 0, none⟩)), (16, .bool (!y15.1))] (by kernel_rfl) (ih_syntax_parser_items_1_l1 _ _ h _ _ (hx.trans z2) cse2 ve0_2v_3 p2 lx0q2v_1 (fs1.ext z2) rfl (fe2.ext z2) le2 fe0_2v_3)
    · try dsimp only at h
      obtain ⟨a11, _, rfl, -, f12, q13⟩ := PtO.got fe4v_3 h8
      obtain rfl := q13
      refine Goes.runs 10 [(8, .bool false), (9, .bool false), (10, undef), (11, undef), (12, undef), (13, undef), (14, undef), (15, undef), (16, .bool false)] [.code (sub [1, 0, 0, 0, 1] B97), .code (sub [1, 0, 0, 1] B97), .inLoop (sub [1, 0, 0] B97), .inBlock 0] (by kernel_rfl) ?_
      exact Goes.jump 22 [(0, yieldV lx0), (1, .pointer (some ⟨gx0q9b0, 0, none⟩)), (16, .bool false)] (by kernel_rfl) (ih_syntax_parser_items_1_l1 _ _ h _ _ hx cse2 (.pointer (some a11)) p1 lx0q2v_1 fs1 rfl fe2 le2 ⟨_, _, rfl, List.cons_ne_nil _ _, f12, rfl⟩)
  · intro rec_syntax_parser_items_1_l0 ih_syntax_parser_items_1_l0 ⟨x16, e2, e4v, x0q2v, x0q3⟩ r h S1 w1 hx cse2 ve4v_3 p1 lx0q2v_1 fs1 ls1 fe2 le2 fe4v_3 junk
    try dsimp only at h
    subst ls1
    refine ite_some h (fun h18 h => ?_) (fun h18 h => ?_)
    · rw [h18]
      refine Goes.runs 7 [(17, yieldV lx0)] [.inRegion (opsOf (sub [1, 0, 0, 1, 0, 0, 0] B97)) [1, 2, 3, 4], .code (sub [1, 0, 0, 1, 0, 0, 1] B97), .inBlock 1, .code (sub [1, 0, 0, 1, 1] B97), .inLoop (sub [1, 0, 0] B97), .inBlock 0] (by kernel_rfl) ?_
      refine Op_.ld1 46 (.tmp 1) 18 46 ⟨gx0q9b0, 0, none⟩ (.pointer (some ⟨gx0q9b0v_0, 0, none⟩)) (Goes.vs (by kernel_rfl)) (by kernel_rfl) (by kernel_rfl) ((p1.mem 4 rfl).cell 0 _ rfl) ?_
      have p1 := p1.front 5 _ rfl
      refine bind_some' h fun y19 e20 h => ?_
      refine Op_.call (.call { callee := .value (.func 98), args := #[(.tmp 18)], argTypes := #[46] }) 19 25 98 #[.pointer (some ⟨gx0q9b0v_0, 0, none⟩)] (Goes.cs (by kernel_rfl)) (by kernel_rfl) (W.syntax_parser_pair e4v y19 e20 nz wz S1 w1 ((some lx0, .obj (lpst 83 (lfr 20 [(2, .pointer (some ⟨gx0q2, 0, none⟩)), (3, .bool x0q3), (4, .pointer (some ⟨gx0q4, 0, none⟩)), (9, .func (.func 97) #[] #[.pointer (some ⟨gx0q9b0, 0, none⟩)])] jkx0) #[10] (rfAssign (sub [1, 1, 1, 0, 1, 0] B83)) (rfBody (sub [1, 1, 1, 0, 1, 0] B83)) rx0 .ready none)) :: (some gx0q2, .row 28 [.int .i64 x0q2v.Kind, .int .u64 (gi x0q2v.Set 0), .int .u64 (gi x0q2v.Set 1), .int .u64 (gi x0q2v.Set 2), .int .u64 (gi x0q2v.Set 3), .slice (Gp Gx0q2v_2) x0q2v.L.length cx0q2v_2, .int .i64 x0q2v.Min, .int .i64 x0q2v.Max] 8 0) :: (Gx0q2v_2, .row 28 csx0q2v_2 (cx0q2v_2 * kT27.size) 0) :: (some gx0q4, .row 25 cse2 4 0) :: (some gx0q9b0, .row 46 [.pointer (some ⟨gx0q9b0v_0, 0, none⟩)] 1 0) :: Lr) gx0q9b0v_0 ve4v_3 p1 fe4v_3) ?_
      rintro _ w3 ⟨S3, vsr_3, ve0_3v_3, rfl, z3, p3, fr_3, lr_3, fe0_3v_3⟩
      have p3 := p3.front 0 _ rfl
      have p3 := p3.front 5 _ rfl
      have p3 := p3.front 5 _ rfl
      have p3 := p3.front 5 _ rfl
      have p3 := p3.front 5 _ rfl
      have p3 := p3.front 5 _ rfl
      refine bind_some' h fun y21 e22 h => ?_
      refine Goes.yieldAt (.call { callee := .value (.tmp 17), args := #[(.tmp 19)], argTypes := #[25] }) 20 4 0 lx0 #[.agg vsr_3.toArray] p3 rfl (by kernel_rfl) rfl (fun _ => by kernel_rfl) rfl (W.syntax_parser_class_r_2 x0q2v x0q3 e2 y19.2 y19.1 y21 e22 nz wz S3 w3 (Lr) lx0 rx0 jkx0 gx0q2 Gx0q2v_2 x0q2v.L.length cx0q2v_2 csx0q2v_2 gx0q4 cse2 gx0q9b0 gx0q9b0v_0 ve0_3v_3 vsr_3 p3 lx0q2v_1 (fs1.ext z3) rfl (fe2.ext z3) le2 fe0_3v_3 fr_3 lr_3) ?_
      rintro _ w4 ⟨S4, cse2_4, rfl, z4, p4, fe2_4, le2_4⟩
      refine Goes.runs 9 [(21, .bool (!true)), (3, .bool false)] [.code (sub [1, 0, 0] B97), .inLoop (sub [1, 0, 0] B97), .inBlock 0] (by kernel_rfl) ?_
      exact Goes.jump 22 [(0, yieldV lx0), (1, .pointer (some ⟨gx0q9b0, 0, none⟩)), (3, .bool false)] (by kernel_rfl) (ih_syntax_parser_items_1_l0 _ _ h _ _ ((hx.trans z3).trans z4) cse2_4 ve0_3v_3 p4 lx0q2v_1 (fs1.ext (z3.trans z4)) rfl fe2_4 le2_4 (fe0_3v_3.ext z4))
    · have h18' : x16 = false := by simpa using h18
      rw [h18']
      refine Goes.runs 2 [] [] (by kernel_rfl) ?_
      obtain rfl := Option.some.inj h
      exact Goes.end_ (fn := Try.f97) (by kernel_rfl) (v := .tuple #[]) (by kernel_rfl) ⟨S1, cse2, ve4v_3, rfl, hx, p1, fe2, le2, fe4v_3⟩

theorem W.syntax_parser_items_1_l0 (nz : Nat) (wz : World) (S0 : Fz) (w0 : World) (Lr : List Ent) (lx0 : Nat) (rx0 : Nat) (jkx0 : Nat → Value) (gx0q2 : Nat) (Gx0q2v_2 : Option Nat) (nx0q2v_2 : Nat) (cx0q2v_2 : Nat) (csx0q2v_2 : List Value) (gx0q4 : Nat) (gx0q9b0 : Nat) (gx0q9b0v_0 : Nat) : ∀ a r, M.syntax_parser_items_1_l0 a = some r → (L.syntax_parser_items_1_l0 nz wz S0 w0 Lr lx0 rx0 jkx0 gx0q2 Gx0q2v_2 nx0q2v_2 cx0q2v_2 csx0q2v_2 gx0q4 gx0q9b0 gx0q9b0v_0) a r := (W.syntax_parser_items_1_l0_all nz wz S0 w0 Lr lx0 rx0 jkx0 gx0q2 Gx0q2v_2 nx0q2v_2 cx0q2v_2 csx0q2v_2 gx0q4 gx0q9b0 gx0q9b0v_0).1

theorem W.syntax_parser_items_1_l1 (nz : Nat) (wz : World) (S0 : Fz) (w0 : World) (Lr : List Ent) (lx0 : Nat) (rx0 : Nat) (jkx0 : Nat → Value) (gx0q2 : Nat) (Gx0q2v_2 : Option Nat) (nx0q2v_2 : Nat) (cx0q2v_2 : Nat) (csx0q2v_2 : List Value) (gx0q4 : Nat) (gx0q9b0 : Nat) (gx0q9b0v_0 : Nat) : ∀ a r, M.syntax_parser_items_1_l1 a = some r → (L.syntax_parser_items_1_l1 nz wz S0 w0 Lr lx0 rx0 jkx0 gx0q2 Gx0q2v_2 nx0q2v_2 cx0q2v_2 csx0q2v_2 gx0q4 gx0q9b0 gx0q9b0v_0) a r := (W.syntax_parser_items_1_l0_all nz wz S0 w0 Lr lx0 rx0 jkx0 gx0q2 Gx0q2v_2 nx0q2v_2 cx0q2v_2 csx0q2v_2 gx0q4 gx0q9b0 gx0q9b0v_0).2

/-! (*tidepole/syntax.parser).items$1 -/
theorem W.syntax_parser_items_1 (x0q2v : T27) (x0q3 : Bool) (x0q4v_0 : List Int) (x0q9b0v_0v : T48) (r : (List Int) × T48) (h : M.syntax_parser_items_1 x0q2v x0q3 x0q4v_0 x0q9b0v_0v = some r) (nz : Nat) (wz : World) (S0 : Fz) (w0 : World) (Lr : List Ent) (lx0 : Nat) (rx0 : Nat) (jkx0 : Nat → Value) (gx0q2 : Nat) (Gx0q2v_2 : Option Nat) (nx0q2v_2 : Nat) (cx0q2v_2 : Nat) (csx0q2v_2 : List Value) (gx0q4 : Nat) (gx0q9b0 : Nat) (gx0q9b0v_0 : Nat) (vx0q9b0v_0v_3 : Value) (p0 : Hp nz wz S0 w0 ((some lx0, .obj (lpst 83 (lfr 20 [(2, .pointer (some ⟨gx0q2, 0, none⟩)), (3, .bool x0q3), (4, .pointer (some ⟨gx0q4, 0, none⟩)), (9, .func (.func 97) #[] #[.pointer (some ⟨gx0q9b0, 0, none⟩)])] jkx0) #[10] (rfAssign (sub [1, 1, 1, 0, 1, 0] B83)) (rfBody (sub [1, 1, 1, 0, 1, 0] B83)) rx0 .ready none)) :: (some gx0q2, .row 28 [.int .i64 x0q2v.Kind, .int .u64 (gi x0q2v.Set 0), .int .u64 (gi x0q2v.Set 1), .int .u64 (gi x0q2v.Set 2), .int .u64 (gi x0q2v.Set 3), .slice (Gp Gx0q2v_2) nx0q2v_2 cx0q2v_2, .int .i64 x0q2v.Min, .int .i64 x0q2v.Max] 8 0) :: (Gx0q2v_2, .row 28 csx0q2v_2 (cx0q2v_2 * kT27.size) 0) :: (some gx0q4, .row 25 [.int .u64 (gi x0q4v_0 0), .int .u64 (gi x0q4v_0 1), .int .u64 (gi x0q4v_0 2), .int .u64 (gi x0q4v_0 3)] 4 0) :: (some gx0q9b0, .row 46 [.pointer (some ⟨gx0q9b0v_0, 0, none⟩)] 1 0) :: (some gx0q9b0v_0, .row 49 [.string x0q9b0v_0v.s, .int .i64 x0q9b0v_0v.at_, .int .i64 x0q9b0v_0v.deep, vx0q9b0v_0v_3] 4 0) :: Lr)) (lx0q2v_1 : x0q2v.Set.length = 4) (fx0q2v_2 : Els kT27 S0 w0 csx0q2v_2 x0q2v.L) (lx0q2v_2 : x0q2v.L.length = nx0q2v_2) (lx0q4v_0 : x0q4v_0.length = 4) (fx0q9b0v_0v_3 : PtO kT52 S0 w0 vx0q9b0v_0v_3 x0q9b0v_0v.bad) :
    Calls Try.prog 97 #[yieldV lx0, .pointer (some ⟨gx0q9b0, 0, none⟩)] w0 (Rets (Post.syntax_parser_items_1 nz wz S0 w0 Lr lx0 rx0 jkx0 gx0q2 Gx0q2v_2 nx0q2v_2 cx0q2v_2 csx0q2v_2 gx0q4 gx0q9b0 gx0q9b0v_0 x0q2v x0q3 r)) := by
  subst lx0q2v_2
  refine calls_of_goes (fn := Try.f97) (c := B97) (by kernel_rfl) (by kernel_rfl) 20 (by kernel_rfl) ?_
  refine Goes.jump 22 [(0, yieldV lx0), (1, .pointer (some ⟨gx0q9b0, 0, none⟩))] (by kernel_rfl) (fun junk => ?_)
  delta M.syntax_parser_items_1 at h
  refine Goes.runs 6 [(3, .bool true)] [.code (sub [1, 0, 0] B97), .inLoop (sub [1, 0, 0] B97), .inBlock 0] (by kernel_rfl) ?_
  have f7 : Els (kInt .u64) S0 w0 ([.int .u64 (gi x0q4v_0 0), .int .u64 (gi x0q4v_0 1), .int .u64 (gi x0q4v_0 2), .int .u64 (gi x0q4v_0 3)] : List Value) x0q4v_0 := (els_mk4 (k := .u64) lx0q4v_0)
  exact Goes.jump 22 [(0, yieldV lx0), (1, .pointer (some ⟨gx0q9b0, 0, none⟩)), (3, .bool true)] (by kernel_rfl) (W.syntax_parser_items_1_l0 nz wz S0 w0 Lr lx0 rx0 jkx0 gx0q2 Gx0q2v_2 x0q2v.L.length cx0q2v_2 csx0q2v_2 gx0q4 gx0q9b0 gx0q9b0v_0 _ _ h _ _ (Ext.refl S0 w0) ([.int .u64 (gi x0q4v_0 0), .int .u64 (gi x0q4v_0 1), .int .u64 (gi x0q4v_0 2), .int .u64 (gi x0q4v_0 3)] : List Value) vx0q9b0v_0v_3 p0 lx0q2v_1 fx0q2v_2 rfl f7 rfl fx0q9b0v_0v_3)

/-! (*tidepole/syntax.parser).class -/
def Post.syntax_parser_class (nz : Nat) (wz : World) (S0 : Fz) (w0 : World) (Lr : List Ent) (gx0 : Nat) (r : T27 × T48) (v : Value) (w' : World) : Prop :=
  ∃ (S' : Fz) (Aq_2 : Option Addr) (nq_2 : Nat) (cq_2 : Nat) (ve0v_3 : Value), v = .agg #[.int .i64 r.1.Kind, .int .u64 (gi r.1.Set 0), .int .u64 (gi r.1.Set 1), .int .u64 (gi r.1.Set 2), .int .u64 (gi r.1.Set 3), .slice Aq_2 nq_2 cq_2, .int .i64 r.1.Min, .int .i64 r.1.Max] ∧ Ext S0 w0 S' w' ∧ Hp nz wz S' w' ((some gx0, .row 49 [.string r.2.s, .int .i64 r.2.at_, .int .i64 r.2.deep, ve0v_3] 4 0) :: Lr) ∧ r.1.Set.length = 4 ∧ Rd kT27 S' w' Aq_2 cq_2 r.1.L ∧ r.1.L.length = nq_2 ∧ PtO kT52 S' w' ve0v_3 r.2.bad

theorem W.syntax_parser_class (x0v : T48) (r : T27 × T48) (h : M.syntax_parser_class x0v = some r) (nz : Nat) (wz : World) (S0 : Fz) (w0 : World) (Lr : List Ent) (gx0 : Nat) (vx0v_3 : Value) (p0 : Hp nz wz S0 w0 ((some gx0, .row 49 [.string x0v.s, .int .i64 x0v.at_, .int .i64 x0v.deep, vx0v_3] 4 0) :: Lr)) (fx0v_3 : PtO kT52 S0 w0 vx0v_3 x0v.bad) :
    Calls Try.prog 83 #[.pointer (some ⟨gx0, 0, none⟩)] w0 (Rets (Post.syntax_parser_class nz wz S0 w0 Lr gx0 r)) := by
  refine calls_of_goes (fn := Try.f83) (c := B83) (by kernel_rfl) (by kernel_rfl) 19 (by kernel_rfl) ?_
  refine Goes.jump 20 [(0, .pointer (some ⟨gx0, 0, none⟩))] (by kernel_rfl) (fun junk => ?_)
  delta M.syntax_parser_class at h
  refine Goes.runs 2 [] [.inRegion (opsOf (sub [0] B83)) [0], .code (sub [1] B83)] (by kernel_rfl) ?_
  refine Op_.alloc 28 2 0 (.agg #[.int .i64 0, .int .u64 0, .int .u64 0, .int .u64 0, .int .u64 0, .slice none 0 0, .int .i64 0, .int .i64 0]) [.int .i64 0, .int .u64 0, .int .u64 0, .int .u64 0, .int .u64 0, .slice none 0 0, .int .i64 0, .int .i64 0] p0 (Goes.vs (by kernel_rfl)) (by kernel_rfl) (by kernel_rfl) ?_
  intro b2 w2 z2 p2
  refine Goes.runs 4 [(6, .pointer (some ⟨gx0, 0, none⟩))] [.inRegion (opsOf (sub [1, 0] B83)) [1, 2], .code (sub [1, 1] B83)] (by kernel_rfl) ?_
  have p2 := p2.front 1 _ rfl
  refine bind_some' h fun y4 e5 h => ?_
  refine Op_.call (.call { callee := .value (.func 35), args := #[(.tmp 6), (.const (.int .u8 94))], argTypes := #[46, 5] }) 7 4 35 #[.pointer (some ⟨gx0, 0, none⟩), .int .u8 94] (Goes.cs (by kernel_rfl)) (by kernel_rfl) (W.syntax_parser_take x0v 94 y4 e5 nz wz S0 w2 ((some b2, .row 28 [.int .i64 0, .int .u64 0, .int .u64 0, .int .u64 0, .int .u64 0, .slice none 0 0, .int .i64 0, .int .i64 0] 8 0) :: Lr) gx0 vx0v_3 p2 (fx0v_3.ext z2)) ?_
  rintro _ w3 ⟨S3, ve0_3v_3, rfl, z3, p3, fe0_3v_3⟩
  refine Goes.runs 4 [(3, .bool y4.1)] [.inRegion (opsOf (sub [1, 1, 0] B83)) [0], .code (sub [1, 1, 1] B83)] (by kernel_rfl) ?_
  refine Op_.alloc 25 4 0 (.agg #[.int .u64 0, .int .u64 0, .int .u64 0, .int .u64 0]) [.int .u64 0, .int .u64 0, .int .u64 0, .int .u64 0] p3 (Goes.vs (by kernel_rfl)) (by kernel_rfl) (by kernel_rfl) ?_
  intro b6 w4 z4 p4
  refine Goes.runs 5 [(8, .pointer (some ⟨gx0, 0, none⟩))] [.inRegion (opsOf (sub [1, 1, 1, 0, 0] B83)) [1], .code (sub [1, 1, 1, 0, 1] B83), .code (sub [1, 1, 1, 1] B83)] (by kernel_rfl) ?_
  have p4 := p4.front 1 _ rfl
  refine bind_some' h fun y8 e9 h => ?_
  refine Op_.call (.call { callee := .value (.func 91), args := #[(.tmp 8)], argTypes := #[46] }) 9 141 91 #[.pointer (some ⟨gx0, 0, none⟩)] (Goes.cs (by kernel_rfl)) (by kernel_rfl) (W.syntax_parser_items y4.2 y8 e9 nz wz S3 w4 ((some b6, .row 25 [.int .u64 0, .int .u64 0, .int .u64 0, .int .u64 0] 4 0) :: (some b2, .row 28 [.int .i64 0, .int .u64 0, .int .u64 0, .int .u64 0, .int .u64 0, .slice none 0 0, .int .i64 0, .int .i64 0] 8 0) :: Lr) gx0 ve0_3v_3 p4 (fe0_3v_3.ext z4)) ?_
  rintro _ w5 ⟨S5, gr_5b0, rfl, z5, p5⟩
  refine Goes.runs 2 [] [.code (sub [1, 1, 1, 0, 1, 0] B83), .inBlock 0, .code (sub [1, 1, 1, 1] B83)] (by kernel_rfl) ?_
  refine Goes.jump 20 [(2, .pointer (some ⟨b2, 0, none⟩)), (3, .bool y4.1), (4, .pointer (some ⟨b6, 0, none⟩)), (9, .func (.func 97) #[] #[.pointer (some ⟨gr_5b0, 0, none⟩)])] (by kernel_rfl) (fun junk11 => ?_)
  refine Goes.rangeF (f := 83) (.tmp 9) #[10] 97 #[] #[.pointer (some ⟨gr_5b0, 0, none⟩)] (by kernel_rfl) (by kernel_rfl) (fun _ => by kernel_rfl) p5 ?_
  intro r12 l13 w6 z6 p6
  have p6 : Hp nz wz S5 w6 ((none, .row 28 [] (0 * kT27.size) 0) :: (some l13, .obj (lpst 83 (lfr 20 [(2, .pointer (some ⟨b2, 0, none⟩)), (3, .bool y4.1), (4, .pointer (some ⟨b6, 0, none⟩)), (9, .func (.func 97) #[] #[.pointer (some ⟨gr_5b0, 0, none⟩)])] junk11) #[10] (rfAssign (sub [1, 1, 1, 0, 1, 0] B83)) (rfBody (sub [1, 1, 1, 0, 1, 0] B83)) r12 .ready none)) :: (some r12, .obj (.deferred (some []))) :: (some gr_5b0, .row 46 [.pointer (some ⟨gx0, 0, none⟩)] 1 0) :: (some gx0, .row 49 [.string y4.2.s, .int .i64 y4.2.at_, .int .i64 y4.2.deep, ve0_3v_3] 4 0) :: (some b6, .row 25 [.int .u64 0, .int .u64 0, .int .u64 0, .int .u64 0] 4 0) :: (some b2, .row 28 [.int .i64 0, .int .u64 0, .int .u64 0, .int .u64 0, .int .u64 0, .slice none 0 0, .int .i64 0, .int .i64 0] 8 0) :: Lr) := p6.nilRow' 28
  have p6 := p6.front 4 _ rfl
  have p6 := p6.front 4 _ rfl
  have p6 := p6.front 5 _ rfl
  have p6 := p6.front 3 _ rfl
  have p6 := p6.front 6 _ rfl
  have p6 := p6.front 5 _ rfl
  refine bind_some' h fun y17 e18 h => ?_
  refine ⟨_, W.syntax_parser_items_1 (⟨0, [0, 0, 0, 0], ([] : List T27), 0, 0⟩ : T27) y4.1 [0, 0, 0, 0] y4.2 y17 e18 nz wz S5 w6 ((some r12, .obj (.deferred (some []))) :: Lr) l13 r12 junk11 b2 none 0 0 [] b6 gr_5b0 gx0 ve0_3v_3 p6 rfl (Els.nil (K := kT27)) rfl rfl (fe0_3v_3.ext ((z4.trans z5).trans z6)), ?_⟩
  rintro _ w7 ⟨S7, cse2_7, ve4_7v_3, rfl, z7, p7, fe2_7, le2_7, fe4_7v_3⟩
  refine Goes.endF 0 p7 rfl rfl ?_
  intro w8 z8 p8
  replace p8 : Hp nz wz S7 w8 ((some b2, .row 28 [.int .i64 0, .int .u64 0, .int .u64 0, .int .u64 0, .int .u64 0, .slice (Gp none) 0 0, .int .i64 0, .int .i64 0] 8 0) :: (none, .row 28 [] (0 * kT27.size) 0) :: (some b6, .row 25 cse2_7 4 0) :: (some gr_5b0, .row 46 [.pointer (some ⟨gx0, 0, none⟩)] 1 0) :: (some gx0, .row 49 [.string y17.2.s, .int .i64 y17.2.at_, .int .i64 y17.2.deep, ve4_7v_3] 4 0) :: (some r12, .obj (.deferred (some []))) :: Lr) := (p8.front 0 _ rfl).drop
  show Goes _ _ [.inBlock 0, .code (sub [1, 1, 1, 1] B83)] _ _ _
  refine Goes.runs 6 [(15, .bool y4.1)] [.code (sub [1, 1, 1, 1, 0, 1] B83), .code (sub [1, 1, 1, 1, 1] B83)] (by kernel_rfl) ?_
  refine ite_some h (fun h19 h => ?_) (fun h19 h => ?_)
  · rw [h19]
    refine Goes.runs 2 [] [.inRegion (opsOf (sub [1, 1, 1, 1, 0, 1, 0] B83)) [0, 1, 2], .code (sub [1, 1, 1, 1, 1] B83)] (by kernel_rfl) ?_
    refine Op_.ldN 25 (.tmp 4) 16 25 ⟨b6, 0, none⟩ cse2_7 (Goes.vs (by kernel_rfl)) (by kernel_rfl) (by kernel_rfl) (by rw [le2_7]; kernel_rfl) (At_all (p8.mem 2 rfl)) ?_
    refine bind_some' h fun y20 e21 h => ?_
    refine Op_.call (.call { callee := .value (.func 81), args := #[(.tmp 16)], argTypes := #[25] }) 17 25 81 #[.agg cse2_7.toArray] (Goes.cs (by kernel_rfl)) (by kernel_rfl) (W.syntax_not y17.1 y20 e21 nz wz S7 w8 ((some b2, .row 28 [.int .i64 0, .int .u64 0, .int .u64 0, .int .u64 0, .int .u64 0, .slice (Gp none) 0 0, .int .i64 0, .int .i64 0] 8 0) :: (none, .row 28 [] (0 * kT27.size) 0) :: (some b6, .row 25 cse2_7 4 0) :: (some gr_5b0, .row 46 [.pointer (some ⟨gx0, 0, none⟩)] 1 0) :: (some gx0, .row 49 [.string y17.2.s, .int .i64 y17.2.at_, .int .i64 y17.2.deep, ve4_7v_3] 4 0) :: (some r12, .obj (.deferred (some []))) :: Lr) cse2_7 p8 (fe2_7.ext z8) le2_7) ?_
    rintro _ w9 ⟨S9, vsr_9, rfl, z9, p9, fr_9, lr_9⟩
    have p9 := (p9.front 3 _ rfl).drop
    refine Op_.stA 25 (.tmp 4) (.tmp 17) 0 2 b6 4 vsr_9 p9 rfl le2_7 (Goes.ss (by kernel_rfl)) (by kernel_rfl) (by kernel_rfl) (by kernel_rfl) lr_9 (Els.one fr_9) ?_
    intro w10 z10 p10
    refine Goes.runs 3 [] [.inRegion (opsOf (sub [1, 1, 1, 1, 1, 0] B83)) [0, 1, 2], .code (sub [1, 1, 1, 1, 1, 1] B83)] (by kernel_rfl) ?_
    refine Op_.ldN 25 (.tmp 4) 18 25 ⟨b6, 0, none⟩ vsr_9 (Goes.vs (by kernel_rfl)) (by kernel_rfl) (by kernel_rfl) (by rw [lr_9]; kernel_rfl) (At_all (p10.mem 2 rfl)) ?_
    have l22 := Els.len1 (fr_9.ext z10) lr_9 rfl
    obtain rfl := els_lit4 (fr_9.ext z10) lr_9
    refine Goes.runs 1 [(19, .agg #[.int .i64 1, .int .u64 (gi y20 0), .int .u64 (gi y20 1), .int .u64 (gi y20 2), .int .u64 (gi y20 3), .slice none 0 0, .int .i64 0, .int .i64 0])] [.inRegion (opsOf (sub [1, 1, 1, 1, 1, 0] B83)) [2], .code (sub [1, 1, 1, 1, 1, 1] B83)] (by kernel_rfl) ?_
    refine Op_.st 28 (.tmp 2) (.tmp 19) 0 0 b2 0 (.agg #[.int .i64 1, .int .u64 (gi y20 0), .int .u64 (gi y20 1), .int .u64 (gi y20 2), .int .u64 (gi y20 3), .slice none 0 0, .int .i64 0, .int .i64 0]) [.int .i64 1, .int .u64 (gi y20 0), .int .u64 (gi y20 1), .int .u64 (gi y20 2), .int .u64 (gi y20 3), .slice none 0 0, .int .i64 0, .int .i64 0] p10 rfl (Goes.ss (by kernel_rfl)) (by kernel_rfl) (by kernel_rfl) (by kernel_rfl) (by kernel_rfl) (Nat.zero_le _) (by simp only [List.length_cons, List.length_nil]; omega) (by simp [Value.oneCell']) ?_
    intro w11 z11 p11
    refine Goes.runs 1 [] [.code (sub [1, 1, 1, 1, 1, 1] B83)] (by kernel_rfl) ?_
    obtain rfl := Option.some.inj h
    have p11 := (p11.front 1 _ rfl).drop
    have p11 := (p11.front 1 _ rfl).drop
    have p11 := p11.front 1 _ rfl
    have p11 := p11.front 1 _ rfl
    have p11 := p11.front 2 _ rfl
    refine Goes.retL ?_
    refine lvs_mark 0 rfl rfl p11 rfl ?_
    intro w12 z12 p12
    replace p12 : Hp nz wz S9 w12 ((some b2, .row 28 [.int .i64 1, .int .u64 (gi y20 0), .int .u64 (gi y20 1), .int .u64 (gi y20 2), .int .u64 (gi y20 3), .slice none 0 0, .int .i64 0, .int .i64 0] 8 0) :: (some gx0, .row 49 [.string y17.2.s, .int .i64 y17.2.at_, .int .i64 y17.2.deep, ve4_7v_3] 4 0) :: Lr) := p12.drop
    exact lvs_done (fn := Try.f83) rfl rfl rfl rfl (by kernel_rfl) (v := .agg #[.int .i64 1, .int .u64 (gi y20 0), .int .u64 (gi y20 1), .int .u64 (gi y20 2), .int .u64 (gi y20 3), .slice none 0 0, .int .i64 0, .int .i64 0]) (results_n1 (fn := Try.f83) (a := .cell 2 28) (by kernel_rfl) (resV_cell ⟨b2, 0, none⟩ (by kernel_rfl) (run_loadN [.int .i64 1, .int .u64 (gi y20 0), .int .u64 (gi y20 1), .int .u64 (gi y20 2), .int .u64 (gi y20 3), .slice none 0 0, .int .i64 0, .int .i64 0] (by kernel_rfl) (by kernel_rfl) (At_part (us := []) (vs := [.int .i64 1, .int .u64 (gi y20 0), .int .u64 (gi y20 1), .int .u64 (gi y20 2), .int .u64 (gi y20 3), .slice none 0 0, .int .i64 0, .int .i64 0]) (ws := []) (p12.mem 0 rfl) 0 rfl)))) ⟨S9, none, 0, 0, ve4_7v_3, rfl, ((((((((((((Ext.refl S0 w0).trans z2).trans z3).trans z4).trans z5).trans z6).trans z7).trans z8).trans z9).trans z10).trans z11).trans z12), p12.drop, l22, Rd.none_, rfl, (fe4_7v_3.ext ((((z8.trans z9).trans z10).trans z11).trans z12))⟩
  · have h19' : y4.1 = false := by simpa using h19
    rw [h19']
    refine Goes.runs 4 [] [.inRegion (opsOf (sub [1, 1, 1, 1, 1, 0] B83)) [0, 1, 2], .code (sub [1, 1, 1, 1, 1, 1] B83)] (by kernel_rfl) ?_
    refine Op_.ldN 25 (.tmp 4) 18 25 ⟨b6, 0, none⟩ cse2_7 (Goes.vs (by kernel_rfl)) (by kernel_rfl) (by kernel_rfl) (by rw [le2_7]; kernel_rfl) (At_all (p8.mem 2 rfl)) ?_
    have l23 := Els.len1 (fe2_7.ext z8) le2_7 rfl
    obtain rfl := els_lit4 (fe2_7.ext z8) le2_7
    refine Goes.runs 1 [(19, .agg #[.int .i64 1, .int .u64 (gi y17.1 0), .int .u64 (gi y17.1 1), .int .u64 (gi y17.1 2), .int .u64 (gi y17.1 3), .slice none 0 0, .int .i64 0, .int .i64 0])] [.inRegion (opsOf (sub [1, 1, 1, 1, 1, 0] B83)) [2], .code (sub [1, 1, 1, 1, 1, 1] B83)] (by kernel_rfl) ?_
    refine Op_.st 28 (.tmp 2) (.tmp 19) 0 0 b2 0 (.agg #[.int .i64 1, .int .u64 (gi y17.1 0), .int .u64 (gi y17.1 1), .int .u64 (gi y17.1 2), .int .u64 (gi y17.1 3), .slice none 0 0, .int .i64 0, .int .i64 0]) [.int .i64 1, .int .u64 (gi y17.1 0), .int .u64 (gi y17.1 1), .int .u64 (gi y17.1 2), .int .u64 (gi y17.1 3), .slice none 0 0, .int .i64 0, .int .i64 0] p8 rfl (Goes.ss (by kernel_rfl)) (by kernel_rfl) (by kernel_rfl) (by kernel_rfl) (by kernel_rfl) (Nat.zero_le _) (by simp only [List.length_cons, List.length_nil]; omega) (by simp [Value.oneCell']) ?_
    intro w13 z13 p13
    refine Goes.runs 1 [] [.code (sub [1, 1, 1, 1, 1, 1] B83)] (by kernel_rfl) ?_
    obtain rfl := Option.some.inj h
    have p13 := (p13.front 1 _ rfl).drop
    have p13 := (p13.front 1 _ rfl).drop
    have p13 := (p13.front 1 _ rfl).drop
    have p13 := p13.front 1 _ rfl
    have p13 := p13.front 1 _ rfl
    have p13 := p13.front 2 _ rfl
    refine Goes.retL ?_
    refine lvs_mark 0 rfl rfl p13 rfl ?_
    intro w14 z14 p14
    replace p14 : Hp nz wz S7 w14 ((some b2, .row 28 [.int .i64 1, .int .u64 (gi y17.1 0), .int .u64 (gi y17.1 1), .int .u64 (gi y17.1 2), .int .u64 (gi y17.1 3), .slice none 0 0, .int .i64 0, .int .i64 0] 8 0) :: (some gx0, .row 49 [.string y17.2.s, .int .i64 y17.2.at_, .int .i64 y17.2.deep, ve4_7v_3] 4 0) :: Lr) := p14.drop
    exact lvs_done (fn := Try.f83) rfl rfl rfl rfl (by kernel_rfl) (v := .agg #[.int .i64 1, .int .u64 (gi y17.1 0), .int .u64 (gi y17.1 1), .int .u64 (gi y17.1 2), .int .u64 (gi y17.1 3), .slice none 0 0, .int .i64 0, .int .i64 0]) (results_n1 (fn := Try.f83) (a := .cell 2 28) (by kernel_rfl) (resV_cell ⟨b2, 0, none⟩ (by kernel_rfl) (run_loadN [.int .i64 1, .int .u64 (gi y17.1 0), .int .u64 (gi y17.1 1), .int .u64 (gi y17.1 2), .int .u64 (gi y17.1 3), .slice none 0 0, .int .i64 0, .int .i64 0] (by kernel_rfl) (by kernel_rfl) (At_part (us := []) (vs := [.int .i64 1, .int .u64 (gi y17.1 0), .int .u64 (gi y17.1 1), .int .u64 (gi y17.1 2), .int .u64 (gi y17.1 3), .slice none 0 0, .int .i64 0, .int .i64 0]) (ws := []) (p14.mem 0 rfl) 0 rfl)))) ⟨S7, none, 0, 0, ve4_7v_3, rfl, ((((((((((Ext.refl S0 w0).trans z2).trans z3).trans z4).trans z5).trans z6).trans z7).trans z8).trans z13).trans z14), p14.drop, l23, Rd.none_, rfl, (fe4_7v_3.ext ((z8.trans z13).trans z14))⟩

/-! (*tidepole/syntax.parser).need -/
def Post.syntax_parser_need (nz : Nat) (wz : World) (S0 : Fz) (w0 : World) (Lr : List Ent) (gx0 : Nat) (r : T48) (v : Value) (w' : World) : Prop :=
  ∃ (S' : Fz) (ve0v_3 : Value), v = .tuple #[] ∧ Ext S0 w0 S' w' ∧ Hp nz wz S' w' ((some gx0, .row 49 [.string r.s, .int .i64 r.at_, .int .i64 r.deep, ve0v_3] 4 0) :: Lr) ∧ PtO kT52 S' w' ve0v_3 r.bad

theorem W.syntax_parser_need (x0v : T48) (x1 : Int) (r : T48) (h : M.syntax_parser_need x0v x1 = some r) (nz : Nat) (wz : World) (S0 : Fz) (w0 : World) (Lr : List Ent) (gx0 : Nat) (vx0v_3 : Value) (p0 : Hp nz wz S0 w0 ((some gx0, .row 49 [.string x0v.s, .int .i64 x0v.at_, .int .i64 x0v.deep, vx0v_3] 4 0) :: Lr)) (fx0v_3 : PtO kT52 S0 w0 vx0v_3 x0v.bad) :
    Calls Try.prog 87 #[.pointer (some ⟨gx0, 0, none⟩), .int .u8 x1] w0 (Rets (Post.syntax_parser_need nz wz S0 w0 Lr gx0 r)) := by
  refine calls_of_goes (fn := Try.f87) (c := B87) (by kernel_rfl) (by kernel_rfl) 12 (by kernel_rfl) ?_
  refine Goes.jump 14 [(0, .pointer (some ⟨gx0, 0, none⟩)), (1, .int .u8 x1)] (by kernel_rfl) (fun junk => ?_)
  delta M.syntax_parser_need at h
  refine Goes.runs 4 [(4, .pointer (some ⟨gx0, 0, none⟩)), (5, .int .u8 x1)] [.inRegion (opsOf (sub [0] B87)) [2, 3], .code (sub [1] B87)] (by kernel_rfl) ?_
  refine bind_some' h fun y2 e3 h => ?_
  refine Op_.call (.call { callee := .value (.func 35), args := #[(.tmp 4), (.tmp 5)], argTypes := #[46, 5] }) 6 4 35 #[.pointer (some ⟨gx0, 0, none⟩), .int .u8 x1] (Goes.cs (by kernel_rfl)) (by kernel_rfl) (W.syntax_parser_take x0v x1 y2 e3 nz wz S0 w0 (Lr) gx0 vx0v_3 p0 fx0v_3) ?_
  rintro _ w2 ⟨S2, ve0_2v_3, rfl, z2, p2, fe0_2v_3⟩
  refine Goes.runs 2 [(7, .bool (!y2.1))] [.code (sub [1] B87)] (by kernel_rfl) ?_
  refine ite_some h (fun h4 h => ?_) (fun h4 h => ?_)
  · rw [h4]
    refine Goes.runs 2 [] [] (by kernel_rfl) ?_
    obtain rfl := Option.some.inj h
    exact Goes.end_ (fn := Try.f87) (by kernel_rfl) (v := .tuple #[]) (by kernel_rfl) ⟨S2, ve0_2v_3, rfl, ((Ext.refl S0 w0).trans z2), p2, fe0_2v_3⟩
  · have h4' : y2.1 = false := by simpa using h4
    rw [h4']
    refine Goes.runs 6 [(8, .pointer (some ⟨gx0, 0, none⟩)), (9, .pointer (some ⟨gx0, 0, none⟩)), (10, .pointer (some ⟨gx0, 0, none⟩)), (11, .pointer (some ⟨gx0, 1, none⟩))] [.inRegion (opsOf (sub [1, 0] B87)) [4, 5]] (by kernel_rfl) ?_
    refine Op_.ld1 3 (.tmp 11) 12 3 ⟨gx0, 1, none⟩ (.int .i64 y2.2.at_) (Goes.vs (by kernel_rfl)) (by kernel_rfl) (by kernel_rfl) ((p2.mem 0 rfl).cell 1 _ rfl) ?_
    refine bind_some' h fun y5 e6 h => ?_
    refine Op_.call (.call { callee := .value (.func 19), args := #[(.tmp 8), (.tmp 12)], argTypes := #[46, 3] }) 13 28 19 #[.pointer (some ⟨gx0, 0, none⟩), .int .i64 y2.2.at_] (Goes.cs (by kernel_rfl)) (by kernel_rfl) (W.syntax_parser_fail y2.2 y2.2.at_ y5 e6 nz wz S2 w2 (Lr) gx0 ve0_2v_3 p2 fe0_2v_3) ?_
    rintro _ w3 ⟨S3, Ar_3_2, nr_3_2, cr_3_2, ve0_3v_3, rfl, z3, p3, lr_3_1, fr_3_2, rfl, fe0_3v_3⟩
    refine Goes.runs 1 [] [] (by kernel_rfl) ?_
    obtain rfl := Option.some.inj h
    exact Goes.end_ (fn := Try.f87) (by kernel_rfl) (v := .tuple #[]) (by kernel_rfl) ⟨S3, ve0_3v_3, rfl, (((Ext.refl S0 w0).trans z2).trans z3), p3, fe0_3v_3⟩

/-! (*tidepole/syntax.parser).number$1 -/
def Post.syntax_parser_number_1 (nz : Nat) (wz : World) (S0 : Fz) (w0 : World) (Lr : List Ent) (gx0 : Nat) (gx0v_0 : Nat) (r : Bool × T48) (v : Value) (w' : World) : Prop :=
  ∃ (S' : Fz) (ve1v_3 : Value), v = .bool r.1 ∧ Ext S0 w0 S' w' ∧ Hp nz wz S' w' ((some gx0, .row 46 [.pointer (some ⟨gx0v_0, 0, none⟩)] 1 0) :: (some gx0v_0, .row 49 [.string r.2.s, .int .i64 r.2.at_, .int .i64 r.2.deep, ve1v_3] 4 0) :: Lr) ∧ PtO kT52 S' w' ve1v_3 r.2.bad

theorem W.syntax_parser_number_1 (x0v_0v : T48) (r : Bool × T48) (h : M.syntax_parser_number_1 x0v_0v = some r) (nz : Nat) (wz : World) (S0 : Fz) (w0 : World) (Lr : List Ent) (gx0 : Nat) (gx0v_0 : Nat) (vx0v_0v_3 : Value) (p0 : Hp nz wz S0 w0 ((some gx0, .row 46 [.pointer (some ⟨gx0v_0, 0, none⟩)] 1 0) :: (some gx0v_0, .row 49 [.string x0v_0v.s, .int .i64 x0v_0v.at_, .int .i64 x0v_0v.deep, vx0v_0v_3] 4 0) :: Lr)) (fx0v_0v_3 : PtO kT52 S0 w0 vx0v_0v_3 x0v_0v.bad) :
    Calls Try.prog 96 #[.pointer (some ⟨gx0, 0, none⟩)] w0 (Rets (Post.syntax_parser_number_1 nz wz S0 w0 Lr gx0 gx0v_0 r)) := by
  refine calls_of_goes (fn := Try.f96) (c := B96) (by kernel_rfl) (by kernel_rfl) 9 (by kernel_rfl) ?_
  refine Goes.jump 10 [(0, .pointer (some ⟨gx0, 0, none⟩))] (by kernel_rfl) (fun junk => ?_)
  delta M.syntax_parser_number_1 at h
  refine Goes.runs 6 [(1, .bool false)] [.inRegion (opsOf (sub [1, 0] B96)) [0, 1, 2, 3, 4, 5, 6, 7, 8], .code (sub [1, 1] B96)] (by kernel_rfl) ?_
  refine Op_.ld1 46 (.tmp 0) 2 46 ⟨gx0, 0, none⟩ (.pointer (some ⟨gx0v_0, 0, none⟩)) (Goes.vs (by kernel_rfl)) (by kernel_rfl) (by kernel_rfl) ((p0.mem 0 rfl).cell 0 _ rfl) ?_
  have p0 := p0.front 1 _ rfl
  refine bind_some' h fun y3 e4 h => ?_
  refine Op_.call (.call { callee := .value (.func 54), args := #[(.tmp 2)], argTypes := #[46] }) 3 5 54 #[.pointer (some ⟨gx0v_0, 0, none⟩)] (Goes.cs (by kernel_rfl)) (by kernel_rfl) (W.syntax_parser_peek x0v_0v y3 e4 nz wz S0 w0 ((some gx0, .row 46 [.pointer (some ⟨gx0v_0, 0, none⟩)] 1 0) :: Lr) gx0v_0 vx0v_0v_3 p0 fx0v_0v_3) ?_
  rintro _ w2 ⟨S2, ve0_2v_3, rfl, z2, p2, fe0_2v_3⟩
  refine Goes.runs 2 [(4, .bool (decide (y3.1 ≥ 48))), (5, .bool (decide (y3.1 ≥ 48)))] [.inRegion (opsOf (sub [1, 0] B96)) [4, 5, 6, 7, 8], .code (sub [1, 1] B96)] (by kernel_rfl) ?_
  refine ite_some h (fun h5 h => ?_) (fun h5 h => ?_)
  · rw [decide_eq_true h5]
    refine Op_.ld1 46 (.tmp 0) 6 46 ⟨gx0, 0, none⟩ (.pointer (some ⟨gx0v_0, 0, none⟩)) (Goes.vs (by kernel_rfl)) (by kernel_rfl) (by kernel_rfl) ((p2.mem 1 rfl).cell 0 _ rfl) ?_
    refine bind_some' h fun y6 e7 h => ?_
    refine Op_.call (.call { callee := .value (.func 54), args := #[(.tmp 6)], argTypes := #[46] }) 7 5 54 #[.pointer (some ⟨gx0v_0, 0, none⟩)] (Goes.cs (by kernel_rfl)) (by kernel_rfl) (W.syntax_parser_peek y3.2 y6 e7 nz wz S2 w2 ((some gx0, .row 46 [.pointer (some ⟨gx0v_0, 0, none⟩)] 1 0) :: Lr) gx0v_0 ve0_2v_3 p2 fe0_2v_3) ?_
    rintro _ w3 ⟨S3, ve0_3v_3, rfl, z3, p3, fe0_3v_3⟩
    refine Goes.runs 4 [(8, .bool (decide (y6.1 ≤ 57))), (9, .bool (decide (y6.1 ≤ 57))), (1, .bool (decide (y6.1 ≤ 57)))] [.code (sub [1, 1] B96)] (by kernel_rfl) ?_
    obtain rfl := Option.some.inj h
    have p3 := p3.front 0 _ rfl
    have p3 := p3.front 1 _ rfl
    exact Goes.ret (fn := Try.f96) (by kernel_rfl) (v := .bool (decide (y6.1 ≤ 57))) (by kernel_rfl) ⟨S3, ve0_3v_3, rfl, (((Ext.refl S0 w0).trans z2).trans z3), p3, fe0_3v_3⟩
  · rw [decide_eq_false h5]
    refine Goes.runs 6 [(6, undef), (7, undef), (8, undef), (9, .bool false), (1, .bool false)] [.code (sub [1, 1] B96)] (by kernel_rfl) ?_
    obtain rfl := Option.some.inj h
    have p2 := p2.front 0 _ rfl
    have p2 := p2.front 1 _ rfl
    exact Goes.ret (fn := Try.f96) (by kernel_rfl) (v := .bool false) (by kernel_rfl) ⟨S2, ve0_2v_3, rfl, ((Ext.refl S0 w0).trans z2), p2, fe0_2v_3⟩

/-! (*tidepole/syntax.parser).number -/
def Post.syntax_parser_number (nz : Nat) (wz : World) (S0 : Fz) (w0 : World) (Lr : List Ent) (gx0 : Nat) (r : Int × T48) (v : Value) (w' : World) : Prop :=
  ∃ (S' : Fz) (ve0v_3 : Value), v = .int .i64 r.1 ∧ Ext S0 w0 S' w' ∧ Hp nz wz S' w' ((some gx0, .row 49 [.string r.2.s, .int .i64 r.2.at_, .int .i64 r.2.deep, ve0v_3] 4 0) :: Lr) ∧ PtO kT52 S' w' ve0v_3 r.2.bad

def L.syntax_parser_number_l0 (nz : Nat) (wz : World) (S0 : Fz) (w0 : World) (Lr : List Ent) (gx0 : Nat) : Int × Bool × T48 → (Int × T48) → Prop := fun ⟨x4, x25, e0v⟩ r => ∀ S1 w1, Ext S0 w0 S1 w1 → ∀ (gx1 : Nat) (ve0v_3 : Value) (_ : Hp nz wz S1 w1 ((some gx1, .row 46 [.pointer (some ⟨gx0, 0, none⟩)] 1 0) :: (some gx0, .row 49 [.string e0v.s, .int .i64 e0v.at_, .int .i64 e0v.deep, ve0v_3] 4 0) :: Lr)) (_ : PtO kT52 S1 w1 ve0v_3 e0v.bad) (junk : Nat → Value),
  Goes Try.prog (base 86) [.code (sub [1, 1, 1, 1, 1, 0, 1] B86), .code (sub [1, 1, 1, 1, 1, 1] B86)] ⟨lfr 41 [(1, .pointer (some ⟨gx1, 0, none⟩)), (4, .int .i64 x4), (25, .bool x25)] junk, []⟩ w1 (Done Try.prog 86 (Rets (Post.syntax_parser_number nz wz S0 w0 Lr gx0 r)))

theorem W.syntax_parser_number_l0 (nz : Nat) (wz : World) (S0 : Fz) (w0 : World) (Lr : List Ent) (gx0 : Nat) : ∀ a r, M.syntax_parser_number_l0 a = some r → L.syntax_parser_number_l0 nz wz S0 w0 Lr gx0 a r := by
  intro ⟨x4, x25, e0v⟩ r h S1 w1 hx gx1 ve0v_3 p1 fe0v_3 junk
  rw [M.syntax_parser_number_l0] at h
  try dsimp only at h
  refine ite_some h (fun h13 h => ?_) (fun h13 h => ?_)
  · rw [h13]
    refine Goes.runs 5 [(26, .int .i64 x4), (27, .int .i64 (wr .i64 (10 * x4)))] [.inRegion (opsOf (sub [1, 1, 1, 1, 1, 0, 1, 0, 0] B86)) [2, 3, 4, 5, 6, 7], .code (sub [1, 1, 1, 1, 1, 0, 1, 0, 1] B86), .code (sub [1, 1, 1, 1, 1, 1] B86)] (by kernel_rfl) ?_
    refine Op_.ld1 46 (.tmp 1) 28 46 ⟨gx1, 0, none⟩ (.pointer (some ⟨gx0, 0, none⟩)) (Goes.vs (by kernel_rfl)) (by kernel_rfl) (by kernel_rfl) ((p1.mem 0 rfl).cell 0 _ rfl) ?_
    have p1 := p1.front 1 _ rfl
    refine bind_some' h fun y14 e15 h => ?_
    refine Op_.call (.call { callee := .value (.func 54), args := #[(.tmp 28)], argTypes := #[46] }) 29 5 54 #[.pointer (some ⟨gx0, 0, none⟩)] (Goes.cs (by kernel_rfl)) (by kernel_rfl) (W.syntax_parser_peek e0v y14 e15 nz wz S1 w1 ((some gx1, .row 46 [.pointer (some ⟨gx0, 0, none⟩)] 1 0) :: Lr) gx0 ve0v_3 p1 fe0v_3) ?_
    rintro _ w7 ⟨S7, ve0_7v_3, rfl, z7, p7, fe0_7v_3⟩
    refine Goes.runs 6 [(30, .int .u8 (wr .u8 (y14.1 - 48))), (31, .int .i64 (wr .i64 (wr .u8 (y14.1 - 48)))), (32, .int .i64 (wr .i64 ((wr .i64 (10 * x4)) + (wr .i64 (wr .u8 (y14.1 - 48)))))), (4, .int .i64 (wr .i64 ((wr .i64 (10 * x4)) + (wr .i64 (wr .u8 (y14.1 - 48))))))] [.inRegion (opsOf (sub [1, 1, 1, 1, 1, 0, 1, 0, 1] B86)) [0, 1, 2, 3, 4, 5, 6, 7], .code (sub [1, 1, 1, 1, 1, 1] B86)] (by kernel_rfl) ?_
    refine Op_.ld1 46 (.tmp 1) 33 46 ⟨gx1, 0, none⟩ (.pointer (some ⟨gx0, 0, none⟩)) (Goes.vs (by kernel_rfl)) (by kernel_rfl) (by kernel_rfl) ((p7.mem 1 rfl).cell 0 _ rfl) ?_
    refine Goes.runs 2 [(34, .pointer (some ⟨gx0, 0, none⟩)), (35, .pointer (some ⟨gx0, 1, none⟩))] [.inRegion (opsOf (sub [1, 1, 1, 1, 1, 0, 1, 0, 1] B86)) [3, 4, 5, 6, 7], .code (sub [1, 1, 1, 1, 1, 1] B86)] (by kernel_rfl) ?_
    refine Op_.ld1 3 (.tmp 35) 36 3 ⟨gx0, 1, none⟩ (.int .i64 y14.2.at_) (Goes.vs (by kernel_rfl)) (by kernel_rfl) (by kernel_rfl) ((p7.mem 0 rfl).cell 1 _ rfl) ?_
    refine Goes.runs 3 [(37, .int .i64 (wr .i64 (y14.2.at_ + 1))), (38, .pointer (some ⟨gx0, 0, none⟩)), (39, .pointer (some ⟨gx0, 1, none⟩))] [.inRegion (opsOf (sub [1, 1, 1, 1, 1, 0, 1, 0, 1] B86)) [7], .code (sub [1, 1, 1, 1, 1, 1] B86)] (by kernel_rfl) ?_
    refine Op_.st 3 (.tmp 39) (.tmp 37) 0 0 gx0 1 (.int .i64 (wr .i64 (y14.2.at_ + 1))) [.int .i64 (wr .i64 (y14.2.at_ + 1))] p7 rfl (Goes.ss (by kernel_rfl)) (by kernel_rfl) (by kernel_rfl) (by kernel_rfl) (by kernel_rfl) (Nat.zero_le _) (by simp only [List.length_cons, List.length_nil]; omega) (by simp [Value.oneCell']) ?_
    intro w8 z8 p8
    refine Goes.runs 6 [(40, .int .i64 (wr .i64 ((wr .i64 (10 * x4)) + (wr .i64 (wr .u8 (y14.1 - 48)))))), (2, .int .i64 (wr .i64 ((wr .i64 (10 * x4)) + (wr .i64 (wr .u8 (y14.1 - 48))))))] [.code (sub [1, 1, 1, 1, 1, 1, 1] B86)] (by kernel_rfl) ?_
    obtain rfl := Option.some.inj h
    have p8 := (p8.front 1 _ rfl).drop
    exact Goes.ret (fn := Try.f86) (by kernel_rfl) (v := .int .i64 (wr .i64 ((wr .i64 (10 * x4)) + (wr .i64 (wr .u8 (y14.1 - 48)))))) (by kernel_rfl) ⟨S7, ve0_7v_3, rfl, ((hx.trans z7).trans z8), p8, (fe0_7v_3.ext z8)⟩
  · have h13' : x25 = false := by simpa using h13
    rw [h13']
    refine Goes.runs 7 [(40, .int .i64 x4), (2, .int .i64 x4)] [.code (sub [1, 1, 1, 1, 1, 1, 1] B86)] (by kernel_rfl) ?_
    obtain rfl := Option.some.inj h
    have p1 := (p1.front 0 _ rfl).drop
    exact Goes.ret (fn := Try.f86) (by kernel_rfl) (v := .int .i64 x4) (by kernel_rfl) ⟨S1, ve0v_3, rfl, hx, p1, fe0v_3⟩

/-! (*tidepole/syntax.parser).number -/
theorem W.syntax_parser_number (x0v : T48) (r : Int × T48) (h : M.syntax_parser_number x0v = some r) (nz : Nat) (wz : World) (S0 : Fz) (w0 : World) (Lr : List Ent) (gx0 : Nat) (vx0v_3 : Value) (p0 : Hp nz wz S0 w0 ((some gx0, .row 49 [.string x0v.s, .int .i64 x0v.at_, .int .i64 x0v.deep, vx0v_3] 4 0) :: Lr)) (fx0v_3 : PtO kT52 S0 w0 vx0v_3 x0v.bad) :
    Calls Try.prog 86 #[.pointer (some ⟨gx0, 0, none⟩)] w0 (Rets (Post.syntax_parser_number nz wz S0 w0 Lr gx0 r)) := by
  refine calls_of_goes (fn := Try.f86) (c := B86) (by kernel_rfl) (by kernel_rfl) 40 (by kernel_rfl) ?_
  refine Goes.jump 41 [(0, .pointer (some ⟨gx0, 0, none⟩))] (by kernel_rfl) (fun junk => ?_)
  delta M.syntax_parser_number at h
  refine Goes.runs 2 [] [.inRegion (opsOf (sub [0] B86)) [0, 1], .code (sub [1] B86)] (by kernel_rfl) ?_
  refine Op_.box 46 (.tmp 0) 1 0 (.pointer (some ⟨gx0, 0, none⟩)) [.pointer (some ⟨gx0, 0, none⟩)] p0 (Goes.vs (by kernel_rfl)) (by kernel_rfl) (by kernel_rfl) ?_
  intro b2 w2 z2 p2
  refine Goes.runs 11 [(2, .int .i64 0), (5, .func (.func 96) #[] #[.pointer (some ⟨b2, 0, none⟩)]), (3, .func (.func 96) #[] #[.pointer (some ⟨b2, 0, none⟩)]), (6, .func (.func 96) #[] #[.pointer (some ⟨b2, 0, none⟩)])] [.inRegion (opsOf (sub [1, 1, 0, 0] B86)) [1, 2], .code (sub [1, 1, 0, 1] B86), .code (sub [1, 1, 1] B86)] (by kernel_rfl) ?_
  refine bind_some' h fun y4 e5 h => ?_
  refine Op_.call (.call { callee := .value (.tmp 6), args := #[], argTypes := #[] }) 7 4 96 #[.pointer (some ⟨b2, 0, none⟩)] (Goes.cs (by kernel_rfl)) (by kernel_rfl) (W.syntax_parser_number_1 x0v y4 e5 nz wz S0 w2 (Lr) b2 gx0 vx0v_3 p2 (fx0v_3.ext z2)) ?_
  rintro _ w3 ⟨S3, ve1_3v_3, rfl, z3, p3, fe1_3v_3⟩
  refine Goes.runs 2 [(8, .bool (!y4.1))] [.code (sub [1, 1, 0, 1] B86), .code (sub [1, 1, 1] B86)] (by kernel_rfl) ?_
  refine ite_some h (fun h6 h => ?_) (fun h6 h => ?_)
  · rw [h6]
    refine Goes.runs 4 [] [.inRegion (opsOf (sub [1, 1, 1, 0] B86)) [0, 1, 2, 3, 4], .code (sub [1, 1, 1, 1] B86)] (by kernel_rfl) ?_
    refine Op_.ld1 46 (.tmp 1) 9 46 ⟨b2, 0, none⟩ (.pointer (some ⟨gx0, 0, none⟩)) (Goes.vs (by kernel_rfl)) (by kernel_rfl) (by kernel_rfl) ((p3.mem 0 rfl).cell 0 _ rfl) ?_
    have p3 := p3.front 1 _ rfl
    refine bind_some' h fun y7 e8 h => ?_
    refine Op_.call (.call { callee := .value (.func 54), args := #[(.tmp 9)], argTypes := #[46] }) 10 5 54 #[.pointer (some ⟨gx0, 0, none⟩)] (Goes.cs (by kernel_rfl)) (by kernel_rfl) (W.syntax_parser_peek y4.2 y7 e8 nz wz S3 w3 ((some b2, .row 46 [.pointer (some ⟨gx0, 0, none⟩)] 1 0) :: Lr) gx0 ve1_3v_3 p3 fe1_3v_3) ?_
    rintro _ w4 ⟨S4, ve0_4v_3, rfl, z4, p4, fe0_4v_3⟩
    refine Goes.runs 6 [(11, .int .u8 (wr .u8 (y7.1 - 48))), (12, .int .i64 (wr .i64 (wr .u8 (y7.1 - 48)))), (4, .int .i64 (wr .i64 (wr .u8 (y7.1 - 48))))] [.inRegion (opsOf (sub [1, 1, 1, 1, 0] B86)) [0, 1, 2, 3, 4, 5, 6, 7], .code (sub [1, 1, 1, 1, 1] B86)] (by kernel_rfl) ?_
    refine Op_.ld1 46 (.tmp 1) 13 46 ⟨b2, 0, none⟩ (.pointer (some ⟨gx0, 0, none⟩)) (Goes.vs (by kernel_rfl)) (by kernel_rfl) (by kernel_rfl) ((p4.mem 1 rfl).cell 0 _ rfl) ?_
    refine Goes.runs 2 [(14, .pointer (some ⟨gx0, 0, none⟩)), (15, .pointer (some ⟨gx0, 1, none⟩))] [.inRegion (opsOf (sub [1, 1, 1, 1, 0] B86)) [3, 4, 5, 6, 7], .code (sub [1, 1, 1, 1, 1] B86)] (by kernel_rfl) ?_
    refine Op_.ld1 3 (.tmp 15) 16 3 ⟨gx0, 1, none⟩ (.int .i64 y7.2.at_) (Goes.vs (by kernel_rfl)) (by kernel_rfl) (by kernel_rfl) ((p4.mem 0 rfl).cell 1 _ rfl) ?_
    refine Goes.runs 3 [(17, .int .i64 (wr .i64 (y7.2.at_ + 1))), (18, .pointer (some ⟨gx0, 0, none⟩)), (19, .pointer (some ⟨gx0, 1, none⟩))] [.inRegion (opsOf (sub [1, 1, 1, 1, 0] B86)) [7], .code (sub [1, 1, 1, 1, 1] B86)] (by kernel_rfl) ?_
    refine Op_.st 3 (.tmp 19) (.tmp 17) 0 0 gx0 1 (.int .i64 (wr .i64 (y7.2.at_ + 1))) [.int .i64 (wr .i64 (y7.2.at_ + 1))] p4 rfl (Goes.ss (by kernel_rfl)) (by kernel_rfl) (by kernel_rfl) (by kernel_rfl) (by kernel_rfl) (Nat.zero_le _) (by simp only [List.length_cons, List.length_nil]; omega) (by simp [Value.oneCell']) ?_
    intro w5 z5 p5
    refine Goes.runs 7 [(20, .int .i64 (wr .i64 (wr .u8 (y7.1 - 48)))), (21, .bool (decide (wr .i64 (wr .u8 (y7.1 - 48)) > 0))), (22, .bool (decide (wr .i64 (wr .u8 (y7.1 - 48)) > 0)))] [.inRegion (opsOf (sub [1, 1, 1, 1, 1, 0, 0] B86)) [3, 4, 5], .code (sub [1, 1, 1, 1, 1, 0, 1] B86), .code (sub [1, 1, 1, 1, 1, 1] B86)] (by kernel_rfl) ?_
    refine ite_some h (fun h9 h => ?_) (fun h9 h => ?_)
    · rw [decide_eq_true h9]
      refine Goes.runs 1 [(23, .func (.func 96) #[] #[.pointer (some ⟨b2, 0, none⟩)])] [.inRegion (opsOf (sub [1, 1, 1, 1, 1, 0, 0] B86)) [4, 5], .code (sub [1, 1, 1, 1, 1, 0, 1] B86), .code (sub [1, 1, 1, 1, 1, 1] B86)] (by kernel_rfl) ?_
      have p5 := p5.front 0 _ rfl
      have p5 := p5.front 1 _ rfl
      refine bind_some' h fun y10 e11 h => ?_
      refine Op_.call (.call { callee := .value (.tmp 23), args := #[], argTypes := #[] }) 24 4 96 #[.pointer (some ⟨b2, 0, none⟩)] (Goes.cs (by kernel_rfl)) (by kernel_rfl) (W.syntax_parser_number_1 (⟨y7.2.s, wr .i64 (y7.2.at_ + 1), y7.2.deep, y7.2.bad⟩ : T48) y10 e11 nz wz S4 w5 (Lr) b2 gx0 ve0_4v_3 p5 (fe0_4v_3.ext z5)) ?_
      rintro _ w6 ⟨S6, ve1_6v_3, rfl, z6, p6, fe1_6v_3⟩
      refine Goes.runs 2 [(25, .bool y10.1)] [.code (sub [1, 1, 1, 1, 1, 0, 1] B86), .code (sub [1, 1, 1, 1, 1, 1] B86)] (by kernel_rfl) ?_
      exact Goes.jump 41 [(1, .pointer (some ⟨b2, 0, none⟩)), (4, .int .i64 (wr .i64 (wr .u8 (y7.1 - 48)))), (25, .bool y10.1)] (by kernel_rfl) (W.syntax_parser_number_l0 nz wz S0 w0 Lr gx0 _ _ h _ _ ((((((Ext.refl S0 w0).trans z2).trans z3).trans z4).trans z5).trans z6) b2 ve1_6v_3 p6 fe1_6v_3)
    · rw [decide_eq_false h9]
      refine Goes.runs 4 [(23, undef), (24, undef), (25, .bool false)] [.code (sub [1, 1, 1, 1, 1, 0, 1] B86), .code (sub [1, 1, 1, 1, 1, 1] B86)] (by kernel_rfl) ?_
      have p5 := p5.front 0 _ rfl
      have p5 := p5.front 1 _ rfl
      exact Goes.jump 41 [(1, .pointer (some ⟨b2, 0, none⟩)), (4, .int .i64 (wr .i64 (wr .u8 (y7.1 - 48)))), (25, .bool false)] (by kernel_rfl) (W.syntax_parser_number_l0 nz wz S0 w0 Lr gx0 _ _ h _ _ (((((Ext.refl S0 w0).trans z2).trans z3).trans z4).trans z5) b2 ve0_4v_3 p5 (fe0_4v_3.ext z5))
  · have h6' : y4.1 = false := by simpa using h6
    rw [h6']
    refine Goes.runs 5 [(2, .int .i64 (-1))] [.code (sub [1, 1, 0, 1, 0, 1] B86), .code (sub [1, 1, 1] B86)] (by kernel_rfl) ?_
    obtain rfl := Option.some.inj h
    have p3 := (p3.front 0 _ rfl).drop
    exact Goes.ret (fn := Try.f86) (by kernel_rfl) (v := .int .i64 (-1)) (by kernel_rfl) ⟨S3, ve1_3v_3, rfl, (((Ext.refl S0 w0).trans z2).trans z3), p3, fe1_3v_3⟩

/-! (*tidepole/syntax.parser).counted -/
def Post.syntax_parser_counted (nz : Nat) (wz : World) (S0 : Fz) (w0 : World) (Lr : List Ent) (gx0 : Nat) (r : Int × Int × T48) (v : Value) (w' : World) : Prop :=
  ∃ (S' : Fz) (ve0v_3 : Value), v = .tuple #[.int .i64 r.1, .int .i64 r.2.1] ∧ Ext S0 w0 S' w' ∧ Hp nz wz S' w' ((some gx0, .row 49 [.string r.2.2.s, .int .i64 r.2.2.at_, .int .i64 r.2.2.deep, ve0v_3] 4 0) :: Lr) ∧ PtO kT52 S' w' ve0v_3 r.2.2.bad

def L.syntax_parser_counted_l1 (nz : Nat) (wz : World) (S0 : Fz) (w0 : World) (Lr : List Ent) (gx0 : Nat) : Int × Int × Int × T48 → (Int × Int × T48) → Prop := fun ⟨x1, x6, x7, e0v⟩ r => ∀ S1 w1, Ext S0 w0 S1 w1 → ∀ (ve0v_3 : Value) (_ : Hp nz wz S1 w1 ((some gx0, .row 49 [.string e0v.s, .int .i64 e0v.at_, .int .i64 e0v.deep, ve0v_3] 4 0) :: Lr)) (_ : PtO kT52 S1 w1 ve0v_3 e0v.bad) (junk : Nat → Value),
  Goes Try.prog (base 74) [.code (sub [1, 1, 1, 1, 1] B74)] ⟨lfr 45 [(0, .pointer (some ⟨gx0, 0, none⟩)), (1, .int .i64 x1), (6, .int .i64 x6), (7, .int .i64 x7)] junk, []⟩ w1 (Done Try.prog 74 (Rets (Post.syntax_parser_counted nz wz S0 w0 Lr gx0 r)))

theorem W.syntax_parser_counted_l1 (nz : Nat) (wz : World) (S0 : Fz) (w0 : World) (Lr : List Ent) (gx0 : Nat) : ∀ a r, M.syntax_parser_counted_l1 a = some r → L.syntax_parser_counted_l1 nz wz S0 w0 Lr gx0 a r := by
  intro ⟨x1, x6, x7, e0v⟩ r h S1 w1 hx ve0v_3 p1 fe0v_3 junk
  rw [M.syntax_parser_counted_l1] at h
  try dsimp only at h
  refine Goes.runs 3 [(23, .pointer (some ⟨gx0, 0, none⟩))] [.inRegion (opsOf (sub [1, 1, 1, 1, 1, 0] B74)) [1], .code (sub [1, 1, 1, 1, 1, 1] B74)] (by kernel_rfl) ?_
  refine bind_some' h fun y12 e13 h => ?_
  refine Op_.call (.call { callee := .value (.func 87), args := #[(.tmp 23), (.const (.int .u8 125))], argTypes := #[46, 5] }) 24 0 87 #[.pointer (some ⟨gx0, 0, none⟩), .int .u8 125] (Goes.cs (by kernel_rfl)) (by kernel_rfl) (W.syntax_parser_need e0v 125 y12 e13 nz wz S1 w1 (Lr) gx0 ve0v_3 p1 fe0v_3) ?_
  rintro _ w6 ⟨S6, ve0_6v_3, rfl, z6, p6, fe0_6v_3⟩
  refine Goes.runs 7 [(25, .int .i64 x6), (26, .bool (decide (x6 > 64))), (27, .bool (decide (x6 > 64)))] [.inRegion (opsOf (sub [1, 1, 1, 1, 1, 1, 0, 0] B74)) [3, 4, 5, 6, 7, 8, 9, 10, 11, 12, 13, 14], .code (sub [1, 1, 1, 1, 1, 1, 0, 1] B74), .code (sub [1, 1, 1, 1, 1, 1, 1] B74)] (by kernel_rfl) ?_
  refine ite_some h (fun h14 h => ?_) (fun h14 h => ?_)
  · rw [decide_eq_true h14]
    refine Goes.runs 14 [(28, undef), (29, undef), (30, .bool true), (31, .bool true), (32, undef), (33, undef), (34, undef), (35, undef), (36, undef), (37, undef), (38, undef), (39, .bool true)] [.code (sub [1, 1, 1, 1, 1, 1, 0, 1, 0] B74), .code (sub [1, 1, 1, 1, 1, 1, 1] B74)] (by kernel_rfl) ?_
    refine Goes.runs 3 [(40, .pointer (some ⟨gx0, 0, none⟩)), (41, .int .i64 x1)] [.inRegion (opsOf (sub [1, 1, 1, 1, 1, 1, 0, 1, 0] B74)) [2], .code (sub [1, 1, 1, 1, 1, 1, 1] B74)] (by kernel_rfl) ?_
    refine bind_some' h fun y15 e16 h => ?_
    refine Op_.call (.call { callee := .value (.func 19), args := #[(.tmp 40), (.tmp 41)], argTypes := #[46, 3] }) 42 28 19 #[.pointer (some ⟨gx0, 0, none⟩), .int .i64 x1] (Goes.cs (by kernel_rfl)) (by kernel_rfl) (W.syntax_parser_fail y12 x1 y15 e16 nz wz S6 w6 (Lr) gx0 ve0_6v_3 p6 fe0_6v_3) ?_
    rintro _ w7 ⟨S7, Ar_7_2, nr_7_2, cr_7_2, ve0_7v_3, rfl, z7, p7, lr_7_1, fr_7_2, rfl, fe0_7v_3⟩
    refine Goes.runs 8 [(43, .int .i64 x6), (44, .int .i64 x7), (4, .int .i64 x6), (5, .int .i64 x7)] [.code (sub [1, 1, 1, 1, 1, 1, 1, 1] B74)] (by kernel_rfl) ?_
    obtain rfl := Option.some.inj h
    exact Goes.ret (fn := Try.f74) (by kernel_rfl) (v := .tuple #[.int .i64 x6, .int .i64 x7]) (by kernel_rfl) ⟨S7, ve0_7v_3, rfl, ((hx.trans z6).trans z7), p7, fe0_7v_3⟩
  · rw [decide_eq_false h14]
    refine Goes.runs 4 [(28, .int .i64 x7), (29, .bool (decide (x7 > 64))), (30, .bool (decide (x7 > 64))), (31, .bool (decide (x7 > 64)))] [.inRegion (opsOf (sub [1, 1, 1, 1, 1, 1, 0, 0] B74)) [7, 8, 9, 10, 11, 12, 13, 14], .code (sub [1, 1, 1, 1, 1, 1, 0, 1] B74), .code (sub [1, 1, 1, 1, 1, 1, 1] B74)] (by kernel_rfl) ?_
    refine ite_some h (fun h17 h => ?_) (fun h17 h => ?_)
    · rw [decide_eq_true h17]
      refine Goes.runs 13 [(32, undef), (33, undef), (34, undef), (35, undef), (36, undef), (37, undef), (38, undef), (39, .bool true), (40, .pointer (some ⟨gx0, 0, none⟩)), (41, .int .i64 x1)] [.inRegion (opsOf (sub [1, 1, 1, 1, 1, 1, 0, 1, 0] B74)) [2], .code (sub [1, 1, 1, 1, 1, 1, 1] B74)] (by kernel_rfl) ?_
      refine bind_some' h fun y18 e19 h => ?_
      refine Op_.call (.call { callee := .value (.func 19), args := #[(.tmp 40), (.tmp 41)], argTypes := #[46, 3] }) 42 28 19 #[.pointer (some ⟨gx0, 0, none⟩), .int .i64 x1] (Goes.cs (by kernel_rfl)) (by kernel_rfl) (W.syntax_parser_fail y12 x1 y18 e19 nz wz S6 w6 (Lr) gx0 ve0_6v_3 p6 fe0_6v_3) ?_
      rintro _ w8 ⟨S8, Ar_8_2, nr_8_2, cr_8_2, ve0_8v_3, rfl, z8, p8, lr_8_1, fr_8_2, rfl, fe0_8v_3⟩
      refine Goes.runs 8 [(43, .int .i64 x6), (44, .int .i64 x7), (4, .int .i64 x6), (5, .int .i64 x7)] [.code (sub [1, 1, 1, 1, 1, 1, 1, 1] B74)] (by kernel_rfl) ?_
      obtain rfl := Option.some.inj h
      exact Goes.ret (fn := Try.f74) (by kernel_rfl) (v := .tuple #[.int .i64 x6, .int .i64 x7]) (by kernel_rfl) ⟨S8, ve0_8v_3, rfl, ((hx.trans z6).trans z8), p8, fe0_8v_3⟩
    · rw [decide_eq_false h17]
      refine Goes.runs 3 [(32, .int .i64 x7), (33, .bool (decide (x7 ≥ 0))), (34, .bool (decide (x7 ≥ 0)))] [.inRegion (opsOf (sub [1, 1, 1, 1, 1, 1, 0, 0] B74)) [10, 11, 12, 13, 14], .code (sub [1, 1, 1, 1, 1, 1, 0, 1] B74), .code (sub [1, 1, 1, 1, 1, 1, 1] B74)] (by kernel_rfl) ?_
      refine ite_some h (fun h20 h => ?_) (fun h20 h => ?_)
      · rw [decide_eq_true h20]
        refine Goes.runs 6 [(35, .int .i64 x6), (36, .int .i64 x7), (37, .bool (decide (x6 > x7))), (38, .bool (decide (x6 > x7))), (39, .bool (decide (x6 > x7)))] [.code (sub [1, 1, 1, 1, 1, 1, 0, 1] B74), .code (sub [1, 1, 1, 1, 1, 1, 1] B74)] (by kernel_rfl) ?_
        refine ite_some h (fun h21 h => ?_) (fun h21 h => ?_)
        · rw [decide_eq_true h21]
          refine Goes.runs 4 [(40, .pointer (some ⟨gx0, 0, none⟩)), (41, .int .i64 x1)] [.inRegion (opsOf (sub [1, 1, 1, 1, 1, 1, 0, 1, 0] B74)) [2], .code (sub [1, 1, 1, 1, 1, 1, 1] B74)] (by kernel_rfl) ?_
          refine bind_some' h fun y22 e23 h => ?_
          refine Op_.call (.call { callee := .value (.func 19), args := #[(.tmp 40), (.tmp 41)], argTypes := #[46, 3] }) 42 28 19 #[.pointer (some ⟨gx0, 0, none⟩), .int .i64 x1] (Goes.cs (by kernel_rfl)) (by kernel_rfl) (W.syntax_parser_fail y12 x1 y22 e23 nz wz S6 w6 (Lr) gx0 ve0_6v_3 p6 fe0_6v_3) ?_
          rintro _ w9 ⟨S9, Ar_9_2, nr_9_2, cr_9_2, ve0_9v_3, rfl, z9, p9, lr_9_1, fr_9_2, rfl, fe0_9v_3⟩
          refine Goes.runs 8 [(43, .int .i64 x6), (44, .int .i64 x7), (4, .int .i64 x6), (5, .int .i64 x7)] [.code (sub [1, 1, 1, 1, 1, 1, 1, 1] B74)] (by kernel_rfl) ?_
          obtain rfl := Option.some.inj h
          exact Goes.ret (fn := Try.f74) (by kernel_rfl) (v := .tuple #[.int .i64 x6, .int .i64 x7]) (by kernel_rfl) ⟨S9, ve0_9v_3, rfl, ((hx.trans z6).trans z9), p9, fe0_9v_3⟩
        · rw [decide_eq_false h21]
          refine Goes.runs 9 [(43, .int .i64 x6), (44, .int .i64 x7), (4, .int .i64 x6), (5, .int .i64 x7)] [.code (sub [1, 1, 1, 1, 1, 1, 1, 1] B74)] (by kernel_rfl) ?_
          obtain rfl := Option.some.inj h
          exact Goes.ret (fn := Try.f74) (by kernel_rfl) (v := .tuple #[.int .i64 x6, .int .i64 x7]) (by kernel_rfl) ⟨S6, ve0_6v_3, rfl, (hx.trans z6), p6, fe0_6v_3⟩
      · rw [decide_eq_false h20]
        refine Goes.runs 14 [(35, undef), (36, undef), (37, undef), (38, .bool false), (39, .bool false), (43, .int .i64 x6), (44, .int .i64 x7), (4, .int .i64 x6), (5, .int .i64 x7)] [.inRegion (opsOf (sub [1, 1, 1, 1, 1, 1, 1, 0] B74)) [], .code (sub [1, 1, 1, 1, 1, 1, 1, 1] B74)] (by kernel_rfl) ?_
        refine Goes.runs 1 [] [.code (sub [1, 1, 1, 1, 1, 1, 1, 1] B74)] (by kernel_rfl) ?_
        obtain rfl := Option.some.inj h
        exact Goes.ret (fn := Try.f74) (by kernel_rfl) (v := .tuple #[.int .i64 x6, .int .i64 x7]) (by kernel_rfl) ⟨S6, ve0_6v_3, rfl, (hx.trans z6), p6, fe0_6v_3⟩

/-! (*tidepole/syntax.parser).counted -/
def L.syntax_parser_counted_l0 (nz : Nat) (wz : World) (S0 : Fz) (w0 : World) (Lr : List Ent) (gx0 : Nat) : Int × Int × T48 → (Int × Int × T48) → Prop := fun ⟨x1, x6, e0v⟩ r => ∀ S1 w1, Ext S0 w0 S1 w1 → ∀ (ve0v_3 : Value) (_ : Hp nz wz S1 w1 ((some gx0, .row 49 [.string e0v.s, .int .i64 e0v.at_, .int .i64 e0v.deep, ve0v_3] 4 0) :: Lr)) (_ : PtO kT52 S1 w1 ve0v_3 e0v.bad) (junk : Nat → Value),
  Goes Try.prog (base 74) [.code (sub [1, 1, 1] B74)] ⟨lfr 45 [(0, .pointer (some ⟨gx0, 0, none⟩)), (1, .int .i64 x1), (6, .int .i64 x6)] junk, []⟩ w1 (Done Try.prog 74 (Rets (Post.syntax_parser_counted nz wz S0 w0 Lr gx0 r)))

theorem W.syntax_parser_counted_l0 (nz : Nat) (wz : World) (S0 : Fz) (w0 : World) (Lr : List Ent) (gx0 : Nat) : ∀ a r, M.syntax_parser_counted_l0 a = some r → L.syntax_parser_counted_l0 nz wz S0 w0 Lr gx0 a r := by
  intro ⟨x1, x6, e0v⟩ r h S1 w1 hx ve0v_3 p1 fe0v_3 junk
  rw [M.syntax_parser_counted_l0] at h
  try dsimp only at h
  refine Goes.runs 9 [(18, .int .i64 x6), (7, .int .i64 x6), (19, .pointer (some ⟨gx0, 0, none⟩))] [.inRegion (opsOf (sub [1, 1, 1, 1, 0, 0] B74)) [1], .code (sub [1, 1, 1, 1, 0, 1] B74), .code (sub [1, 1, 1, 1, 1] B74)] (by kernel_rfl) ?_
  refine bind_some' h fun y7 e8 h => ?_
  refine Op_.call (.call { callee := .value (.func 35), args := #[(.tmp 19), (.const (.int .u8 44))], argTypes := #[46, 5] }) 20 4 35 #[.pointer (some ⟨gx0, 0, none⟩), .int .u8 44] (Goes.cs (by kernel_rfl)) (by kernel_rfl) (W.syntax_parser_take e0v 44 y7 e8 nz wz S1 w1 (Lr) gx0 ve0v_3 p1 fe0v_3) ?_
  rintro _ w4 ⟨S4, ve0_4v_3, rfl, z4, p4, fe0_4v_3⟩
  refine Goes.runs 1 [] [.code (sub [1, 1, 1, 1, 0, 1] B74), .code (sub [1, 1, 1, 1, 1] B74)] (by kernel_rfl) ?_
  refine ite_some h (fun h9 h => ?_) (fun h9 h => ?_)
  · rw [h9]
    refine Goes.runs 3 [(21, .pointer (some ⟨gx0, 0, none⟩))] [.inRegion (opsOf (sub [1, 1, 1, 1, 0, 1, 0] B74)) [1, 2], .code (sub [1, 1, 1, 1, 1] B74)] (by kernel_rfl) ?_
    refine bind_some' h fun y10 e11 h => ?_
    refine Op_.call (.call { callee := .value (.func 86), args := #[(.tmp 21)], argTypes := #[46] }) 22 3 86 #[.pointer (some ⟨gx0, 0, none⟩)] (Goes.cs (by kernel_rfl)) (by kernel_rfl) (W.syntax_parser_number y7.2 y10 e11 nz wz S4 w4 (Lr) gx0 ve0_4v_3 p4 fe0_4v_3) ?_
    rintro _ w5 ⟨S5, ve0_5v_3, rfl, z5, p5, fe0_5v_3⟩
    refine Goes.runs 2 [(7, .int .i64 y10.1)] [.code (sub [1, 1, 1, 1, 1] B74)] (by kernel_rfl) ?_
    exact Goes.jump 45 [(0, .pointer (some ⟨gx0, 0, none⟩)), (1, .int .i64 x1), (6, .int .i64 x6), (7, .int .i64 y10.1)] (by kernel_rfl) (W.syntax_parser_counted_l1 nz wz S0 w0 Lr gx0 _ _ h _ _ ((hx.trans z4).trans z5) ve0_5v_3 p5 fe0_5v_3)
  · have h9' : y7.1 = false := by simpa using h9
    rw [h9']
    refine Goes.runs 2 [] [.code (sub [1, 1, 1, 1, 1] B74)] (by kernel_rfl) ?_
    exact Goes.jump 45 [(0, .pointer (some ⟨gx0, 0, none⟩)), (1, .int .i64 x1), (6, .int .i64 x6), (7, .int .i64 x6)] (by kernel_rfl) (W.syntax_parser_counted_l1 nz wz S0 w0 Lr gx0 _ _ h _ _ (hx.trans z4) ve0_4v_3 p4 fe0_4v_3)

/-! (*tidepole/syntax.parser).counted -/
theorem W.syntax_parser_counted (x0v : T48) (x1 : Int) (r : Int × Int × T48) (h : M.syntax_parser_counted x0v x1 = some r) (nz : Nat) (wz : World) (S0 : Fz) (w0 : World) (Lr : List Ent) (gx0 : Nat) (vx0v_3 : Value) (p0 : Hp nz wz S0 w0 ((some gx0, .row 49 [.string x0v.s, .int .i64 x0v.at_, .int .i64 x0v.deep, vx0v_3] 4 0) :: Lr)) (fx0v_3 : PtO kT52 S0 w0 vx0v_3 x0v.bad) :
    Calls Try.prog 74 #[.pointer (some ⟨gx0, 0, none⟩), .int .i64 x1] w0 (Rets (Post.syntax_parser_counted nz wz S0 w0 Lr gx0 r)) := by
  refine calls_of_goes (fn := Try.f74) (c := B74) (by kernel_rfl) (by kernel_rfl) 43 (by kernel_rfl) ?_
  refine Goes.jump 45 [(0, .pointer (some ⟨gx0, 0, none⟩)), (1, .int .i64 x1)] (by kernel_rfl) (fun junk => ?_)
  delta M.syntax_parser_counted at h
  refine Goes.runs 8 [(4, .int .i64 0), (5, .int .i64 0), (8, .pointer (some ⟨gx0, 0, none⟩))] [.inRegion (opsOf (sub [1, 0] B74)) [1, 2], .code (sub [1, 1] B74)] (by kernel_rfl) ?_
  refine bind_some' h fun y2 e3 h => ?_
  refine Op_.call (.call { callee := .value (.func 86), args := #[(.tmp 8)], argTypes := #[46] }) 9 3 86 #[.pointer (some ⟨gx0, 0, none⟩)] (Goes.cs (by kernel_rfl)) (by kernel_rfl) (W.syntax_parser_number x0v y2 e3 nz wz S0 w0 (Lr) gx0 vx0v_3 p0 fx0v_3) ?_
  rintro _ w2 ⟨S2, ve0_2v_3, rfl, z2, p2, fe0_2v_3⟩
  refine Goes.runs 8 [(6, .int .i64 y2.1), (10, .int .i64 y2.1), (11, .bool (decide (y2.1 < 0)))] [.code (sub [1, 1, 0, 1] B74), .code (sub [1, 1, 1] B74)] (by kernel_rfl) ?_
  refine ite_some h (fun h4 h => ?_) (fun h4 h => ?_)
  · rw [decide_eq_true h4]
    refine Goes.runs 6 [(12, .pointer (some ⟨gx0, 0, none⟩)), (13, .pointer (some ⟨gx0, 0, none⟩)), (14, .pointer (some ⟨gx0, 0, none⟩)), (15, .pointer (some ⟨gx0, 1, none⟩))] [.inRegion (opsOf (sub [1, 1, 0, 1, 0] B74)) [4, 5], .code (sub [1, 1, 1] B74)] (by kernel_rfl) ?_
    refine Op_.ld1 3 (.tmp 15) 16 3 ⟨gx0, 1, none⟩ (.int .i64 y2.2.at_) (Goes.vs (by kernel_rfl)) (by kernel_rfl) (by kernel_rfl) ((p2.mem 0 rfl).cell 1 _ rfl) ?_
    refine bind_some' h fun y5 e6 h => ?_
    refine Op_.call (.call { callee := .value (.func 19), args := #[(.tmp 12), (.tmp 16)], argTypes := #[46, 3] }) 17 28 19 #[.pointer (some ⟨gx0, 0, none⟩), .int .i64 y2.2.at_] (Goes.cs (by kernel_rfl)) (by kernel_rfl) (W.syntax_parser_fail y2.2 y2.2.at_ y5 e6 nz wz S2 w2 (Lr) gx0 ve0_2v_3 p2 fe0_2v_3) ?_
    rintro _ w3 ⟨S3, Ar_3_2, nr_3_2, cr_3_2, ve0_3v_3, rfl, z3, p3, lr_3_1, fr_3_2, rfl, fe0_3v_3⟩
    refine Goes.runs 1 [] [.code (sub [1, 1, 1] B74)] (by kernel_rfl) ?_
    exact Goes.jump 45 [(0, .pointer (some ⟨gx0, 0, none⟩)), (1, .int .i64 x1), (6, .int .i64 y2.1)] (by kernel_rfl) (W.syntax_parser_counted_l0 nz wz S0 w0 Lr gx0 _ _ h _ _ (((Ext.refl S0 w0).trans z2).trans z3) ve0_3v_3 p3 fe0_3v_3)
  · rw [decide_eq_false h4]
    refine Goes.runs 2 [] [.code (sub [1, 1, 1] B74)] (by kernel_rfl) ?_
    exact Goes.jump 45 [(0, .pointer (some ⟨gx0, 0, none⟩)), (1, .int .i64 x1), (6, .int .i64 y2.1)] (by kernel_rfl) (W.syntax_parser_counted_l0 nz wz S0 w0 Lr gx0 _ _ h _ _ ((Ext.refl S0 w0).trans z2) ve0_2v_3 p2 fe0_2v_3)

/-! tidepole/syntax.several -/
def Post.syntax_several (nz : Nat) (wz : World) (S0 : Fz) (w0 : World) (Lr : List Ent) (r : T27) (v : Value) (w' : World) : Prop :=
  ∃ (S' : Fz) (Aq_2 : Option Addr) (nq_2 : Nat) (cq_2 : Nat), v = .agg #[.int .i64 r.Kind, .int .u64 (gi r.Set 0), .int .u64 (gi r.Set 1), .int .u64 (gi r.Set 2), .int .u64 (gi r.Set 3), .slice Aq_2 nq_2 cq_2, .int .i64 r.Min, .int .i64 r.Max] ∧ Ext S0 w0 S' w' ∧ Hp nz wz S' w' (Lr) ∧ r.Set.length = 4 ∧ Rd kT27 S' w' Aq_2 cq_2 r.L ∧ r.L.length = nq_2

theorem W.syntax_several (x0 : Int) (x1 : List T27) (r : T27) (h : M.syntax_several x0 x1 = some r) (nz : Nat) (wz : World) (S0 : Fz) (w0 : World) (Lr : List Ent) (Ax1 : Option Addr) (nx1 : Nat) (cx1 : Nat) (p0 : Hp nz wz S0 w0 (Lr)) (fx1 : Rd kT27 S0 w0 Ax1 cx1 x1) (lx1 : x1.length = nx1) :
    Calls Try.prog 36 #[.int .i64 x0, .slice Ax1 nx1 cx1] w0 (Rets (Post.syntax_several nz wz S0 w0 Lr r)) := by
  subst lx1
  refine calls_of_goes (fn := Try.f36) (c := B36) (by kernel_rfl) (by kernel_rfl) 12 (by kernel_rfl) ?_
  refine Goes.jump 14 [(0, .int .i64 x0), (1, .slice Ax1 x1.length cx1)] (by kernel_rfl) (fun junk => ?_)
  delta M.syntax_several at h
  refine Goes.runs 2 [] [.inRegion (opsOf (sub [0] B36)) [0], .code (sub [1] B36)] (by kernel_rfl) ?_
  refine Op_.alloc 28 4 0 (.agg #[.int .i64 0, .int .u64 0, .int .u64 0, .int .u64 0, .int .u64 0, .slice none 0 0, .int .i64 0, .int .i64 0]) [.int .i64 0, .int .u64 0, .int .u64 0, .int .u64 0, .int .u64 0, .slice none 0 0, .int .i64 0, .int .i64 0] p0 (Goes.vs (by kernel_rfl)) (by kernel_rfl) (by kernel_rfl) ?_
  intro b1 w2 z2 p2
  refine Goes.runs 8 [(5, .slice Ax1 x1.length cx1), (6, .int .i64 (x1.length : Int)), (7, .bool (decide ((x1.length : Int) = 1)))] [.code (sub [1, 0, 1] B36), .code (sub [1, 1] B36)] (by kernel_rfl) ?_
  refine ite_some h (fun h3 h => ?_) (fun h3 h => ?_)
  · rw [decide_eq_true h3]
    refine Goes.runs 4 [(8, .slice Ax1 x1.length cx1)] [.inRegion (opsOf (sub [1, 0, 1, 0, 0] B36)) [1, 2, 3], .code (sub [1, 0, 1, 0, 1] B36), .code (sub [1, 1] B36)] (by kernel_rfl) ?_
    refine guard_some' h fun g4 h => ?_
    refine Op_.ixR_n 26 (.tmp 8) (.const (.int .i64 0)) 9 0 28 .i64 0 (gi x1 0) rfl rfl (fx1.ext z2) (Goes.vs (by kernel_rfl)) (by kernel_rfl) (by kernel_rfl) (by kernel_rfl) (by kernel_rfl) (by decide : (0 : Int) ≤ 0) g4 ?_
    intro a5 _ f6 q7
    have q8 := q7
    obtain ⟨_, _, rfl, rfl, ⟨_, _, rfl, ⟨l9, f10⟩, ⟨_, _, rfl, ⟨A11, c12, rfl, f13⟩, ⟨_, _, rfl, rfl, rfl⟩⟩⟩⟩ := kT27_open q8
    obtain rfl := els_lit4' f10 l9
    refine Op_.ldN 28 (.tmp 9) 10 28 a5 ([.int .i64 ((gi x1 0).Kind)] ++ ([.int .u64 (gi ((gi x1 0).Set) 0), .int .u64 (gi ((gi x1 0).Set) 1), .int .u64 (gi ((gi x1 0).Set) 2), .int .u64 (gi ((gi x1 0).Set) 3)] ++ ([.slice A11 (((gi x1 0).L).length) c12] ++ ([.int .i64 ((gi x1 0).Min)] ++ [.int .i64 ((gi x1 0).Max)])))) (Goes.vs (by kernel_rfl)) (by kernel_rfl) (by kernel_rfl) (by kernel_rfl) (f6.cell) ?_
    refine Op_.st 28 (.tmp 4) (.tmp 10) 0 0 b1 0 (.agg #[.int .i64 ((gi x1 0).Kind), .int .u64 (gi ((gi x1 0).Set) 0), .int .u64 (gi ((gi x1 0).Set) 1), .int .u64 (gi ((gi x1 0).Set) 2), .int .u64 (gi ((gi x1 0).Set) 3), .slice A11 (((gi x1 0).L).length) c12, .int .i64 ((gi x1 0).Min), .int .i64 ((gi x1 0).Max)]) [.int .i64 ((gi x1 0).Kind), .int .u64 (gi ((gi x1 0).Set) 0), .int .u64 (gi ((gi x1 0).Set) 1), .int .u64 (gi ((gi x1 0).Set) 2), .int .u64 (gi ((gi x1 0).Set) 3), .slice A11 (((gi x1 0).L).length) c12, .int .i64 ((gi x1 0).Min), .int .i64 ((gi x1 0).Max)] p2 rfl (Goes.ss (by kernel_rfl)) (by kernel_rfl) (by kernel_rfl) (by kernel_rfl) (by kernel_rfl) (Nat.zero_le _) (by simp only [List.length_cons, List.length_nil]; omega) (by simp [Value.oneCell']) ?_
    intro w3 z3 p3
    refine Goes.runs 1 [] [.code (sub [1, 0, 1, 0, 1] B36), .code (sub [1, 1] B36)] (by kernel_rfl) ?_
    obtain rfl := Option.some.inj h
    exact Goes.ret (fn := Try.f36) (by kernel_rfl) (v := .agg #[.int .i64 ((gi x1 0).Kind), .int .u64 (gi ((gi x1 0).Set) 0), .int .u64 (gi ((gi x1 0).Set) 1), .int .u64 (gi ((gi x1 0).Set) 2), .int .u64 (gi ((gi x1 0).Set) 3), .slice A11 (((gi x1 0).L).length) c12, .int .i64 ((gi x1 0).Min), .int .i64 ((gi x1 0).Max)]) (results_n1 (fn := Try.f36) (a := .cell 4 28) (by kernel_rfl) (resV_cell ⟨b1, 0, none⟩ (by kernel_rfl) (run_loadN [.int .i64 ((gi x1 0).Kind), .int .u64 (gi ((gi x1 0).Set) 0), .int .u64 (gi ((gi x1 0).Set) 1), .int .u64 (gi ((gi x1 0).Set) 2), .int .u64 (gi ((gi x1 0).Set) 3), .slice A11 (((gi x1 0).L).length) c12, .int .i64 ((gi x1 0).Min), .int .i64 ((gi x1 0).Max)] (by kernel_rfl) (by kernel_rfl) (At_part (us := []) (vs := [.int .i64 ((gi x1 0).Kind), .int .u64 (gi ((gi x1 0).Set) 0), .int .u64 (gi ((gi x1 0).Set) 1), .int .u64 (gi ((gi x1 0).Set) 2), .int .u64 (gi ((gi x1 0).Set) 3), .slice A11 (((gi x1 0).L).length) c12, .int .i64 ((gi x1 0).Min), .int .i64 ((gi x1 0).Max)]) (ws := []) (p3.mem 0 rfl) 0 rfl)))) ⟨S0, A11, ((gi x1 0).L).length, c12, rfl, (((Ext.refl S0 w0).trans z2).trans z3), p3.drop, l9, (f13.ext z3), rfl⟩
  · rw [decide_eq_false h3]
    refine Goes.runs 7 [(11, .int .i64 x0), (12, .slice Ax1 x1.length cx1), (13, .agg #[.int .i64 x0, .int .u64 0, .int .u64 0, .int .u64 0, .int .u64 0, .slice Ax1 x1.length cx1, .int .i64 0, .int .i64 0])] [.inRegion (opsOf (sub [1, 1, 0] B36)) [3], .code (sub [1, 1, 1] B36)] (by kernel_rfl) ?_
    refine Op_.st 28 (.tmp 4) (.tmp 13) 0 0 b1 0 (.agg #[.int .i64 x0, .int .u64 0, .int .u64 0, .int .u64 0, .int .u64 0, .slice Ax1 x1.length cx1, .int .i64 0, .int .i64 0]) [.int .i64 x0, .int .u64 0, .int .u64 0, .int .u64 0, .int .u64 0, .slice Ax1 x1.length cx1, .int .i64 0, .int .i64 0] p2 rfl (Goes.ss (by kernel_rfl)) (by kernel_rfl) (by kernel_rfl) (by kernel_rfl) (by kernel_rfl) (Nat.zero_le _) (by simp only [List.length_cons, List.length_nil]; omega) (by simp [Value.oneCell']) ?_
    intro w4 z4 p4
    refine Goes.runs 1 [] [.code (sub [1, 1, 1] B36)] (by kernel_rfl) ?_
    obtain rfl := Option.some.inj h
    exact Goes.ret (fn := Try.f36) (by kernel_rfl) (v := .agg #[.int .i64 x0, .int .u64 0, .int .u64 0, .int .u64 0, .int .u64 0, .slice Ax1 x1.length cx1, .int .i64 0, .int .i64 0]) (results_n1 (fn := Try.f36) (a := .cell 4 28) (by kernel_rfl) (resV_cell ⟨b1, 0, none⟩ (by kernel_rfl) (run_loadN [.int .i64 x0, .int .u64 0, .int .u64 0, .int .u64 0, .int .u64 0, .slice Ax1 x1.length cx1, .int .i64 0, .int .i64 0] (by kernel_rfl) (by kernel_rfl) (At_part (us := []) (vs := [.int .i64 x0, .int .u64 0, .int .u64 0, .int .u64 0, .int .u64 0, .slice Ax1 x1.length cx1, .int .i64 0, .int .i64 0]) (ws := []) (p4.mem 0 rfl) 0 rfl)))) ⟨S0, Ax1, x1.length, cx1, rfl, (((Ext.refl S0 w0).trans z2).trans z4), p4.drop, rfl, (fx1.ext (z2.trans z4)), rfl⟩

end Go.Gx
