import Derived.Test.YtgkijdahghfldaaWPstb

set_option linter.unusedVariables false

set_option maxRecDepth 100000

namespace Go.Gx

open Go.RowKit Go.Proofs

/-! tidepole/tidepolelaw13.PostGoes -/
def Post.tidepolelaw13_PostGoes (nz : Nat) (wz : World) (S0 : Fz) (w0 : World) (Lr : List Ent) (r : Bool) (v : Value) (w' : World) : Prop :=
  ∃ (S' : Fz) , v = .bool r ∧ Ext S0 w0 S' w' ∧ Hp nz wz S' w' (Lr)

theorem W.tidepolelaw13_PostGoes (x0 : List Int) (x1 : Int) (r : Bool) (h : M.tidepolelaw13_PostGoes x0 x1 = some r) (nz : Nat) (wz : World) (S0 : Fz) (w0 : World) (Lr : List Ent) (Ax0 : Option Addr) (cx0 : Nat) (p0 : Hp nz wz S0 w0 (Lr)) (fx0 : Rd (kInt .u64) S0 w0 Ax0 cx0 x0) :
    Calls Try.prog 4 #[.slice Ax0 x0.length cx0, .int .i64 x1] w0 (Rets (Post.tidepolelaw13_PostGoes nz wz S0 w0 Lr r)) := by
  refine calls_of_goes (fn := Try.f4) (c := B4) (by kernel_rfl) (by kernel_rfl) 39 (by kernel_rfl) ?_
  refine Goes.jump 41 [(0, .slice Ax0 x0.length cx0), (1, .int .i64 x1)] (by kernel_rfl) (fun junk => ?_)
  delta M.tidepolelaw13_PostGoes at h
  refine Goes.runs 2 [] [.inRegion (opsOf (sub [0] B4)) [0, 1], .code (sub [1] B4)] (by kernel_rfl) ?_
  refine Op_.box 3 (.tmp 1) 3 0 (.int .i64 x1) [.int .i64 x1] p0 (Goes.vs (by kernel_rfl)) (by kernel_rfl) (by kernel_rfl) ?_
  intro b1 w2 z2 p2
  refine Goes.runs 5 [(4, .bool false)] [.inRegion (opsOf (sub [1, 0, 0] B4)) [0, 1], .code (sub [1, 0, 1] B4), .code (sub [1, 1] B4)] (by kernel_rfl) ?_
  obtain ⟨y3, e4, h⟩ := bind_some h
  try dsimp only at h
  refine Op_.call (.call { callee := .value (.func 8), args := #[], argTypes := #[] }) 8 4 8 #[] (Goes.cs (by kernel_rfl)) (by kernel_rfl) (W.tidepolelaw13_works  y3 e4 nz wz S0 w2 ((some b1, .row 3 [.int .i64 x1] 1 0) :: Lr)  p2 ) ?_
  rintro _ w3 ⟨S3, rfl, z3, p3⟩
  refine Goes.runs 2 [(9, .bool (!y3))] [.code (sub [1, 0, 1] B4), .code (sub [1, 1] B4)] (by kernel_rfl) ?_
  by_cases h5 : y3 = true
  · rw [if_pos h5] at h
    rw [h5]
    refine Goes.runs 5 [(10, .slice Ax0 x0.length cx0)] [.inRegion (opsOf (sub [1, 1, 0] B4)) [1, 2], .code (sub [1, 1, 1] B4)] (by kernel_rfl) ?_
    obtain ⟨y6, e7, h⟩ := bind_some h
    try dsimp only at h
    refine Op_.call (.call { callee := .value (.func 14), args := #[(.tmp 10)], argTypes := #[22] }) 11 22 14 #[.slice Ax0 x0.length cx0] (Goes.cs (by kernel_rfl)) (by kernel_rfl) (W.tidepolelaw13_own x0 y6 e7 nz wz S3 w3 ((some b1, .row 3 [.int .i64 x1] 1 0) :: Lr) Ax0 cx0 p3 ((fx0.ext z2).ext z3)) ?_
    rintro _ w4 ⟨S4, G8, c9, cs10, rfl, z4, p4, f12⟩
    refine Goes.runs 5 [(0, .slice (Gp G8) y6.length c9), (12, .slice (Gp G8) y6.length c9)] [.inRegion (opsOf (sub [1, 1, 1, 0] B4)) [1, 2, 3], .code (sub [1, 1, 1, 1] B4)] (by kernel_rfl) ?_
    obtain ⟨S5, z5, p5, f14⟩ := p4.freezeRd 0 rfl f12 (by decide)
    obtain ⟨y15, e16, h⟩ := bind_some h
    try dsimp only at h
    refine Op_.call (.call { callee := .value (.func 14), args := #[(.tmp 12)], argTypes := #[22] }) 13 22 14 #[.slice (Gp G8) y6.length c9] (Goes.cs (by kernel_rfl)) (by kernel_rfl) (W.tidepolelaw13_own y6 y15 e16 nz wz S5 w4 ((G8, .row 35 cs10 (c9 * (kInt .u64).size) cs10.length) :: (some b1, .row 3 [.int .i64 x1] 1 0) :: Lr) (Gp G8) c9 p5 f14) ?_
    rintro _ w6 ⟨S6, G17, c18, cs19, rfl, z6, p6, f21⟩
    have p6 := (p6.front 1 _ rfl).drop
    obtain ⟨S7, z7, p7, f23⟩ := p6.freezeRd 0 rfl f21 (by decide)
    obtain ⟨y24, e25, h⟩ := bind_some h
    try dsimp only at h
    refine Op_.call (.call { callee := .value (.func 15), args := #[(.tmp 13)], argTypes := #[22] }) 14 32 15 #[.slice (Gp G17) y15.length c18] (Goes.cs (by kernel_rfl)) (by kernel_rfl) (W.post_All y15 y24 e25 nz wz S7 w6 ((G17, .row 35 cs19 (c18 * (kInt .u64).size) cs19.length) :: (some b1, .row 3 [.int .i64 x1] 1 0) :: Lr) (Gp G17) c18 p7 f23) ?_
    rintro _ w8 ⟨S8, b27, A28, c29, rfl, z8, p8, f30⟩
    have p8 := (p8.front 1 _ rfl).drop
    refine Goes.runs 12 [(5, .func (.func 45) #[] #[.pointer (some ⟨b27, 0, none⟩)]), (15, .func (.func 45) #[] #[.pointer (some ⟨b27, 0, none⟩)]), (16, .bool false)] [.inRegion (opsOf (sub [1, 1, 1, 1, 1, 0] B4)) [0, 1, 2], .code (sub [1, 1, 1, 1, 1, 1] B4)] (by kernel_rfl) ?_
    refine Op_.ld1 3 (.tmp 3) 17 3 ⟨b1, 0, none⟩ (.int .i64 x1) (Goes.vs (by kernel_rfl)) (by kernel_rfl) (by kernel_rfl) ((p8.mem 1 rfl).cell 0 _ rfl) ?_
    obtain ⟨y31, e32, h⟩ := bind_some h
    try dsimp only at h
    refine Op_.call (.call { callee := .value (.func 16), args := #[(.tmp 17), (.const (.int .i64 70))], argTypes := #[3, 3] }) 18 3 16 #[.int .i64 x1, .int .i64 70] (Goes.cs (by kernel_rfl)) (by kernel_rfl) (W.tidepolebase_Among x1 70 y31 e32 nz wz S8 w8 ((some b27, .row 22 [.slice A28 y24.length c29] 1 0) :: (some b1, .row 3 [.int .i64 x1] 1 0) :: Lr)  p8 ) ?_
    rintro _ w9 ⟨S9, rfl, z9, p9⟩
    refine Op_.st 3 (.tmp 3) (.tmp 18) 0 1 b1 0 (.int .i64 y31) [.int .i64 y31] p9 rfl (Goes.ss (by kernel_rfl)) (by kernel_rfl) (by kernel_rfl) (by kernel_rfl) (by kernel_rfl) (Nat.zero_le _) (by simp only [List.length_cons, List.length_nil]; omega) (by simp [Value.oneCell']) ?_
    intro w10 z10 p10
    refine Goes.runs 3 [] [.inRegion (opsOf (sub [1, 1, 1, 1, 1, 1, 0] B4)) [0, 1, 2, 3, 4, 5], .code (sub [1, 1, 1, 1, 1, 1, 1] B4)] (by kernel_rfl) ?_
    have f34 : Els (kInt .u64) S9 w10 ([] : List Value) ([] : List Int) := Els.nil
    refine Op_.made (.buildSlice 22 0 #[]) 19 22 (fun b => .slice (Gp (some b)) 0 0) 35 ([] : List Value) p10 (Goes.vs (by kernel_rfl)) (by kernel_rfl) ?_
    intro b33 w11 z11 p11
    have p11 : Hp nz wz S9 w11 (((some b33), .row 35 ([] : List Value) (0 * (kInt .u64).size) 0) :: (some b27, .row 22 [.slice A28 y24.length c29] 1 0) :: (some b1, .row 3 [.int .i64 y31] 1 0) :: Lr) := p11
    have f37 : Els (kInt .u64) S9 w11 ([] : List Value) ([] : List Int) := Els.nil
    refine Op_.made (.buildSlice 22 0 #[]) 20 22 (fun b => .slice (Gp (some b)) 0 0) 35 ([] : List Value) p11 (Goes.vs (by kernel_rfl)) (by kernel_rfl) ?_
    intro b36 w12 z12 p12
    have p12 : Hp nz wz S9 w12 (((some b36), .row 35 ([] : List Value) (0 * (kInt .u64).size) 0) :: ((some b33), .row 35 ([] : List Value) (0 * (kInt .u64).size) 0) :: (some b27, .row 22 [.slice A28 y24.length c29] 1 0) :: (some b1, .row 3 [.int .i64 y31] 1 0) :: Lr) := p12
    refine Op_.alloc 22 6 0 (.slice none 0 0) [.slice none 0 0] p12 (Goes.vs (by kernel_rfl)) (by kernel_rfl) (by kernel_rfl) ?_
    intro b39 w13 z13 p13
    refine Op_.alloc 22 7 0 (.slice none 0 0) [.slice none 0 0] p13 (Goes.vs (by kernel_rfl)) (by kernel_rfl) (by kernel_rfl) ?_
    intro b41 w14 z14 p14
    refine Op_.st 22 (.tmp 6) (.tmp 19) 0 1 b39 0 (.slice (Gp (some b33)) ([] : List Int).length 0) [.slice (Gp (some b33)) ([] : List Int).length 0] p14 rfl (Goes.ss (by kernel_rfl)) (by kernel_rfl) (by kernel_rfl) (by kernel_rfl) (by kernel_rfl) (Nat.zero_le _) (by simp only [List.length_cons, List.length_nil]; omega) (by simp [Value.oneCell']) ?_
    intro w15 z15 p15
    refine Op_.st 22 (.tmp 7) (.tmp 20) 0 0 b41 0 (.slice (Gp (some b36)) ([] : List Int).length 0) [.slice (Gp (some b36)) ([] : List Int).length 0] p15 rfl (Goes.ss (by kernel_rfl)) (by kernel_rfl) (by kernel_rfl) (by kernel_rfl) (by kernel_rfl) (Nat.zero_le _) (by simp only [List.length_cons, List.length_nil]; omega) (by simp [Value.oneCell']) ?_
    intro w16 z16 p16
    refine Goes.runs 5 [(21, .func (.func 45) #[] #[.pointer (some ⟨b27, 0, none⟩)]), (22, .func (.func 17) #[] #[.pointer (some ⟨b39, 0, none⟩), .pointer (some ⟨b1, 0, none⟩)])] [.inRegion (opsOf (sub [1, 1, 1, 1, 1, 1, 1, 0] B4)) [2], .code (sub [1, 1, 1, 1, 1, 1, 1, 1] B4)] (by kernel_rfl) ?_
    have p16 := p16.front 4 _ rfl
    have p16 := p16.front 5 _ rfl
    have p16 := p16.front 5 _ rfl
    have p16 := p16.front 4 _ rfl
    obtain ⟨y43, e44, h⟩ := bind_some h
    try dsimp only at h
    refine Op_.call (.call { callee := .value (.tmp 21), args := #[(.tmp 22)], argTypes := #[36] }) 23 0 45 #[.func (.func 17) #[] #[.pointer (some ⟨b39, 0, none⟩), .pointer (some ⟨b1, 0, none⟩)], .pointer (some ⟨b27, 0, none⟩)] (Goes.cs (by kernel_rfl)) (by kernel_rfl) (W.post_All_1 ([] : List Int) y31 y24 y43 e44 nz wz S9 w16 ((some b41, .row 22 [.slice (Gp (some b36)) ([] : List Int).length 0] 1 0) :: ((some b36), .row 35 ([] : List Value) (0 * (kInt .u64).size) 0) :: Lr) b39 (some b33) 0 ([] : List Value) b1 b27 A28 c29 p16 ((((((f34.ext z11).ext z12).ext z13).ext z14).ext z15).ext z16) ((((((((f30.ext z9).ext z10).ext z11).ext z12).ext z13).ext z14).ext z15).ext z16)) ?_
    rintro _ w17 ⟨S17, G45, c46, cs47, A51, c52, rfl, z17, p17, f49, f53⟩
    refine Goes.runs 5 [(24, .func (.func 45) #[] #[.pointer (some ⟨b27, 0, none⟩)]), (25, .func (.func 18) #[] #[.pointer (some ⟨b41, 0, none⟩)])] [.inRegion (opsOf (sub [1, 1, 1, 1, 1, 1, 1, 1, 0] B4)) [2], .code (sub [1, 1, 1, 1, 1, 1, 1, 1, 1] B4)] (by kernel_rfl) ?_
    have p17 := p17.front 3 _ rfl
    have p17 := p17.front 5 _ rfl
    have p17 := p17.front 5 _ rfl
    obtain ⟨y54, e55, h⟩ := bind_some h
    try dsimp only at h
    refine Op_.call (.call { callee := .value (.tmp 24), args := #[(.tmp 25)], argTypes := #[36] }) 26 0 45 #[.func (.func 18) #[] #[.pointer (some ⟨b41, 0, none⟩)], .pointer (some ⟨b27, 0, none⟩)] (Goes.cs (by kernel_rfl)) (by kernel_rfl) (W.post_All_1_2 ([] : List Int) y43.2.2 y54 e55 nz wz S17 w17 ((G45, .row 35 cs47 (c46 * (kInt .u64).size) 0) :: (some b39, .row 22 [.slice (Gp G45) y43.1.length c46] 1 0) :: (some b1, .row 3 [.int .i64 y43.2.1] 1 0) :: Lr) b41 (some b36) 0 ([] : List Value) b27 A51 c52 p17 ((((((f37.ext z12).ext z13).ext z14).ext z15).ext z16).ext z17) f53) ?_
    rintro _ w18 ⟨S18, G56, c57, cs58, A62, c63, rfl, z18, p18, f60, f64⟩
    refine Goes.runs 2 [] [.code (sub [1, 1, 1, 1, 1, 1, 1, 1, 1, 0] B4), .code (sub [1, 1, 1, 1, 1, 1, 1, 1, 1, 1] B4)] (by kernel_rfl) ?_
    have z19 : Ext S18 w18 S18 (w18).drew := Ext.draw
    have p19 := p18.draw
    refine Goes.drawn (s := []) (F := Fc S18 (w18).drew [(⟨b39, 0, none⟩, .slice (Gp G45) y43.1.length c46), (⟨b1, 0, none⟩, .int .i64 y43.2.1), (⟨b41, 0, none⟩, .slice (Gp G56) y54.1.length c57)]) 11 15 (by kernel_rfl) (by kernel_rfl) (by kernel_rfl) (by kernel_rfl) ?_
    generalize (w18).drew = w19 at z19 p19 ⊢
    refine AnyG.ld1 (i := 0) 22 (.tmp 6) 27 22 ⟨b39, 0, none⟩ (.slice (Gp G45) y43.1.length c46) (by kernel_rfl) (by kernel_rfl) (Fc.here ⟨((p19.mem 4 rfl).cell 0 _ rfl), ((p19.mem 5 rfl).cell 0 _ rfl), ((p19.mem 1 rfl).cell 0 _ rfl), trivial⟩) (by kernel_rfl) (by kernel_rfl) (fun _ h => h.2.at_ 0 rfl) ?_
    refine AnyG.pure (i := 1) (.move (.tmp 0)) 28 22 (.slice (Gp G8) y6.length c9) (by kernel_rfl) (by kernel_rfl) (by kernel_rfl) (Fc.here ⟨((p19.mem 4 rfl).cell 0 _ rfl), ((p19.mem 5 rfl).cell 0 _ rfl), ((p19.mem 1 rfl).cell 0 _ rfl), trivial⟩) ?_
    refine AnyG.pure (i := 2) (.move (.tmp 0)) 29 22 (.slice (Gp G8) y6.length c9) (by kernel_rfl) (by kernel_rfl) (by kernel_rfl) (Fc.here ⟨((p19.mem 4 rfl).cell 0 _ rfl), ((p19.mem 5 rfl).cell 0 _ rfl), ((p19.mem 1 rfl).cell 0 _ rfl), trivial⟩) ?_
    refine AnyG.pure (i := 3) (.call { callee := .builtin .len, args := #[(.tmp 29)], argTypes := #[22] }) 30 3 (.int .i64 (y6.length : Int)) (by kernel_rfl) (by kernel_rfl) (by kernel_rfl) (Fc.here ⟨((p19.mem 4 rfl).cell 0 _ rfl), ((p19.mem 5 rfl).cell 0 _ rfl), ((p19.mem 1 rfl).cell 0 _ rfl), trivial⟩) ?_
    refine AnyG.ld1 (i := 4) 3 (.tmp 3) 31 3 ⟨b1, 0, none⟩ (.int .i64 y43.2.1) (by kernel_rfl) (by kernel_rfl) (Fc.here ⟨((p19.mem 4 rfl).cell 0 _ rfl), ((p19.mem 5 rfl).cell 0 _ rfl), ((p19.mem 1 rfl).cell 0 _ rfl), trivial⟩) (by kernel_rfl) (by kernel_rfl) (fun _ h => h.2.at_ 1 rfl) ?_
    refine AnyG.pure (i := 5) (.binOp .add 3 (.tmp 31) (.const (.int .i64 1)) 3) 32 3 (.int .i64 (wr .i64 (y43.2.1 + 1))) (by kernel_rfl) (by kernel_rfl) (by kernel_rfl) (Fc.here ⟨((p19.mem 4 rfl).cell 0 _ rfl), ((p19.mem 5 rfl).cell 0 _ rfl), ((p19.mem 1 rfl).cell 0 _ rfl), trivial⟩) ?_
    refine AnyG.pure (i := 6) (.call { callee := .builtin .min, args := #[(.tmp 30), (.tmp 32)], argTypes := #[3, 3] }) 33 3 (.int .i64 (imn (y6.length : Int) (wr .i64 (y43.2.1 + 1)))) (by kernel_rfl) (by kernel_rfl) (by kernel_rfl) (Fc.here ⟨((p19.mem 4 rfl).cell 0 _ rfl), ((p19.mem 5 rfl).cell 0 _ rfl), ((p19.mem 1 rfl).cell 0 _ rfl), trivial⟩) ?_
    obtain ⟨g65, h⟩ := guard_some h
    obtain ⟨g66, h⟩ := guard_some h
    refine AnyG.slR (i := 7) 22 (.tmp 28) none (some (.tmp 33)) 34 22 35 0 (imn (y6.length : Int) (wr .i64 (y43.2.1 + 1))) ((((((((((((((f14.ext z6).ext z7).ext z8).ext z9).ext z10).ext z11).ext z12).ext z13).ext z14).ext z15).ext z16).ext z17).ext z18).ext z19) (by kernel_rfl) (by kernel_rfl) (Fc.here ⟨((p19.mem 4 rfl).cell 0 _ rfl), ((p19.mem 5 rfl).cell 0 _ rfl), ((p19.mem 1 rfl).cell 0 _ rfl), trivial⟩) (by kernel_rfl) (by kernel_rfl) (by kernel_rfl) Bnd.no (Bnd.at_ .i64 (by kernel_rfl)) (by decide) g65 g66 ?_
    intro A67 c68 f69
    obtain ⟨S20, z20, p20, f70⟩ := p19.freezeRd 3 rfl ((f49.ext z18).ext z19) (by decide)
    refine AnyG.refz z20 ?_
    obtain ⟨y71, e72, h⟩ := bind_some h
    try dsimp only at h
    refine Op_.call (.call { callee := .value (.func 11), args := #[(.tmp 27), (.tmp 34)], argTypes := #[22, 22] }) 35 4 11 #[.slice (Gp G45) y43.1.length c46, .slice A67 (sl y6 0 (imn (y6.length : Int) (wr .i64 (y43.2.1 + 1)))).length c68] (AnyG.cs (i := 8) (by kernel_rfl) (by kernel_rfl)) (by kernel_rfl) (W.tidepolelaw13_same y43.1 (sl y6 0 (imn (y6.length : Int) (wr .i64 (y43.2.1 + 1)))) y71 e72 nz wz S20 w19 ((G56, .row 35 cs58 (c57 * (kInt .u64).size) 0) :: (some b41, .row 22 [.slice (Gp G56) y54.1.length c57] 1 0) :: (some b27, .row 22 [.slice A62 y54.2.length c63] 1 0) :: (G45, .row 35 cs47 (c46 * (kInt .u64).size) cs47.length) :: (some b39, .row 22 [.slice (Gp G45) y43.1.length c46] 1 0) :: (some b1, .row 3 [.int .i64 y43.2.1] 1 0) :: Lr) (Gp G45) c46 A67 c68 p20 f70 (f69.ext z20)) ?_
    rintro _ w21 ⟨S21, rfl, z21, p21⟩
    refine AnyG.next z21 ⟨((p21.mem 4 rfl).cell 0 _ rfl), ((p21.mem 5 rfl).cell 0 _ rfl), ((p21.mem 1 rfl).cell 0 _ rfl), trivial⟩ ?_
    refine AnyG.pure (i := 9) (.move (.tmp 35)) 36 4 (.bool y71) (by kernel_rfl) (by kernel_rfl) (by kernel_rfl) (Fc.here ⟨((p21.mem 4 rfl).cell 0 _ rfl), ((p21.mem 5 rfl).cell 0 _ rfl), ((p21.mem 1 rfl).cell 0 _ rfl), trivial⟩) ?_
    by_cases h73 : y71 = true
    · rw [if_pos h73] at h
      rw [h73]
      refine AnyG.ld1 (i := 10) 22 (.tmp 7) 37 22 ⟨b41, 0, none⟩ (.slice (Gp G56) y54.1.length c57) (by kernel_rfl) (by kernel_rfl) (Fc.here ⟨((p21.mem 4 rfl).cell 0 _ rfl), ((p21.mem 5 rfl).cell 0 _ rfl), ((p21.mem 1 rfl).cell 0 _ rfl), trivial⟩) (by kernel_rfl) (by kernel_rfl) (fun _ h => h.2.at_ 2 rfl) ?_
      refine AnyG.pure (i := 11) (.move (.tmp 0)) 38 22 (.slice (Gp G8) y6.length c9) (by kernel_rfl) (by kernel_rfl) (by kernel_rfl) (Fc.here ⟨((p21.mem 4 rfl).cell 0 _ rfl), ((p21.mem 5 rfl).cell 0 _ rfl), ((p21.mem 1 rfl).cell 0 _ rfl), trivial⟩) ?_
      obtain ⟨S22, z22, p22, f74⟩ := p21.freezeRd 0 rfl (((f60.ext z19).ext z20).ext z21) (by decide)
      refine AnyG.refz z22 ?_
      obtain ⟨y75, e76, h⟩ := bind_some h
      try dsimp only at h
      refine Op_.call (.call { callee := .value (.func 11), args := #[(.tmp 37), (.tmp 38)], argTypes := #[22, 22] }) 39 4 11 #[.slice (Gp G56) y54.1.length c57, .slice (Gp G8) y6.length c9] (AnyG.cs (i := 12) (by kernel_rfl) (by kernel_rfl)) (by kernel_rfl) (W.tidepolelaw13_same y54.1 y6 y75 e76 nz wz S22 w21 ((G56, .row 35 cs58 (c57 * (kInt .u64).size) cs58.length) :: (some b41, .row 22 [.slice (Gp G56) y54.1.length c57] 1 0) :: (some b27, .row 22 [.slice A62 y54.2.length c63] 1 0) :: (G45, .row 35 cs47 (c46 * (kInt .u64).size) cs47.length) :: (some b39, .row 22 [.slice (Gp G45) y43.1.length c46] 1 0) :: (some b1, .row 3 [.int .i64 y43.2.1] 1 0) :: Lr) (Gp G56) c57 (Gp G8) c9 p22 f74 (((((((((((((((((f14.ext z6).ext z7).ext z8).ext z9).ext z10).ext z11).ext z12).ext z13).ext z14).ext z15).ext z16).ext z17).ext z18).ext z19).ext z20).ext z21).ext z22)) ?_
      rintro _ w23 ⟨S23, rfl, z23, p23⟩
      refine AnyG.next z23 ⟨((p23.mem 4 rfl).cell 0 _ rfl), ((p23.mem 5 rfl).cell 0 _ rfl), ((p23.mem 1 rfl).cell 0 _ rfl), trivial⟩ ?_
      refine AnyG.pure (i := 13) (.pick (.tmp 36) (.tmp 39) (.const (.bool false))) 40 4 (.bool y75) (by kernel_rfl) (by kernel_rfl) (by kernel_rfl) (Fc.here ⟨((p23.mem 4 rfl).cell 0 _ rfl), ((p23.mem 5 rfl).cell 0 _ rfl), ((p23.mem 1 rfl).cell 0 _ rfl), trivial⟩) ?_
      refine AnyG.pure (i := 14) (.assign (.tmp 40)) 4 4 (.bool y75) (by kernel_rfl) (by kernel_rfl) (by kernel_rfl) (Fc.here ⟨((p23.mem 4 rfl).cell 0 _ rfl), ((p23.mem 5 rfl).cell 0 _ rfl), ((p23.mem 1 rfl).cell 0 _ rfl), trivial⟩) ?_
      refine AnyG.done (by kernel_rfl) ?_ _
      have p23 := (p23.front 0 _ rfl).drop
      have p23 := (p23.front 0 _ rfl).drop
      have p23 := (p23.front 0 _ rfl).drop
      have p23 := (p23.front 0 _ rfl).drop
      have p23 := (p23.front 0 _ rfl).drop
      have p23 := (p23.front 0 _ rfl).drop
      obtain rfl := Option.some.inj h
      exact Goes.ret (fn := Try.f4) (by kernel_rfl) (v := .bool y75) (by kernel_rfl) ⟨S23, rfl, (((((((((((((((((((((((Ext.refl S0 w0).trans z2).trans z3).trans z4).trans z5).trans z6).trans z7).trans z8).trans z9).trans z10).trans z11).trans z12).trans z13).trans z14).trans z15).trans z16).trans z17).trans z18).trans z19).trans z20).trans z21).trans z22).trans z23), p23⟩
    · rw [if_neg h73] at h
      have h73' : y71 = false := by simpa using h73
      rw [h73']
      refine AnyG.skip1 (i := 10) 37 (by kernel_rfl) (by kernel_rfl) (Fc.here ⟨((p21.mem 4 rfl).cell 0 _ rfl), ((p21.mem 5 rfl).cell 0 _ rfl), ((p21.mem 1 rfl).cell 0 _ rfl), trivial⟩) ?_
      refine AnyG.skip1 (i := 11) 38 (by kernel_rfl) (by kernel_rfl) (Fc.here ⟨((p21.mem 4 rfl).cell 0 _ rfl), ((p21.mem 5 rfl).cell 0 _ rfl), ((p21.mem 1 rfl).cell 0 _ rfl), trivial⟩) ?_
      refine AnyG.skip1 (i := 12) 39 (by kernel_rfl) (by kernel_rfl) (Fc.here ⟨((p21.mem 4 rfl).cell 0 _ rfl), ((p21.mem 5 rfl).cell 0 _ rfl), ((p21.mem 1 rfl).cell 0 _ rfl), trivial⟩) ?_
      refine AnyG.pure (i := 13) (.pick (.tmp 36) (.tmp 39) (.const (.bool false))) 40 4 (.bool false) (by kernel_rfl) (by kernel_rfl) (by kernel_rfl) (Fc.here ⟨((p21.mem 4 rfl).cell 0 _ rfl), ((p21.mem 5 rfl).cell 0 _ rfl), ((p21.mem 1 rfl).cell 0 _ rfl), trivial⟩) ?_
      refine AnyG.pure (i := 14) (.assign (.tmp 40)) 4 4 (.bool false) (by kernel_rfl) (by kernel_rfl) (by kernel_rfl) (Fc.here ⟨((p21.mem 4 rfl).cell 0 _ rfl), ((p21.mem 5 rfl).cell 0 _ rfl), ((p21.mem 1 rfl).cell 0 _ rfl), trivial⟩) ?_
      refine AnyG.done (by kernel_rfl) ?_ _
      have p21 := (p21.front 0 _ rfl).drop
      have p21 := (p21.front 0 _ rfl).drop
      have p21 := (p21.front 0 _ rfl).drop
      have p21 := (p21.front 0 _ rfl).drop
      have p21 := (p21.front 0 _ rfl).drop
      have p21 := (p21.front 0 _ rfl).drop
      obtain rfl := Option.some.inj h
      exact Goes.ret (fn := Try.f4) (by kernel_rfl) (v := .bool false) (by kernel_rfl) ⟨S21, rfl, (((((((((((((((((((((Ext.refl S0 w0).trans z2).trans z3).trans z4).trans z5).trans z6).trans z7).trans z8).trans z9).trans z10).trans z11).trans z12).trans z13).trans z14).trans z15).trans z16).trans z17).trans z18).trans z19).trans z20).trans z21), p21⟩
  · rw [if_neg h5] at h
    have h5' : y3 = false := by simpa using h5
    rw [h5']
    refine Goes.runs 5 [(4, .bool false)] [.code (sub [1, 0, 1, 0, 1] B4), .code (sub [1, 1] B4)] (by kernel_rfl) ?_
    have p3 := (p3.front 0 _ rfl).drop
    obtain rfl := Option.some.inj h
    exact Goes.ret (fn := Try.f4) (by kernel_rfl) (v := .bool false) (by kernel_rfl) ⟨S3, rfl, (((Ext.refl S0 w0).trans z2).trans z3), p3⟩

/-! tidepole/tidepoleref13.Check -/
def Post.tidepoleref13_Check (nz : Nat) (wz : World) (S0 : Fz) (w0 : World) (Lr : List Ent) (r : Int) (v : Value) (w' : World) : Prop :=
  ∃ (S' : Fz) , v = .int .i64 r ∧ Ext S0 w0 S' w' ∧ Hp nz wz S' w' (Lr)

def L.tidepoleref13_Check_l0 (nz : Nat) (wz : World) (S0 : Fz) (w0 : World) (Lr : List Ent) : List Int × Int → Int → Prop := fun ⟨x0, x3⟩ r => ∀ S1 w1, Ext S0 w0 S1 w1 → ∀ (Ax0 : Option Addr) (cx0 : Nat) (_ : Hp nz wz S1 w1 (Lr)) (_ : Rd (kInt .u64) S1 w1 Ax0 cx0 x0) (junk : Nat → Value),
  Goes Try.prog (base 24) [.code (sub [1, 0, 1, 0, 0] B24), .inLoop (sub [1, 0, 1, 0, 0] B24), .inBlock 0, .code (sub [1, 1] B24)] ⟨lfr 20 [(0, .slice Ax0 x0.length cx0), (3, .int .i64 x3)] junk, []⟩ w1 (Done Try.prog 24 (Rets (Post.tidepoleref13_Check nz wz S0 w0 Lr r)))

theorem W.tidepoleref13_Check_l0 (nz : Nat) (wz : World) (S0 : Fz) (w0 : World) (Lr : List Ent) : ∀ a r, M.tidepoleref13_Check_l0 a = some r → L.tidepoleref13_Check_l0 nz wz S0 w0 Lr a r := by
  refine M.tidepoleref13_Check_l0.partial_correctness (motive := L.tidepoleref13_Check_l0 nz wz S0 w0 Lr) ?_
  intro rec_tidepoleref13_Check_l0 ih_tidepoleref13_Check_l0 ⟨x0, x3⟩ r h S1 w1 hx Ax0 cx0 p1 fx0 junk
  dsimp only at h
  refine Goes.runs 8 [(4, .int .i64 x3), (5, .slice Ax0 x0.length cx0), (6, .int .i64 (x0.length : Int)), (7, .bool (decide (x3 < (x0.length : Int))))] [.code (sub [1, 0, 1, 0, 0, 0, 1] B24), .code (sub [1, 0, 1, 0, 0, 1] B24), .inLoop (sub [1, 0, 1, 0, 0] B24), .inBlock 0, .code (sub [1, 1] B24)] (by kernel_rfl) ?_
  by_cases h1 : x3 < (x0.length : Int)
  · rw [if_pos h1] at h
    rw [decide_eq_true h1]
    refine Goes.runs 5 [] [.code (sub [1, 0, 1, 0, 0, 1, 0, 0, 0] B24), .code (sub [1, 0, 1, 0, 0, 1, 0, 0, 1] B24), .inBlock 1, .code (sub [1, 0, 1, 0, 0, 1, 1] B24), .inLoop (sub [1, 0, 1, 0, 0] B24), .inBlock 0, .code (sub [1, 1] B24)] (by kernel_rfl) ?_
    have z2 : Ext S1 w1 S1 (w1).drew := Ext.draw
    have p2 := p1.draw
    refine Goes.drawn (s := []) (F := Fc S1 (w1).drew []) 4 10 (by kernel_rfl) (by kernel_rfl) (by kernel_rfl) (by kernel_rfl) ?_
    generalize (w1).drew = w2 at z2 p2 ⊢
    refine AnyG.pure (i := 0) (.move (.tmp 0)) 10 22 (.slice Ax0 x0.length cx0) (by kernel_rfl) (by kernel_rfl) (by kernel_rfl) (Fc.here trivial) ?_
    refine AnyG.pure (i := 1) (.move (.tmp 3)) 11 3 (.int .i64 x3) (by kernel_rfl) (by kernel_rfl) (by kernel_rfl) (Fc.here trivial) ?_
    refine AnyG.pure (i := 2) (.binOp .sub 3 (.tmp 11) (.const (.int .i64 1)) 3) 12 3 (.int .i64 (wr .i64 (x3 - 1))) (by kernel_rfl) (by kernel_rfl) (by kernel_rfl) (Fc.here trivial) ?_
    obtain ⟨g2, h⟩ := guard_some h
    obtain ⟨g3, h⟩ := guard_some h
    refine AnyG.ixR (i := 3) 22 (.tmp 10) (.tmp 12) 13 0 35 .i64 (wr .i64 (x3 - 1)) (fx0.ext z2) (by kernel_rfl) (by kernel_rfl) (Fc.here trivial) (by kernel_rfl) (by kernel_rfl) (by kernel_rfl) (by kernel_rfl) g2 g3 ?_
    rintro a4 _ f5 rfl
    refine AnyG.ld1 (i := 4) 35 (.tmp 13) 14 35 a4 (.int .u64 (gi x0 (wr .i64 (x3 - 1)))) (by kernel_rfl) (by kernel_rfl) (Fc.here trivial) (by kernel_rfl) (by kernel_rfl) (fun _ h => f5.fc h 0 _ rfl) ?_
    refine AnyG.pure (i := 5) (.move (.tmp 0)) 15 22 (.slice Ax0 x0.length cx0) (by kernel_rfl) (by kernel_rfl) (by kernel_rfl) (Fc.here trivial) ?_
    refine AnyG.pure (i := 6) (.move (.tmp 3)) 16 3 (.int .i64 x3) (by kernel_rfl) (by kernel_rfl) (by kernel_rfl) (Fc.here trivial) ?_
    obtain ⟨g6, h⟩ := guard_some h
    refine AnyG.ixR (i := 7) 22 (.tmp 15) (.tmp 16) 17 0 35 .i64 x3 (fx0.ext z2) (by kernel_rfl) (by kernel_rfl) (Fc.here trivial) (by kernel_rfl) (by kernel_rfl) (by kernel_rfl) (by kernel_rfl) g6 h1 ?_
    rintro a7 _ f8 rfl
    refine AnyG.ld1 (i := 8) 35 (.tmp 17) 18 35 a7 (.int .u64 (gi x0 x3)) (by kernel_rfl) (by kernel_rfl) (Fc.here trivial) (by kernel_rfl) (by kernel_rfl) (fun _ h => f8.fc h 0 _ rfl) ?_
    refine AnyG.pure (i := 9) (.binOp .geq 35 (.tmp 14) (.tmp 18) 35) 19 4 (.bool (decide (gi x0 (wr .i64 (x3 - 1)) ≥ gi x0 x3))) (by kernel_rfl) (by kernel_rfl) (by kernel_rfl) (Fc.here trivial) ?_
    refine AnyG.done (by kernel_rfl) ?_ _
    by_cases h9 : gi x0 (wr .i64 (x3 - 1)) ≥ gi x0 x3
    · rw [if_pos h9] at h
      rw [decide_eq_true h9]
      refine Goes.runs 5 [(2, .int .i64 2)] [.code (sub [1, 0, 1, 0, 0, 1, 0, 0, 1, 0, 1] B24), .inBlock 1, .code (sub [1, 0, 1, 0, 0, 1, 1] B24), .inLoop (sub [1, 0, 1, 0, 0] B24), .inBlock 0, .code (sub [1, 1] B24)] (by kernel_rfl) ?_
      obtain rfl := Option.some.inj h
      exact Goes.ret (fn := Try.f24) (by kernel_rfl) (v := .int .i64 2) (by kernel_rfl) ⟨S1, rfl, (hx.trans z2), p2⟩
    · rw [if_neg h9] at h
      rw [decide_eq_false h9]
      refine Goes.runs 9 [(8, .int .i64 x3), (9, .int .i64 (wr .i64 (x3 + 1))), (3, .int .i64 (wr .i64 (x3 + 1)))] [.code (sub [1, 0, 1, 0, 0] B24), .inLoop (sub [1, 0, 1, 0, 0] B24), .inBlock 0, .code (sub [1, 1] B24)] (by kernel_rfl) ?_
      exact Goes.jump 20 [(0, .slice Ax0 x0.length cx0), (3, .int .i64 (wr .i64 (x3 + 1)))] (by kernel_rfl) (ih_tidepoleref13_Check_l0 _ _ h _ _ (hx.trans z2) Ax0 cx0 p2 (fx0.ext z2))
  · rw [if_neg h1] at h
    rw [decide_eq_false h1]
    refine Goes.runs 6 [(2, .int .i64 0)] [.code (sub [1, 1, 1] B24)] (by kernel_rfl) ?_
    obtain rfl := Option.some.inj h
    exact Goes.ret (fn := Try.f24) (by kernel_rfl) (v := .int .i64 0) (by kernel_rfl) ⟨S1, rfl, hx, p1⟩

theorem W.tidepoleref13_Check (x0 : List Int) (r : Int) (h : M.tidepoleref13_Check x0 = some r) (nz : Nat) (wz : World) (S0 : Fz) (w0 : World) (Lr : List Ent) (Ax0 : Option Addr) (cx0 : Nat) (p0 : Hp nz wz S0 w0 (Lr)) (fx0 : Rd (kInt .u64) S0 w0 Ax0 cx0 x0) :
    Calls Try.prog 24 #[.slice Ax0 x0.length cx0] w0 (Rets (Post.tidepoleref13_Check nz wz S0 w0 Lr r)) := by
  refine calls_of_goes (fn := Try.f24) (c := B24) (by kernel_rfl) (by kernel_rfl) 19 (by kernel_rfl) ?_
  refine Goes.jump 20 [(0, .slice Ax0 x0.length cx0)] (by kernel_rfl) (fun junk => ?_)
  delta M.tidepoleref13_Check at h
  refine Goes.runs 11 [(2, .int .i64 0), (3, .int .i64 1)] [.code (sub [1, 0, 1, 0, 0] B24), .inLoop (sub [1, 0, 1, 0, 0] B24), .inBlock 0, .code (sub [1, 1] B24)] (by kernel_rfl) ?_
  exact Goes.jump 20 [(0, .slice Ax0 x0.length cx0), (3, .int .i64 1)] (by kernel_rfl) (W.tidepoleref13_Check_l0 nz wz S0 w0 Lr _ _ h _ _ (Ext.refl S0 w0) Ax0 cx0 p0 fx0)

/-! tidepole/tidepoleref13.all -/
def Post.tidepoleref13_all (nz : Nat) (wz : World) (S0 : Fz) (w0 : World) (Lr : List Ent) (r : Int) (v : Value) (w' : World) : Prop :=
  ∃ (S' : Fz) , v = .int .i64 r ∧ Ext S0 w0 S' w' ∧ Hp nz wz S' w' (Lr)

def L.tidepoleref13_all_l0 (nz : Nat) (wz : World) (S0 : Fz) (w0 : World) (Lr : List Ent) : List (List Int) × Int → Int → Prop := fun ⟨x0, x3⟩ r => ∀ S1 w1, Ext S0 w0 S1 w1 → ∀ (Ax0 : Option Addr) (cx0 : Nat) (_ : Hp nz wz S1 w1 (Lr)) (_ : Rd (kSl (kInt .u64)) S1 w1 Ax0 cx0 x0) (junk : Nat → Value),
  Goes Try.prog (base 48) [.code (sub [1, 1, 0, 1, 0, 0] B48), .inLoop (sub [1, 1, 0, 1, 0, 0] B48), .inBlock 0, .code (sub [1, 1, 1] B48)] ⟨lfr 19 [(0, .slice Ax0 x0.length cx0), (3, .int .i64 x3)] junk, []⟩ w1 (Done Try.prog 48 (Rets (Post.tidepoleref13_all nz wz S0 w0 Lr r)))

theorem W.tidepoleref13_all_l0 (nz : Nat) (wz : World) (S0 : Fz) (w0 : World) (Lr : List Ent) : ∀ a r, M.tidepoleref13_all_l0 a = some r → L.tidepoleref13_all_l0 nz wz S0 w0 Lr a r := by
  refine M.tidepoleref13_all_l0.partial_correctness (motive := L.tidepoleref13_all_l0 nz wz S0 w0 Lr) ?_
  intro rec_tidepoleref13_all_l0 ih_tidepoleref13_all_l0 ⟨x0, x3⟩ r h S1 w1 hx Ax0 cx0 p1 fx0 junk
  dsimp only at h
  refine Goes.runs 8 [(7, .int .i64 x3), (8, .slice Ax0 x0.length cx0), (9, .int .i64 (x0.length : Int)), (10, .bool (decide (x3 < (x0.length : Int))))] [.code (sub [1, 1, 0, 1, 0, 0, 0, 1] B48), .code (sub [1, 1, 0, 1, 0, 0, 1] B48), .inLoop (sub [1, 1, 0, 1, 0, 0] B48), .inBlock 0, .code (sub [1, 1, 1] B48)] (by kernel_rfl) ?_
  by_cases h2 : x3 < (x0.length : Int)
  · rw [if_pos h2] at h
    rw [decide_eq_true h2]
    refine Goes.runs 8 [(13, .slice Ax0 x0.length cx0), (14, .int .i64 x3)] [.inRegion (opsOf (sub [1, 1, 0, 1, 0, 0, 1, 0, 0, 0] B48)) [2, 3, 4, 5], .code (sub [1, 1, 0, 1, 0, 0, 1, 0, 0, 1] B48), .inBlock 1, .code (sub [1, 1, 0, 1, 0, 0, 1, 1] B48), .inLoop (sub [1, 1, 0, 1, 0, 0] B48), .inBlock 0, .code (sub [1, 1, 1] B48)] (by kernel_rfl) ?_
    obtain ⟨g3, h⟩ := guard_some h
    refine Op_.ixR 38 (.tmp 13) (.tmp 14) 15 0 22 .i64 x3 fx0 (Goes.vs (by kernel_rfl)) (by kernel_rfl) (by kernel_rfl) (by kernel_rfl) (by kernel_rfl) g3 h2 ?_
    rintro a4 _ f5 ⟨A6, c7, rfl, f8⟩
    refine Op_.ld1 22 (.tmp 15) 16 22 a4 (.slice A6 (gi x0 x3).length c7) (Goes.vs (by kernel_rfl)) (by kernel_rfl) (by kernel_rfl) (f5.cell 0 _ rfl) ?_
    obtain ⟨y9, e10, h⟩ := bind_some h
    try dsimp only at h
    refine Op_.call (.call { callee := .value (.func 24), args := #[(.tmp 16)], argTypes := #[22] }) 17 25 24 #[.slice A6 (gi x0 x3).length c7] (Goes.cs (by kernel_rfl)) (by kernel_rfl) (W.tidepoleref13_Check (gi x0 x3) y9 e10 nz wz S1 w1 (Lr) A6 c7 p1 f8) ?_
    rintro _ w2 ⟨S2, rfl, z2, p2⟩
    refine Goes.runs 2 [(18, .bool (!(decide (y9 = 0))))] [.code (sub [1, 1, 0, 1, 0, 0, 1, 0, 0, 1] B48), .inBlock 1, .code (sub [1, 1, 0, 1, 0, 0, 1, 1] B48), .inLoop (sub [1, 1, 0, 1, 0, 0] B48), .inBlock 0, .code (sub [1, 1, 1] B48)] (by kernel_rfl) ?_
    by_cases h11 : y9 = 0
    · rw [if_pos h11] at h
      rw [decide_eq_true h11]
      refine Goes.runs 9 [(11, .int .i64 x3), (12, .int .i64 (wr .i64 (x3 + 1))), (3, .int .i64 (wr .i64 (x3 + 1)))] [.code (sub [1, 1, 0, 1, 0, 0] B48), .inLoop (sub [1, 1, 0, 1, 0, 0] B48), .inBlock 0, .code (sub [1, 1, 1] B48)] (by kernel_rfl) ?_
      exact Goes.jump 19 [(0, .slice Ax0 x0.length cx0), (3, .int .i64 (wr .i64 (x3 + 1)))] (by kernel_rfl) (ih_tidepoleref13_all_l0 _ _ h _ _ (hx.trans z2) Ax0 cx0 p2 (fx0.ext z2))
    · rw [if_neg h11] at h
      rw [decide_eq_false h11]
      refine Goes.runs 5 [(2, .int .i64 2)] [.code (sub [1, 1, 0, 1, 0, 0, 1, 0, 0, 1, 0, 1] B48), .inBlock 1, .code (sub [1, 1, 0, 1, 0, 0, 1, 1] B48), .inLoop (sub [1, 1, 0, 1, 0, 0] B48), .inBlock 0, .code (sub [1, 1, 1] B48)] (by kernel_rfl) ?_
      obtain rfl := Option.some.inj h
      exact Goes.ret (fn := Try.f48) (by kernel_rfl) (v := .int .i64 2) (by kernel_rfl) ⟨S2, rfl, (hx.trans z2), p2⟩
  · rw [if_neg h2] at h
    rw [decide_eq_false h2]
    refine Goes.runs 6 [(2, .int .i64 0)] [.code (sub [1, 1, 1, 1] B48)] (by kernel_rfl) ?_
    obtain rfl := Option.some.inj h
    exact Goes.ret (fn := Try.f48) (by kernel_rfl) (v := .int .i64 0) (by kernel_rfl) ⟨S1, rfl, hx, p1⟩

theorem W.tidepoleref13_all (x0 : List (List Int)) (r : Int) (h : M.tidepoleref13_all x0 = some r) (nz : Nat) (wz : World) (S0 : Fz) (w0 : World) (Lr : List Ent) (Ax0 : Option Addr) (cx0 : Nat) (p0 : Hp nz wz S0 w0 (Lr)) (fx0 : Rd (kSl (kInt .u64)) S0 w0 Ax0 cx0 x0) :
    Calls Try.prog 48 #[.slice Ax0 x0.length cx0] w0 (Rets (Post.tidepoleref13_all nz wz S0 w0 Lr r)) := by
  refine calls_of_goes (fn := Try.f48) (c := B48) (by kernel_rfl) (by kernel_rfl) 18 (by kernel_rfl) ?_
  refine Goes.jump 19 [(0, .slice Ax0 x0.length cx0)] (by kernel_rfl) (fun junk => ?_)
  delta M.tidepoleref13_all at h
  refine Goes.runs 11 [(2, .int .i64 0), (4, .slice Ax0 x0.length cx0), (5, .int .i64 (x0.length : Int)), (6, .bool (decide ((x0.length : Int) > 4096)))] [.code (sub [1, 0, 1] B48), .code (sub [1, 1] B48)] (by kernel_rfl) ?_
  by_cases h1 : (x0.length : Int) > 4096
  · rw [if_pos h1] at h
    rw [decide_eq_true h1]
    refine Goes.runs 5 [(2, .int .i64 3)] [.code (sub [1, 0, 1, 0, 1] B48), .code (sub [1, 1] B48)] (by kernel_rfl) ?_
    obtain rfl := Option.some.inj h
    exact Goes.ret (fn := Try.f48) (by kernel_rfl) (v := .int .i64 3) (by kernel_rfl) ⟨S0, rfl, (Ext.refl S0 w0), p0⟩
  · rw [if_neg h1] at h
    rw [decide_eq_false h1]
    refine Goes.runs 9 [(3, .int .i64 0)] [.code (sub [1, 1, 0, 1, 0, 0] B48), .inLoop (sub [1, 1, 0, 1, 0, 0] B48), .inBlock 0, .code (sub [1, 1, 1] B48)] (by kernel_rfl) ?_
    exact Goes.jump 19 [(0, .slice Ax0 x0.length cx0), (3, .int .i64 0)] (by kernel_rfl) (W.tidepoleref13_all_l0 nz wz S0 w0 Lr _ _ h _ _ (Ext.refl S0 w0) Ax0 cx0 p0 fx0)

/-! tidepole/tidepoleref13.in -/
def Post.tidepoleref13_in (nz : Nat) (wz : World) (S0 : Fz) (w0 : World) (Lr : List Ent) (r : Bool) (v : Value) (w' : World) : Prop :=
  ∃ (S' : Fz) , v = .bool r ∧ Ext S0 w0 S' w' ∧ Hp nz wz S' w' (Lr)

def L.tidepoleref13_in_l0 (nz : Nat) (wz : World) (S0 : Fz) (w0 : World) (Lr : List Ent) : List Int × Int × Int → Bool → Prop := fun ⟨x0, x1, x5⟩ r => ∀ S1 w1, Ext S0 w0 S1 w1 → ∀ (Ax0 : Option Addr) (cx0 : Nat) (_ : Hp nz wz S1 w1 (Lr)) (_ : Rd (kInt .u64) S1 w1 Ax0 cx0 x0) (junk : Nat → Value),
  Goes Try.prog (base 49) [.code (sub [1, 0, 1, 0, 0] B49), .inLoop (sub [1, 0, 1, 0, 0] B49), .inBlock 0, .code (sub [1, 1] B49)] ⟨lfr 18 [(0, .slice Ax0 x0.length cx0), (1, .int .u64 x1), (5, .int .i64 x5)] junk, []⟩ w1 (Done Try.prog 49 (Rets (Post.tidepoleref13_in nz wz S0 w0 Lr r)))

theorem W.tidepoleref13_in_l0 (nz : Nat) (wz : World) (S0 : Fz) (w0 : World) (Lr : List Ent) : ∀ a r, M.tidepoleref13_in_l0 a = some r → L.tidepoleref13_in_l0 nz wz S0 w0 Lr a r := by
  refine M.tidepoleref13_in_l0.partial_correctness (motive := L.tidepoleref13_in_l0 nz wz S0 w0 Lr) ?_
  intro rec_tidepoleref13_in_l0 ih_tidepoleref13_in_l0 ⟨x0, x1, x5⟩ r h S1 w1 hx Ax0 cx0 p1 fx0 junk
  dsimp only at h
  refine Goes.runs 8 [(6, .int .i64 x5), (7, .slice Ax0 x0.length cx0), (8, .int .i64 (x0.length : Int)), (9, .bool (decide (x5 < (x0.length : Int))))] [.code (sub [1, 0, 1, 0, 0, 0, 1] B49), .code (sub [1, 0, 1, 0, 0, 1] B49), .inLoop (sub [1, 0, 1, 0, 0] B49), .inBlock 0, .code (sub [1, 1] B49)] (by kernel_rfl) ?_
  by_cases h1 : x5 < (x0.length : Int)
  · rw [if_pos h1] at h
    rw [decide_eq_true h1]
    refine Goes.runs 8 [(12, .slice Ax0 x0.length cx0), (13, .int .i64 x5)] [.inRegion (opsOf (sub [1, 0, 1, 0, 0, 1, 0, 0, 0] B49)) [2, 3, 4, 5], .code (sub [1, 0, 1, 0, 0, 1, 0, 0, 1] B49), .inBlock 1, .code (sub [1, 0, 1, 0, 0, 1, 1] B49), .inLoop (sub [1, 0, 1, 0, 0] B49), .inBlock 0, .code (sub [1, 1] B49)] (by kernel_rfl) ?_
    obtain ⟨g2, h⟩ := guard_some h
    refine Op_.ixR 22 (.tmp 12) (.tmp 13) 14 0 35 .i64 x5 fx0 (Goes.vs (by kernel_rfl)) (by kernel_rfl) (by kernel_rfl) (by kernel_rfl) (by kernel_rfl) g2 h1 ?_
    rintro a3 _ f4 rfl
    refine Op_.ld1 35 (.tmp 14) 15 35 a3 (.int .u64 (gi x0 x5)) (Goes.vs (by kernel_rfl)) (by kernel_rfl) (by kernel_rfl) (f4.cell 0 _ rfl) ?_
    refine Goes.runs 3 [(16, .int .u64 x1), (17, .bool (decide (gi x0 x5 = x1)))] [.code (sub [1, 0, 1, 0, 0, 1, 0, 0, 1] B49), .inBlock 1, .code (sub [1, 0, 1, 0, 0, 1, 1] B49), .inLoop (sub [1, 0, 1, 0, 0] B49), .inBlock 0, .code (sub [1, 1] B49)] (by kernel_rfl) ?_
    by_cases h5 : gi x0 x5 = x1
    · rw [if_pos h5] at h
      rw [decide_eq_true h5]
      refine Goes.runs 5 [(4, .bool true)] [.code (sub [1, 0, 1, 0, 0, 1, 0, 0, 1, 0, 1] B49), .inBlock 1, .code (sub [1, 0, 1, 0, 0, 1, 1] B49), .inLoop (sub [1, 0, 1, 0, 0] B49), .inBlock 0, .code (sub [1, 1] B49)] (by kernel_rfl) ?_
      obtain rfl := Option.some.inj h
      exact Goes.ret (fn := Try.f49) (by kernel_rfl) (v := .bool true) (by kernel_rfl) ⟨S1, rfl, hx, p1⟩
    · rw [if_neg h5] at h
      rw [decide_eq_false h5]
      refine Goes.runs 9 [(10, .int .i64 x5), (11, .int .i64 (wr .i64 (x5 + 1))), (5, .int .i64 (wr .i64 (x5 + 1)))] [.code (sub [1, 0, 1, 0, 0] B49), .inLoop (sub [1, 0, 1, 0, 0] B49), .inBlock 0, .code (sub [1, 1] B49)] (by kernel_rfl) ?_
      exact Goes.jump 18 [(0, .slice Ax0 x0.length cx0), (1, .int .u64 x1), (5, .int .i64 (wr .i64 (x5 + 1)))] (by kernel_rfl) (ih_tidepoleref13_in_l0 _ _ h _ _ hx Ax0 cx0 p1 fx0)
  · rw [if_neg h1] at h
    rw [decide_eq_false h1]
    refine Goes.runs 6 [(4, .bool false)] [.code (sub [1, 1, 1] B49)] (by kernel_rfl) ?_
    obtain rfl := Option.some.inj h
    exact Goes.ret (fn := Try.f49) (by kernel_rfl) (v := .bool false) (by kernel_rfl) ⟨S1, rfl, hx, p1⟩

theorem W.tidepoleref13_in (x0 : List Int) (x1 : Int) (r : Bool) (h : M.tidepoleref13_in x0 x1 = some r) (nz : Nat) (wz : World) (S0 : Fz) (w0 : World) (Lr : List Ent) (Ax0 : Option Addr) (cx0 : Nat) (p0 : Hp nz wz S0 w0 (Lr)) (fx0 : Rd (kInt .u64) S0 w0 Ax0 cx0 x0) :
    Calls Try.prog 49 #[.slice Ax0 x0.length cx0, .int .u64 x1] w0 (Rets (Post.tidepoleref13_in nz wz S0 w0 Lr r)) := by
  refine calls_of_goes (fn := Try.f49) (c := B49) (by kernel_rfl) (by kernel_rfl) 16 (by kernel_rfl) ?_
  refine Goes.jump 18 [(0, .slice Ax0 x0.length cx0), (1, .int .u64 x1)] (by kernel_rfl) (fun junk => ?_)
  delta M.tidepoleref13_in at h
  refine Goes.runs 11 [(4, .bool false), (5, .int .i64 0)] [.code (sub [1, 0, 1, 0, 0] B49), .inLoop (sub [1, 0, 1, 0, 0] B49), .inBlock 0, .code (sub [1, 1] B49)] (by kernel_rfl) ?_
  exact Goes.jump 18 [(0, .slice Ax0 x0.length cx0), (1, .int .u64 x1), (5, .int .i64 0)] (by kernel_rfl) (W.tidepoleref13_in_l0 nz wz S0 w0 Lr _ _ h _ _ (Ext.refl S0 w0) Ax0 cx0 p0 fx0)

/-! tidepole/tidepoleref13.And -/
def Post.tidepoleref13_And (nz : Nat) (wz : World) (S0 : Fz) (w0 : World) (Lr : List Ent) (r : (List Int) × Int) (v : Value) (w' : World) : Prop :=
  ∃ (S' : Fz) (G1 : Option Nat) (c2 : Nat) (cs3 : List Value), v = .tuple #[.slice (Gp G1) r.1.length c2, .int .i64 r.2] ∧ Ext S0 w0 S' w' ∧ Hp nz wz S' w' ((G1, .row 35 cs3 (c2 * (kInt .u64).size) 0) :: Lr) ∧ Els (kInt .u64) S' w' cs3 r.1

def L.tidepoleref13_And_l0 (nz : Nat) (wz : World) (S0 : Fz) (w0 : World) (Lr : List Ent) : List (List Int) × List Int × Int → ((List Int) × Int) → Prop := fun ⟨x0, x5, x6⟩ r => ∀ S1 w1, Ext S0 w0 S1 w1 → ∀ (Ax0 : Option Addr) (cx0 : Nat) (Gx5 : Option Nat) (cx5 : Nat) (csx5 : List Value) (_ : Hp nz wz S1 w1 ((Gx5, .row 35 csx5 (cx5 * (kInt .u64).size) 0) :: Lr)) (_ : Rd (kSl (kInt .u64)) S1 w1 Ax0 cx0 x0) (_ : Els (kInt .u64) S1 w1 csx5 x5) (junk : Nat → Value),
  Goes Try.prog (base 21) [.code (sub [1, 1, 1, 0, 1, 0, 0] B21), .inLoop (sub [1, 1, 1, 0, 1, 0, 0] B21), .inBlock 0, .code (sub [1, 1, 1, 1] B21)] ⟨lfr 59 [(0, .slice Ax0 x0.length cx0), (5, .slice (Gp Gx5) x5.length cx5), (6, .int .i64 x6)] junk, []⟩ w1 (Done Try.prog 21 (Rets (Post.tidepoleref13_And nz wz S0 w0 Lr r)))

def L.tidepoleref13_And_l1 (nz : Nat) (wz : World) (S0 : Fz) (w0 : World) (Lr : List Ent) : List (List Int) × List Int × Int × Bool → ((List Int) × Int) → Prop := fun ⟨x0, x5, x6, x25⟩ r => ∀ S1 w1, Ext S0 w0 S1 w1 → ∀ (Ax0 : Option Addr) (cx0 : Nat) (Gx5 : Option Nat) (cx5 : Nat) (csx5 : List Value) (_ : Hp nz wz S1 w1 ((Gx5, .row 35 csx5 (cx5 * (kInt .u64).size) 0) :: Lr)) (_ : Rd (kSl (kInt .u64)) S1 w1 Ax0 cx0 x0) (_ : Els (kInt .u64) S1 w1 csx5 x5) (junk : Nat → Value),
  Goes Try.prog (base 21) [.code (sub [1, 1, 1, 0, 1, 0, 0, 0, 1] B21), .code (sub [1, 1, 1, 0, 1, 0, 0, 1] B21), .inLoop (sub [1, 1, 1, 0, 1, 0, 0] B21), .inBlock 0, .code (sub [1, 1, 1, 1] B21)] ⟨lfr 59 [(0, .slice Ax0 x0.length cx0), (5, .slice (Gp Gx5) x5.length cx5), (6, .int .i64 x6), (25, .bool x25)] junk, []⟩ w1 (Done Try.prog 21 (Rets (Post.tidepoleref13_And nz wz S0 w0 Lr r)))

def L.tidepoleref13_And_l2 (nz : Nat) (wz : World) (S0 : Fz) (w0 : World) (Lr : List Ent) : List (List Int) × List Int × Int × Bool × Int → ((List Int) × Int) → Prop := fun ⟨x0, x5, x6, x7, x8⟩ r => ∀ S1 w1, Ext S0 w0 S1 w1 → ∀ (Ax0 : Option Addr) (cx0 : Nat) (Gx5 : Option Nat) (cx5 : Nat) (csx5 : List Value) (_ : Hp nz wz S1 w1 ((Gx5, .row 35 csx5 (cx5 * (kInt .u64).size) 0) :: Lr)) (_ : Rd (kSl (kInt .u64)) S1 w1 Ax0 cx0 x0) (_ : Els (kInt .u64) S1 w1 csx5 x5) (junk : Nat → Value),
  Goes Try.prog (base 21) [.code (sub [1, 1, 1, 0, 1, 0, 0, 1, 0, 0, 1, 0, 1, 0, 0] B21), .inLoop (sub [1, 1, 1, 0, 1, 0, 0, 1, 0, 0, 1, 0, 1, 0, 0] B21), .inBlock 2, .code (sub [1, 1, 1, 0, 1, 0, 0, 1, 0, 0, 1, 1] B21), .inBlock 1, .code (sub [1, 1, 1, 0, 1, 0, 0, 1, 1] B21), .inLoop (sub [1, 1, 1, 0, 1, 0, 0] B21), .inBlock 0, .code (sub [1, 1, 1, 1] B21)] ⟨lfr 59 [(0, .slice Ax0 x0.length cx0), (5, .slice (Gp Gx5) x5.length cx5), (6, .int .i64 x6), (7, .bool x7), (8, .int .i64 x8)] junk, []⟩ w1 (Done Try.prog 21 (Rets (Post.tidepoleref13_And nz wz S0 w0 Lr r)))

def L.tidepoleref13_And_l3 (nz : Nat) (wz : World) (S0 : Fz) (w0 : World) (Lr : List Ent) : List (List Int) × List Int × Int × Bool × Int → ((List Int) × Int) → Prop := fun ⟨x0, x5, x6, x7, x8⟩ r => ∀ S1 w1, Ext S0 w0 S1 w1 → ∀ (Ax0 : Option Addr) (cx0 : Nat) (Gx5 : Option Nat) (cx5 : Nat) (csx5 : List Value) (_ : Hp nz wz S1 w1 ((Gx5, .row 35 csx5 (cx5 * (kInt .u64).size) 0) :: Lr)) (_ : Rd (kSl (kInt .u64)) S1 w1 Ax0 cx0 x0) (_ : Els (kInt .u64) S1 w1 csx5 x5) (junk : Nat → Value),
  Goes Try.prog (base 21) [.inBlock 3, .code (sub [1, 1, 1, 0, 1, 0, 0, 1, 0, 0, 1, 0, 1, 0, 0, 1, 1] B21), .inLoop (sub [1, 1, 1, 0, 1, 0, 0, 1, 0, 0, 1, 0, 1, 0, 0] B21), .inBlock 2, .code (sub [1, 1, 1, 0, 1, 0, 0, 1, 0, 0, 1, 1] B21), .inBlock 1, .code (sub [1, 1, 1, 0, 1, 0, 0, 1, 1] B21), .inLoop (sub [1, 1, 1, 0, 1, 0, 0] B21), .inBlock 0, .code (sub [1, 1, 1, 1] B21)] ⟨lfr 59 [(0, .slice Ax0 x0.length cx0), (5, .slice (Gp Gx5) x5.length cx5), (6, .int .i64 x6), (7, .bool x7), (8, .int .i64 x8)] junk, []⟩ w1 (Done Try.prog 21 (Rets (Post.tidepoleref13_And nz wz S0 w0 Lr r)))

def L.tidepoleref13_And_l4 (nz : Nat) (wz : World) (S0 : Fz) (w0 : World) (Lr : List Ent) : List (List Int) × List Int × Int → ((List Int) × Int) → Prop := fun ⟨x0, x5, x6⟩ r => ∀ S1 w1, Ext S0 w0 S1 w1 → ∀ (Ax0 : Option Addr) (cx0 : Nat) (Gx5 : Option Nat) (cx5 : Nat) (csx5 : List Value) (_ : Hp nz wz S1 w1 ((Gx5, .row 35 csx5 (cx5 * (kInt .u64).size) 0) :: Lr)) (_ : Rd (kSl (kInt .u64)) S1 w1 Ax0 cx0 x0) (_ : Els (kInt .u64) S1 w1 csx5 x5) (junk : Nat → Value),
  Goes Try.prog (base 21) [.inBlock 1, .code (sub [1, 1, 1, 0, 1, 0, 0, 1, 1] B21), .inLoop (sub [1, 1, 1, 0, 1, 0, 0] B21), .inBlock 0, .code (sub [1, 1, 1, 1] B21)] ⟨lfr 59 [(0, .slice Ax0 x0.length cx0), (5, .slice (Gp Gx5) x5.length cx5), (6, .int .i64 x6)] junk, []⟩ w1 (Done Try.prog 21 (Rets (Post.tidepoleref13_And nz wz S0 w0 Lr r)))

theorem W.tidepoleref13_And_l0_all (nz : Nat) (wz : World) (S0 : Fz) (w0 : World) (Lr : List Ent) : (∀ a r, M.tidepoleref13_And_l0 a = some r → L.tidepoleref13_And_l0 nz wz S0 w0 Lr a r) ∧ (∀ a r, M.tidepoleref13_And_l1 a = some r → L.tidepoleref13_And_l1 nz wz S0 w0 Lr a r) ∧ (∀ a r, M.tidepoleref13_And_l2 a = some r → L.tidepoleref13_And_l2 nz wz S0 w0 Lr a r) ∧ (∀ a r, M.tidepoleref13_And_l4 a = some r → L.tidepoleref13_And_l4 nz wz S0 w0 Lr a r) ∧ (∀ a r, M.tidepoleref13_And_l3 a = some r → L.tidepoleref13_And_l3 nz wz S0 w0 Lr a r) := by
  refine M.tidepoleref13_And_l0.mutual_partial_correctness (L.tidepoleref13_And_l0 nz wz S0 w0 Lr) (L.tidepoleref13_And_l1 nz wz S0 w0 Lr) (L.tidepoleref13_And_l2 nz wz S0 w0 Lr) (L.tidepoleref13_And_l4 nz wz S0 w0 Lr) (L.tidepoleref13_And_l3 nz wz S0 w0 Lr) ?_ ?_ ?_ ?_ ?_
  · intro rec_tidepoleref13_And_l1 ih_tidepoleref13_And_l1 ⟨x0, x5, x6⟩ r h S1 w1 hx Ax0 cx0 Gx5 cx5 csx5 p1 fx0 fx5 junk
    dsimp only at h
    refine Goes.runs 7 [(15, .slice Ax0 x0.length cx0), (16, .int .i64 (x0.length : Int)), (17, .bool (decide ((x0.length : Int) > 0))), (18, .bool (decide ((x0.length : Int) > 0)))] [.inRegion (opsOf (sub [1, 1, 1, 0, 1, 0, 0, 0, 0] B21)) [4, 5, 6, 7, 8, 9, 10], .code (sub [1, 1, 1, 0, 1, 0, 0, 0, 1] B21), .code (sub [1, 1, 1, 0, 1, 0, 0, 1] B21), .inLoop (sub [1, 1, 1, 0, 1, 0, 0] B21), .inBlock 0, .code (sub [1, 1, 1, 1] B21)] (by kernel_rfl) ?_
    by_cases h8 : (x0.length : Int) > 0
    · rw [if_pos h8] at h
      rw [decide_eq_true h8]
      refine Goes.runs 2 [(19, .int .i64 x6), (20, .slice Ax0 x0.length cx0)] [.inRegion (opsOf (sub [1, 1, 1, 0, 1, 0, 0, 0, 0] B21)) [6, 7, 8, 9, 10], .code (sub [1, 1, 1, 0, 1, 0, 0, 0, 1] B21), .code (sub [1, 1, 1, 0, 1, 0, 0, 1] B21), .inLoop (sub [1, 1, 1, 0, 1, 0, 0] B21), .inBlock 0, .code (sub [1, 1, 1, 1] B21)] (by kernel_rfl) ?_
      obtain ⟨g9, h⟩ := guard_some h
      refine Op_.ixR 38 (.tmp 20) (.const (.int .i64 0)) 21 0 22 .i64 0 fx0 (Goes.vs (by kernel_rfl)) (by kernel_rfl) (by kernel_rfl) (by kernel_rfl) (by kernel_rfl) (by decide) g9 ?_
      rintro a10 _ f11 ⟨A12, c13, rfl, f14⟩
      refine Op_.ld1 22 (.tmp 21) 22 22 a10 (.slice A12 (gi x0 0).length c13) (Goes.vs (by kernel_rfl)) (by kernel_rfl) (by kernel_rfl) (f11.cell 0 _ rfl) ?_
      refine Goes.runs 4 [(23, .int .i64 ((gi x0 0).length : Int)), (24, .bool (decide (x6 < ((gi x0 0).length : Int)))), (25, .bool (decide (x6 < ((gi x0 0).length : Int))))] [.code (sub [1, 1, 1, 0, 1, 0, 0, 0, 1] B21), .code (sub [1, 1, 1, 0, 1, 0, 0, 1] B21), .inLoop (sub [1, 1, 1, 0, 1, 0, 0] B21), .inBlock 0, .code (sub [1, 1, 1, 1] B21)] (by kernel_rfl) ?_
      exact Goes.jump 59 [(0, .slice Ax0 x0.length cx0), (5, .slice (Gp Gx5) x5.length cx5), (6, .int .i64 x6), (25, .bool (decide (x6 < ((gi x0 0).length : Int))))] (by kernel_rfl) (ih_tidepoleref13_And_l1 _ _ h _ _ hx Ax0 cx0 Gx5 cx5 csx5 p1 fx0 fx5)
    · rw [if_neg h8] at h
      rw [decide_eq_false h8]
      refine Goes.runs 8 [(19, undef), (20, undef), (21, undef), (22, undef), (23, undef), (24, undef), (25, .bool false)] [.code (sub [1, 1, 1, 0, 1, 0, 0, 0, 1] B21), .code (sub [1, 1, 1, 0, 1, 0, 0, 1] B21), .inLoop (sub [1, 1, 1, 0, 1, 0, 0] B21), .inBlock 0, .code (sub [1, 1, 1, 1] B21)] (by kernel_rfl) ?_
      exact Goes.jump 59 [(0, .slice Ax0 x0.length cx0), (5, .slice (Gp Gx5) x5.length cx5), (6, .int .i64 x6), (25, .bool false)] (by kernel_rfl) (ih_tidepoleref13_And_l1 _ _ h _ _ hx Ax0 cx0 Gx5 cx5 csx5 p1 fx0 fx5)
  · intro rec_tidepoleref13_And_l2 ih_tidepoleref13_And_l2 ⟨x0, x5, x6, x25⟩ r h S1 w1 hx Ax0 cx0 Gx5 cx5 csx5 p1 fx0 fx5 junk
    dsimp only at h
    by_cases h15 : x25 = true
    · rw [if_pos h15] at h
      rw [h15]
      refine Goes.runs 14 [(7, .bool true), (8, .int .i64 1)] [.code (sub [1, 1, 1, 0, 1, 0, 0, 1, 0, 0, 1, 0, 1, 0] B21), .inBlock 2, .code (sub [1, 1, 1, 0, 1, 0, 0, 1, 0, 0, 1, 1] B21), .inBlock 1, .code (sub [1, 1, 1, 0, 1, 0, 0, 1, 1] B21), .inLoop (sub [1, 1, 1, 0, 1, 0, 0] B21), .inBlock 0, .code (sub [1, 1, 1, 1] B21)] (by kernel_rfl) ?_
      refine Goes.runs 1 [] [.code (sub [1, 1, 1, 0, 1, 0, 0, 1, 0, 0, 1, 0, 1, 0, 0] B21), .inLoop (sub [1, 1, 1, 0, 1, 0, 0, 1, 0, 0, 1, 0, 1, 0, 0] B21), .inBlock 2, .code (sub [1, 1, 1, 0, 1, 0, 0, 1, 0, 0, 1, 1] B21), .inBlock 1, .code (sub [1, 1, 1, 0, 1, 0, 0, 1, 1] B21), .inLoop (sub [1, 1, 1, 0, 1, 0, 0] B21), .inBlock 0, .code (sub [1, 1, 1, 1] B21)] (by kernel_rfl) ?_
      exact Goes.jump 59 [(0, .slice Ax0 x0.length cx0), (5, .slice (Gp Gx5) x5.length cx5), (6, .int .i64 x6), (7, .bool true), (8, .int .i64 1)] (by kernel_rfl) (ih_tidepoleref13_And_l2 _ _ h _ _ hx Ax0 cx0 Gx5 cx5 csx5 p1 fx0 fx5)
    · rw [if_neg h15] at h
      have h15' : x25 = false := by simpa using h15
      rw [h15']
      refine Goes.runs 8 [(58, .slice (Gp Gx5) x5.length cx5), (2, .slice (Gp Gx5) x5.length cx5), (3, .int .i64 0)] [.code (sub [1, 1, 1, 1, 1] B21)] (by kernel_rfl) ?_
      obtain rfl := Option.some.inj h
      exact Goes.ret (fn := Try.f21) (by kernel_rfl) (v := .tuple #[.slice (Gp Gx5) x5.length cx5, .int .i64 0]) (by kernel_rfl) ⟨S1, Gx5, cx5, csx5, rfl, hx, p1, fx5⟩
  · intro rec_tidepoleref13_And_l4 rec_tidepoleref13_And_l3 ih_tidepoleref13_And_l4 ih_tidepoleref13_And_l3 ⟨x0, x5, x6, x7, x8⟩ r h S1 w1 hx Ax0 cx0 Gx5 cx5 csx5 p1 fx0 fx5 junk
    dsimp only at h
    refine Goes.runs 8 [(28, .int .i64 x8), (29, .slice Ax0 x0.length cx0), (30, .int .i64 (x0.length : Int)), (31, .bool (decide (x8 < (x0.length : Int))))] [.code (sub [1, 1, 1, 0, 1, 0, 0, 1, 0, 0, 1, 0, 1, 0, 0, 0, 1] B21), .code (sub [1, 1, 1, 0, 1, 0, 0, 1, 0, 0, 1, 0, 1, 0, 0, 1] B21), .inLoop (sub [1, 1, 1, 0, 1, 0, 0, 1, 0, 0, 1, 0, 1, 0, 0] B21), .inBlock 2, .code (sub [1, 1, 1, 0, 1, 0, 0, 1, 0, 0, 1, 1] B21), .inBlock 1, .code (sub [1, 1, 1, 0, 1, 0, 0, 1, 1] B21), .inLoop (sub [1, 1, 1, 0, 1, 0, 0] B21), .inBlock 0, .code (sub [1, 1, 1, 1] B21)] (by kernel_rfl) ?_
    by_cases h16 : x8 < (x0.length : Int)
    · rw [if_pos h16] at h
      rw [decide_eq_true h16]
      refine Goes.runs 4 [] [.code (sub [1, 1, 1, 0, 1, 0, 0, 1, 0, 0, 1, 0, 1, 0, 0, 1, 0, 0] B21), .inBlock 3, .code (sub [1, 1, 1, 0, 1, 0, 0, 1, 0, 0, 1, 0, 1, 0, 0, 1, 1] B21), .inLoop (sub [1, 1, 1, 0, 1, 0, 0, 1, 0, 0, 1, 0, 1, 0, 0] B21), .inBlock 2, .code (sub [1, 1, 1, 0, 1, 0, 0, 1, 0, 0, 1, 1] B21), .inBlock 1, .code (sub [1, 1, 1, 0, 1, 0, 0, 1, 1] B21), .inLoop (sub [1, 1, 1, 0, 1, 0, 0] B21), .inBlock 0, .code (sub [1, 1, 1, 1] B21)] (by kernel_rfl) ?_
      have z4 : Ext S1 w1 S1 (w1).drew := Ext.draw
      have p4 := p1.draw
      refine Goes.drawn (s := []) (F := Fc S1 (w1).drew []) 12 15 (by kernel_rfl) (by kernel_rfl) (by kernel_rfl) (by kernel_rfl) ?_
      generalize (w1).drew = w4 at z4 p4 ⊢
      refine AnyG.pure (i := 0) (.move (.tmp 7)) 34 4 (.bool x7) (by kernel_rfl) (by kernel_rfl) (by kernel_rfl) (Fc.here trivial) ?_
      refine AnyG.pure (i := 1) (.move (.tmp 34)) 35 4 (.bool x7) (by kernel_rfl) (by kernel_rfl) (by kernel_rfl) (Fc.here trivial) ?_
      by_cases h17 : x7 = true
      · rw [if_pos h17] at h
        rw [h17]
        refine AnyG.pure (i := 2) (.move (.tmp 0)) 36 38 (.slice Ax0 x0.length cx0) (by kernel_rfl) (by kernel_rfl) (by kernel_rfl) (Fc.here trivial) ?_
        refine AnyG.pure (i := 3) (.move (.tmp 8)) 37 3 (.int .i64 x8) (by kernel_rfl) (by kernel_rfl) (by kernel_rfl) (Fc.here trivial) ?_
        obtain ⟨g18, h⟩ := guard_some h
        refine AnyG.ixR (i := 4) 38 (.tmp 36) (.tmp 37) 38 0 22 .i64 x8 (fx0.ext z4) (by kernel_rfl) (by kernel_rfl) (Fc.here trivial) (by kernel_rfl) (by kernel_rfl) (by kernel_rfl) (by kernel_rfl) g18 h16 ?_
        rintro a19 _ f20 ⟨A21, c22, rfl, f23⟩
        refine AnyG.ld1 (i := 5) 22 (.tmp 38) 39 22 a19 (.slice A21 (gi x0 x8).length c22) (by kernel_rfl) (by kernel_rfl) (Fc.here trivial) (by kernel_rfl) (by kernel_rfl) (fun _ h => f20.fc h 0 _ rfl) ?_
        refine AnyG.pure (i := 6) (.move (.tmp 0)) 40 38 (.slice Ax0 x0.length cx0) (by kernel_rfl) (by kernel_rfl) (by kernel_rfl) (Fc.here trivial) ?_
        obtain ⟨g24, h⟩ := guard_some h
        refine AnyG.ixR (i := 7) 38 (.tmp 40) (.const (.int .i64 0)) 41 0 22 .i64 0 (fx0.ext z4) (by kernel_rfl) (by kernel_rfl) (Fc.here trivial) (by kernel_rfl) (by kernel_rfl) (by kernel_rfl) (by kernel_rfl) (by decide) g24 ?_
        rintro a25 _ f26 ⟨A27, c28, rfl, f29⟩
        refine AnyG.ld1 (i := 8) 22 (.tmp 41) 42 22 a25 (.slice A27 (gi x0 0).length c28) (by kernel_rfl) (by kernel_rfl) (Fc.here trivial) (by kernel_rfl) (by kernel_rfl) (fun _ h => f26.fc h 0 _ rfl) ?_
        refine AnyG.pure (i := 9) (.move (.tmp 6)) 43 3 (.int .i64 x6) (by kernel_rfl) (by kernel_rfl) (by kernel_rfl) (Fc.here trivial) ?_
        obtain ⟨g30, h⟩ := guard_some h
        obtain ⟨g31, h⟩ := guard_some h
        refine AnyG.ixR (i := 10) 22 (.tmp 42) (.tmp 43) 44 0 35 .i64 x6 f29 (by kernel_rfl) (by kernel_rfl) (Fc.here trivial) (by kernel_rfl) (by kernel_rfl) (by kernel_rfl) (by kernel_rfl) g30 g31 ?_
        rintro a32 _ f33 rfl
        refine AnyG.ld1 (i := 11) 35 (.tmp 44) 45 35 a32 (.int .u64 (gi (gi x0 0) x6)) (by kernel_rfl) (by kernel_rfl) (Fc.here trivial) (by kernel_rfl) (by kernel_rfl) (fun _ h => f33.fc h 0 _ rfl) ?_
        obtain ⟨y34, e35, h⟩ := bind_some h
        try dsimp only at h
        refine Op_.call (.call { callee := .value (.func 49), args := #[(.tmp 39), (.tmp 45)], argTypes := #[22, 35] }) 46 4 49 #[.slice A21 (gi x0 x8).length c22, .int .u64 (gi (gi x0 0) x6)] (AnyG.cs (i := 12) (by kernel_rfl) (by kernel_rfl)) (by kernel_rfl) (W.tidepoleref13_in (gi x0 x8) (gi (gi x0 0) x6) y34 e35 nz wz S1 w4 ((Gx5, .row 35 csx5 (cx5 * (kInt .u64).size) 0) :: Lr) A21 c22 p4 f23) ?_
        rintro _ w5 ⟨S5, rfl, z5, p5⟩
        refine AnyG.next z5 trivial ?_
        refine AnyG.pure (i := 13) (.pick (.tmp 35) (.tmp 46) (.const (.bool false))) 47 4 (.bool y34) (by kernel_rfl) (by kernel_rfl) (by kernel_rfl) (Fc.here trivial) ?_
        refine AnyG.pure (i := 14) (.assign (.tmp 47)) 7 4 (.bool y34) (by kernel_rfl) (by kernel_rfl) (by kernel_rfl) (Fc.here trivial) ?_
        refine AnyG.done (by kernel_rfl) ?_ _
        exact Goes.jump 59 [(0, .slice Ax0 x0.length cx0), (5, .slice (Gp Gx5) x5.length cx5), (6, .int .i64 x6), (7, .bool y34), (8, .int .i64 x8)] (by kernel_rfl) (ih_tidepoleref13_And_l3 _ _ h _ _ ((hx.trans z4).trans z5) Ax0 cx0 Gx5 cx5 csx5 p5 ((fx0.ext z4).ext z5) ((fx5.ext z4).ext z5))
      · rw [if_neg h17] at h
        have h17' : x7 = false := by simpa using h17
        rw [h17']
        refine AnyG.skip1 (i := 2) 36 (by kernel_rfl) (by kernel_rfl) (Fc.here trivial) ?_
        refine AnyG.skip1 (i := 3) 37 (by kernel_rfl) (by kernel_rfl) (Fc.here trivial) ?_
        refine AnyG.skip1 (i := 4) 38 (by kernel_rfl) (by kernel_rfl) (Fc.here trivial) ?_
        refine AnyG.skip1 (i := 5) 39 (by kernel_rfl) (by kernel_rfl) (Fc.here trivial) ?_
        refine AnyG.skip1 (i := 6) 40 (by kernel_rfl) (by kernel_rfl) (Fc.here trivial) ?_
        refine AnyG.skip1 (i := 7) 41 (by kernel_rfl) (by kernel_rfl) (Fc.here trivial) ?_
        refine AnyG.skip1 (i := 8) 42 (by kernel_rfl) (by kernel_rfl) (Fc.here trivial) ?_
        refine AnyG.skip1 (i := 9) 43 (by kernel_rfl) (by kernel_rfl) (Fc.here trivial) ?_
        refine AnyG.skip1 (i := 10) 44 (by kernel_rfl) (by kernel_rfl) (Fc.here trivial) ?_
        refine AnyG.skip1 (i := 11) 45 (by kernel_rfl) (by kernel_rfl) (Fc.here trivial) ?_
        refine AnyG.skip1 (i := 12) 46 (by kernel_rfl) (by kernel_rfl) (Fc.here trivial) ?_
        refine AnyG.pure (i := 13) (.pick (.tmp 35) (.tmp 46) (.const (.bool false))) 47 4 (.bool false) (by kernel_rfl) (by kernel_rfl) (by kernel_rfl) (Fc.here trivial) ?_
        refine AnyG.pure (i := 14) (.assign (.tmp 47)) 7 4 (.bool false) (by kernel_rfl) (by kernel_rfl) (by kernel_rfl) (Fc.here trivial) ?_
        refine AnyG.done (by kernel_rfl) ?_ _
        exact Goes.jump 59 [(0, .slice Ax0 x0.length cx0), (5, .slice (Gp Gx5) x5.length cx5), (6, .int .i64 x6), (7, .bool false), (8, .int .i64 x8)] (by kernel_rfl) (ih_tidepoleref13_And_l3 _ _ h _ _ (hx.trans z4) Ax0 cx0 Gx5 cx5 csx5 p4 (fx0.ext z4) (fx5.ext z4))
    · rw [if_neg h16] at h
      rw [decide_eq_false h16]
      refine Goes.runs 6 [(48, .bool x7)] [.code (sub [1, 1, 1, 0, 1, 0, 0, 1, 0, 0, 1, 1, 1] B21), .inBlock 1, .code (sub [1, 1, 1, 0, 1, 0, 0, 1, 1] B21), .inLoop (sub [1, 1, 1, 0, 1, 0, 0] B21), .inBlock 0, .code (sub [1, 1, 1, 1] B21)] (by kernel_rfl) ?_
      by_cases h36 : x7 = true
      · rw [if_pos h36] at h
        rw [h36]
        refine Goes.runs 4 [(49, .slice (Gp Gx5) x5.length cx5), (50, .slice Ax0 x0.length cx0)] [.inRegion (opsOf (sub [1, 1, 1, 0, 1, 0, 0, 1, 0, 0, 1, 1, 1, 0] B21)) [2, 3, 4, 5, 6, 7, 8, 9], .inBlock 1, .code (sub [1, 1, 1, 0, 1, 0, 0, 1, 1] B21), .inLoop (sub [1, 1, 1, 0, 1, 0, 0] B21), .inBlock 0, .code (sub [1, 1, 1, 1] B21)] (by kernel_rfl) ?_
        obtain ⟨g37, h⟩ := guard_some h
        refine Op_.ixR 38 (.tmp 50) (.const (.int .i64 0)) 51 0 22 .i64 0 fx0 (Goes.vs (by kernel_rfl)) (by kernel_rfl) (by kernel_rfl) (by kernel_rfl) (by kernel_rfl) (by decide) g37 ?_
        rintro a38 _ f39 ⟨A40, c41, rfl, f42⟩
        refine Op_.ld1 22 (.tmp 51) 52 22 a38 (.slice A40 (gi x0 0).length c41) (Goes.vs (by kernel_rfl)) (by kernel_rfl) (by kernel_rfl) (f39.cell 0 _ rfl) ?_
        refine Goes.runs 1 [(53, .int .i64 x6)] [.inRegion (opsOf (sub [1, 1, 1, 0, 1, 0, 0, 1, 0, 0, 1, 1, 1, 0] B21)) [5, 6, 7, 8, 9], .inBlock 1, .code (sub [1, 1, 1, 0, 1, 0, 0, 1, 1] B21), .inLoop (sub [1, 1, 1, 0, 1, 0, 0] B21), .inBlock 0, .code (sub [1, 1, 1, 1] B21)] (by kernel_rfl) ?_
        obtain ⟨g43, h⟩ := guard_some h
        obtain ⟨g44, h⟩ := guard_some h
        refine Op_.ixR 22 (.tmp 52) (.tmp 53) 54 0 35 .i64 x6 f42 (Goes.vs (by kernel_rfl)) (by kernel_rfl) (by kernel_rfl) (by kernel_rfl) (by kernel_rfl) g43 g44 ?_
        rintro a45 _ f46 rfl
        refine Op_.ld1 35 (.tmp 54) 55 35 a45 (.int .u64 (gi (gi x0 0) x6)) (Goes.vs (by kernel_rfl)) (by kernel_rfl) (by kernel_rfl) (f46.cell 0 _ rfl) ?_
        have f48 : Els (kInt .u64) S1 w1 ([.int .u64 (gi (gi x0 0) x6)] : List Value) [gi (gi x0 0) x6] := (Els.cons (K := (kInt .u64)) (vs := [.int .u64 (gi (gi x0 0) x6)]) (x := gi (gi x0 0) x6) rfl Els.nil)
        refine Op_.made (.buildSlice 22 1 #[(0, (.tmp 55))]) 56 22 (fun b => .slice (Gp (some b)) 1 1) 35 ([.int .u64 (gi (gi x0 0) x6)] : List Value) p1 (Goes.vs (by kernel_rfl)) (by kernel_rfl) ?_
        intro b47 w6 z6 p6
        have p6 : Hp nz wz S1 w6 (((some b47), .row 35 ([.int .u64 (gi (gi x0 0) x6)] : List Value) (1 * (kInt .u64).size) 0) :: (Gx5, .row 35 csx5 (cx5 * (kInt .u64).size) 0) :: Lr) := p6
        obtain ⟨g53, h⟩ := guard_some h
        refine Op_.ap (K := (kInt .u64)) 22 (.tmp 49) (.tmp 56) 57 22 35 1 (.int .u64 0) 8 cx5 x5 [gi (gi x0 0) x6] (Gp (some b47)) 1 p6 rfl (fx5.ext z6) (Goes.vs (by kernel_rfl)) (by kernel_rfl) (by kernel_rfl) (by kernel_rfl) (by kernel_rfl) rfl (by decide) (f48.ext z6) (src_own p6 (q := 0) rfl) (by have := g53; omega) (by have := g53; omega) ?_
        intro w7 G54 c55 cs56 z7 p7 f57
        refine Goes.runs 2 [(5, .slice (Gp G54) (x5 ++ [gi (gi x0 0) x6]).length c55)] [.inBlock 1, .code (sub [1, 1, 1, 0, 1, 0, 0, 1, 1] B21), .inLoop (sub [1, 1, 1, 0, 1, 0, 0] B21), .inBlock 0, .code (sub [1, 1, 1, 1] B21)] (by kernel_rfl) ?_
        have p7 := (p7.front 0 _ rfl).drop
        exact Goes.jump 59 [(0, .slice Ax0 x0.length cx0), (5, .slice (Gp G54) (x5 ++ [gi (gi x0 0) x6]).length c55), (6, .int .i64 x6)] (by kernel_rfl) (ih_tidepoleref13_And_l4 _ _ h _ _ ((hx.trans z6).trans z7) Ax0 cx0 G54 c55 cs56 p7 ((fx0.ext z6).ext z7) f57)
      · rw [if_neg h36] at h
        have h36' : x7 = false := by simpa using h36
        rw [h36']
        refine Goes.runs 2 [] [.inBlock 1, .code (sub [1, 1, 1, 0, 1, 0, 0, 1, 1] B21), .inLoop (sub [1, 1, 1, 0, 1, 0, 0] B21), .inBlock 0, .code (sub [1, 1, 1, 1] B21)] (by kernel_rfl) ?_
        exact Goes.jump 59 [(0, .slice Ax0 x0.length cx0), (5, .slice (Gp Gx5) x5.length cx5), (6, .int .i64 x6)] (by kernel_rfl) (ih_tidepoleref13_And_l4 _ _ h _ _ hx Ax0 cx0 Gx5 cx5 csx5 p1 fx0 fx5)
  · intro rec_tidepoleref13_And_l0 ih_tidepoleref13_And_l0 ⟨x0, x5, x6⟩ r h S1 w1 hx Ax0 cx0 Gx5 cx5 csx5 p1 fx0 fx5 junk
    dsimp only at h
    refine Goes.runs 7 [(26, .int .i64 x6), (27, .int .i64 (wr .i64 (x6 + 1))), (6, .int .i64 (wr .i64 (x6 + 1)))] [.code (sub [1, 1, 1, 0, 1, 0, 0] B21), .inLoop (sub [1, 1, 1, 0, 1, 0, 0] B21), .inBlock 0, .code (sub [1, 1, 1, 1] B21)] (by kernel_rfl) ?_
    exact Goes.jump 59 [(0, .slice Ax0 x0.length cx0), (5, .slice (Gp Gx5) x5.length cx5), (6, .int .i64 (wr .i64 (x6 + 1)))] (by kernel_rfl) (ih_tidepoleref13_And_l0 _ _ h _ _ hx Ax0 cx0 Gx5 cx5 csx5 p1 fx0 fx5)
  · intro rec_tidepoleref13_And_l2 ih_tidepoleref13_And_l2 ⟨x0, x5, x6, x7, x8⟩ r h S1 w1 hx Ax0 cx0 Gx5 cx5 csx5 p1 fx0 fx5 junk
    dsimp only at h
    refine Goes.runs 7 [(32, .int .i64 x8), (33, .int .i64 (wr .i64 (x8 + 1))), (8, .int .i64 (wr .i64 (x8 + 1)))] [.code (sub [1, 1, 1, 0, 1, 0, 0, 1, 0, 0, 1, 0, 1, 0, 0] B21), .inLoop (sub [1, 1, 1, 0, 1, 0, 0, 1, 0, 0, 1, 0, 1, 0, 0] B21), .inBlock 2, .code (sub [1, 1, 1, 0, 1, 0, 0, 1, 0, 0, 1, 1] B21), .inBlock 1, .code (sub [1, 1, 1, 0, 1, 0, 0, 1, 1] B21), .inLoop (sub [1, 1, 1, 0, 1, 0, 0] B21), .inBlock 0, .code (sub [1, 1, 1, 1] B21)] (by kernel_rfl) ?_
    exact Goes.jump 59 [(0, .slice Ax0 x0.length cx0), (5, .slice (Gp Gx5) x5.length cx5), (6, .int .i64 x6), (7, .bool x7), (8, .int .i64 (wr .i64 (x8 + 1)))] (by kernel_rfl) (ih_tidepoleref13_And_l2 _ _ h _ _ hx Ax0 cx0 Gx5 cx5 csx5 p1 fx0 fx5)

theorem W.tidepoleref13_And_l0 (nz : Nat) (wz : World) (S0 : Fz) (w0 : World) (Lr : List Ent) : ∀ a r, M.tidepoleref13_And_l0 a = some r → L.tidepoleref13_And_l0 nz wz S0 w0 Lr a r := (W.tidepoleref13_And_l0_all nz wz S0 w0 Lr).1

theorem W.tidepoleref13_And_l1 (nz : Nat) (wz : World) (S0 : Fz) (w0 : World) (Lr : List Ent) : ∀ a r, M.tidepoleref13_And_l1 a = some r → L.tidepoleref13_And_l1 nz wz S0 w0 Lr a r := (W.tidepoleref13_And_l0_all nz wz S0 w0 Lr).2.1

theorem W.tidepoleref13_And_l2 (nz : Nat) (wz : World) (S0 : Fz) (w0 : World) (Lr : List Ent) : ∀ a r, M.tidepoleref13_And_l2 a = some r → L.tidepoleref13_And_l2 nz wz S0 w0 Lr a r := (W.tidepoleref13_And_l0_all nz wz S0 w0 Lr).2.2.1

theorem W.tidepoleref13_And_l4 (nz : Nat) (wz : World) (S0 : Fz) (w0 : World) (Lr : List Ent) : ∀ a r, M.tidepoleref13_And_l4 a = some r → L.tidepoleref13_And_l4 nz wz S0 w0 Lr a r := (W.tidepoleref13_And_l0_all nz wz S0 w0 Lr).2.2.2.1

theorem W.tidepoleref13_And_l3 (nz : Nat) (wz : World) (S0 : Fz) (w0 : World) (Lr : List Ent) : ∀ a r, M.tidepoleref13_And_l3 a = some r → L.tidepoleref13_And_l3 nz wz S0 w0 Lr a r := (W.tidepoleref13_And_l0_all nz wz S0 w0 Lr).2.2.2.2

theorem W.tidepoleref13_And (x0 : List (List Int)) (r : (List Int) × Int) (h : M.tidepoleref13_And x0 = some r) (nz : Nat) (wz : World) (S0 : Fz) (w0 : World) (Lr : List Ent) (Ax0 : Option Addr) (cx0 : Nat) (p0 : Hp nz wz S0 w0 (Lr)) (fx0 : Rd (kSl (kInt .u64)) S0 w0 Ax0 cx0 x0) :
    Calls Try.prog 21 #[.slice Ax0 x0.length cx0] w0 (Rets (Post.tidepoleref13_And nz wz S0 w0 Lr r)) := by
  refine calls_of_goes (fn := Try.f21) (c := B21) (by kernel_rfl) (by kernel_rfl) 58 (by kernel_rfl) ?_
  refine Goes.jump 59 [(0, .slice Ax0 x0.length cx0)] (by kernel_rfl) (fun junk => ?_)
  delta M.tidepoleref13_And at h
  refine Goes.runs 9 [(2, .slice none 0 0), (3, .int .i64 0), (9, .slice Ax0 x0.length cx0)] [.inRegion (opsOf (sub [1, 0, 0] B21)) [1, 2], .code (sub [1, 0, 1] B21), .code (sub [1, 1] B21)] (by kernel_rfl) ?_
  obtain ⟨y1, e2, h⟩ := bind_some h
  try dsimp only at h
  refine Op_.call (.call { callee := .value (.func 48), args := #[(.tmp 9)], argTypes := #[38] }) 10 25 48 #[.slice Ax0 x0.length cx0] (Goes.cs (by kernel_rfl)) (by kernel_rfl) (W.tidepoleref13_all x0 y1 e2 nz wz S0 w0 (Lr) Ax0 cx0 p0 fx0) ?_
  rintro _ w2 ⟨S2, rfl, z2, p2⟩
  refine Goes.runs 7 [(4, .int .i64 y1), (11, .int .i64 y1), (12, .bool (!(decide (y1 = 0))))] [.code (sub [1, 0, 1, 1] B21), .code (sub [1, 1] B21)] (by kernel_rfl) ?_
  by_cases h3 : y1 = 0
  · rw [if_pos h3] at h
    rw [decide_eq_true h3]
    refine Goes.runs 4 [] [.inRegion (opsOf (sub [1, 1, 0] B21)) [0, 1], .code (sub [1, 1, 1] B21)] (by kernel_rfl) ?_
    have f5 : Els (kInt .u64) S2 w2 ([] : List Value) ([] : List Int) := Els.nil
    refine Op_.made (.buildSlice 22 0 #[]) 14 22 (fun b => .slice (Gp (some b)) 0 0) 35 ([] : List Value) p2 (Goes.vs (by kernel_rfl)) (by kernel_rfl) ?_
    intro b4 w3 z3 p3
    have p3 : Hp nz wz S2 w3 (((some b4), .row 35 ([] : List Value) (0 * (kInt .u64).size) 0) :: Lr) := p3
    refine Goes.runs 9 [(5, .slice (Gp (some b4)) ([] : List Int).length 0), (6, .int .i64 0)] [.code (sub [1, 1, 1, 0, 1, 0, 0] B21), .inLoop (sub [1, 1, 1, 0, 1, 0, 0] B21), .inBlock 0, .code (sub [1, 1, 1, 1] B21)] (by kernel_rfl) ?_
    exact Goes.jump 59 [(0, .slice Ax0 x0.length cx0), (5, .slice (Gp (some b4)) ([] : List Int).length 0), (6, .int .i64 0)] (by kernel_rfl) (W.tidepoleref13_And_l0 nz wz S0 w0 Lr _ _ h _ _ (((Ext.refl S0 w0).trans z2).trans z3) Ax0 cx0 (some b4) 0 ([] : List Value) p3 ((fx0.ext z2).ext z3) (f5.ext z3))
  · rw [if_neg h3] at h
    rw [decide_eq_false h3]
    refine Goes.runs 7 [(13, .int .i64 y1), (2, .slice none 0 0), (3, .int .i64 y1)] [.code (sub [1, 0, 1, 1, 0, 1] B21), .code (sub [1, 1] B21)] (by kernel_rfl) ?_
    have p2 : Hp nz wz S2 w2 ((none, .row 35 [] (0 * (kInt .u64).size) 0) :: Lr) := p2.nilRow' 35
    obtain rfl := Option.some.inj h
    exact Goes.ret (fn := Try.f21) (by kernel_rfl) (v := .tuple #[.slice (Gp none) ([] : List Int).length 0, .int .i64 y1]) (by kernel_rfl) ⟨S2, none, 0, [], rfl, ((Ext.refl S0 w0).trans z2), p2, (Els.nil : Els (kInt .u64) S2 w2 [] [])⟩

/-! tidepole/tidepoleref13.Add -/
def Post.tidepoleref13_Add (nz : Nat) (wz : World) (S0 : Fz) (w0 : World) (Lr : List Ent) (r : (List Int) × Int) (v : Value) (w' : World) : Prop :=
  ∃ (S' : Fz) (G1 : Option Nat) (c2 : Nat) (cs3 : List Value), v = .tuple #[.slice (Gp G1) r.1.length c2, .int .i64 r.2] ∧ Ext S0 w0 S' w' ∧ Hp nz wz S' w' ((G1, .row 35 cs3 (c2 * (kInt .u64).size) 0) :: Lr) ∧ Els (kInt .u64) S' w' cs3 r.1

def L.tidepoleref13_Add_l0 (nz : Nat) (wz : World) (S0 : Fz) (w0 : World) (Lr : List Ent) : List Int × Int × List Int × Bool × Int → ((List Int) × Int) → Prop := fun ⟨x0, x1, x6, x7, x8⟩ r => ∀ S1 w1, Ext S0 w0 S1 w1 → ∀ (Ax0 : Option Addr) (cx0 : Nat) (Gx6 : Option Nat) (cx6 : Nat) (csx6 : List Value) (_ : Hp nz wz S1 w1 ((Gx6, .row 35 csx6 (cx6 * (kInt .u64).size) 0) :: Lr)) (_ : Rd (kInt .u64) S1 w1 Ax0 cx0 x0) (_ : Els (kInt .u64) S1 w1 csx6 x6) (junk : Nat → Value),
  Goes Try.prog (base 27) [.code (sub [1, 1, 1, 1, 0, 1, 0, 0] B27), .inLoop (sub [1, 1, 1, 1, 0, 1, 0, 0] B27), .inBlock 0, .code (sub [1, 1, 1, 1, 1] B27)] ⟨lfr 53 [(0, .slice Ax0 x0.length cx0), (1, .int .u64 x1), (6, .slice (Gp Gx6) x6.length cx6), (7, .bool x7), (8, .int .i64 x8)] junk, []⟩ w1 (Done Try.prog 27 (Rets (Post.tidepoleref13_Add nz wz S0 w0 Lr r)))

def L.tidepoleref13_Add_l1 (nz : Nat) (wz : World) (S0 : Fz) (w0 : World) (Lr : List Ent) : List Int × Int × List Int × Bool × Int × Bool → ((List Int) × Int) → Prop := fun ⟨x0, x1, x6, x7, x8, x28⟩ r => ∀ S1 w1, Ext S0 w0 S1 w1 → ∀ (Ax0 : Option Addr) (cx0 : Nat) (Gx6 : Option Nat) (cx6 : Nat) (csx6 : List Value) (_ : Hp nz wz S1 w1 ((Gx6, .row 35 csx6 (cx6 * (kInt .u64).size) 0) :: Lr)) (_ : Rd (kInt .u64) S1 w1 Ax0 cx0 x0) (_ : Els (kInt .u64) S1 w1 csx6 x6) (junk : Nat → Value),
  Goes Try.prog (base 27) [.code (sub [1, 1, 1, 1, 0, 1, 0, 0, 1, 0, 0, 0, 1] B27), .code (sub [1, 1, 1, 1, 0, 1, 0, 0, 1, 0, 0, 1] B27), .inBlock 1, .code (sub [1, 1, 1, 1, 0, 1, 0, 0, 1, 1] B27), .inLoop (sub [1, 1, 1, 1, 0, 1, 0, 0] B27), .inBlock 0, .code (sub [1, 1, 1, 1, 1] B27)] ⟨lfr 53 [(0, .slice Ax0 x0.length cx0), (1, .int .u64 x1), (6, .slice (Gp Gx6) x6.length cx6), (7, .bool x7), (8, .int .i64 x8), (28, .bool x28)] junk, []⟩ w1 (Done Try.prog 27 (Rets (Post.tidepoleref13_Add nz wz S0 w0 Lr r)))

def L.tidepoleref13_Add_l2 (nz : Nat) (wz : World) (S0 : Fz) (w0 : World) (Lr : List Ent) : List Int × Int × List Int × Bool × Int → ((List Int) × Int) → Prop := fun ⟨x0, x1, x6, x7, x8⟩ r => ∀ S1 w1, Ext S0 w0 S1 w1 → ∀ (Ax0 : Option Addr) (cx0 : Nat) (Gx6 : Option Nat) (cx6 : Nat) (csx6 : List Value) (_ : Hp nz wz S1 w1 ((Gx6, .row 35 csx6 (cx6 * (kInt .u64).size) 0) :: Lr)) (_ : Rd (kInt .u64) S1 w1 Ax0 cx0 x0) (_ : Els (kInt .u64) S1 w1 csx6 x6) (junk : Nat → Value),
  Goes Try.prog (base 27) [.code (sub [1, 1, 1, 1, 0, 1, 0, 0, 1, 0, 0, 1] B27), .inBlock 1, .code (sub [1, 1, 1, 1, 0, 1, 0, 0, 1, 1] B27), .inLoop (sub [1, 1, 1, 1, 0, 1, 0, 0] B27), .inBlock 0, .code (sub [1, 1, 1, 1, 1] B27)] ⟨lfr 53 [(0, .slice Ax0 x0.length cx0), (1, .int .u64 x1), (6, .slice (Gp Gx6) x6.length cx6), (7, .bool x7), (8, .int .i64 x8)] junk, []⟩ w1 (Done Try.prog 27 (Rets (Post.tidepoleref13_Add nz wz S0 w0 Lr r)))

def L.tidepoleref13_Add_l3 (nz : Nat) (wz : World) (S0 : Fz) (w0 : World) (Lr : List Ent) : List Int × Int × List Int × Bool × Int → ((List Int) × Int) → Prop := fun ⟨x0, x1, x6, x7, x8⟩ r => ∀ S1 w1, Ext S0 w0 S1 w1 → ∀ (Ax0 : Option Addr) (cx0 : Nat) (Gx6 : Option Nat) (cx6 : Nat) (csx6 : List Value) (_ : Hp nz wz S1 w1 ((Gx6, .row 35 csx6 (cx6 * (kInt .u64).size) 0) :: Lr)) (_ : Rd (kInt .u64) S1 w1 Ax0 cx0 x0) (_ : Els (kInt .u64) S1 w1 csx6 x6) (junk : Nat → Value),
  Goes Try.prog (base 27) [.inBlock 1, .code (sub [1, 1, 1, 1, 0, 1, 0, 0, 1, 1] B27), .inLoop (sub [1, 1, 1, 1, 0, 1, 0, 0] B27), .inBlock 0, .code (sub [1, 1, 1, 1, 1] B27)] ⟨lfr 53 [(0, .slice Ax0 x0.length cx0), (1, .int .u64 x1), (6, .slice (Gp Gx6) x6.length cx6), (7, .bool x7), (8, .int .i64 x8)] junk, []⟩ w1 (Done Try.prog 27 (Rets (Post.tidepoleref13_Add nz wz S0 w0 Lr r)))

theorem W.tidepoleref13_Add_l0_all (nz : Nat) (wz : World) (S0 : Fz) (w0 : World) (Lr : List Ent) : (∀ a r, M.tidepoleref13_Add_l0 a = some r → L.tidepoleref13_Add_l0 nz wz S0 w0 Lr a r) ∧ (∀ a r, M.tidepoleref13_Add_l1 a = some r → L.tidepoleref13_Add_l1 nz wz S0 w0 Lr a r) ∧ (∀ a r, M.tidepoleref13_Add_l2 a = some r → L.tidepoleref13_Add_l2 nz wz S0 w0 Lr a r) ∧ (∀ a r, M.tidepoleref13_Add_l3 a = some r → L.tidepoleref13_Add_l3 nz wz S0 w0 Lr a r) := by
  refine M.tidepoleref13_Add_l0.mutual_partial_correctness (L.tidepoleref13_Add_l0 nz wz S0 w0 Lr) (L.tidepoleref13_Add_l1 nz wz S0 w0 Lr) (L.tidepoleref13_Add_l2 nz wz S0 w0 Lr) (L.tidepoleref13_Add_l3 nz wz S0 w0 Lr) ?_ ?_ ?_ ?_
  · intro rec_tidepoleref13_Add_l1 ih_tidepoleref13_Add_l1 ⟨x0, x1, x6, x7, x8⟩ r h S1 w1 hx Ax0 cx0 Gx6 cx6 csx6 p1 fx0 fx6 junk
    dsimp only at h
    refine Goes.runs 8 [(13, .int .i64 x8), (14, .slice Ax0 x0.length cx0), (15, .int .i64 (x0.length : Int)), (16, .bool (decide (x8 < (x0.length : Int))))] [.code (sub [1, 1, 1, 1, 0, 1, 0, 0, 0, 1] B27), .code (sub [1, 1, 1, 1, 0, 1, 0, 0, 1] B27), .inLoop (sub [1, 1, 1, 1, 0, 1, 0, 0] B27), .inBlock 0, .code (sub [1, 1, 1, 1, 1] B27)] (by kernel_rfl) ?_
    by_cases h8 : x8 < (x0.length : Int)
    · rw [if_pos h8] at h
      rw [decide_eq_true h8]
      refine Goes.runs 10 [(19, .bool x7), (20, .bool (!x7)), (21, .bool (!x7))] [.inRegion (opsOf (sub [1, 1, 1, 1, 0, 1, 0, 0, 1, 0, 0, 0, 0] B27)) [3, 4, 5, 6, 7, 8, 9], .code (sub [1, 1, 1, 1, 0, 1, 0, 0, 1, 0, 0, 0, 1] B27), .code (sub [1, 1, 1, 1, 0, 1, 0, 0, 1, 0, 0, 1] B27), .inBlock 1, .code (sub [1, 1, 1, 1, 0, 1, 0, 0, 1, 1] B27), .inLoop (sub [1, 1, 1, 1, 0, 1, 0, 0] B27), .inBlock 0, .code (sub [1, 1, 1, 1, 1] B27)] (by kernel_rfl) ?_
      by_cases h9 : x7 = true
      · rw [if_pos h9] at h
        rw [h9]
        refine Goes.runs 8 [(22, undef), (23, undef), (24, undef), (25, undef), (26, undef), (27, undef), (28, .bool false)] [.code (sub [1, 1, 1, 1, 0, 1, 0, 0, 1, 0, 0, 0, 1] B27), .code (sub [1, 1, 1, 1, 0, 1, 0, 0, 1, 0, 0, 1] B27), .inBlock 1, .code (sub [1, 1, 1, 1, 0, 1, 0, 0, 1, 1] B27), .inLoop (sub [1, 1, 1, 1, 0, 1, 0, 0] B27), .inBlock 0, .code (sub [1, 1, 1, 1, 1] B27)] (by kernel_rfl) ?_
        exact Goes.jump 53 [(0, .slice Ax0 x0.length cx0), (1, .int .u64 x1), (6, .slice (Gp Gx6) x6.length cx6), (7, .bool true), (8, .int .i64 x8), (28, .bool false)] (by kernel_rfl) (ih_tidepoleref13_Add_l1 _ _ h _ _ hx Ax0 cx0 Gx6 cx6 csx6 p1 fx0 fx6)
      · rw [if_neg h9] at h
        have h9' : x7 = false := by simpa using h9
        rw [h9']
        refine Goes.runs 2 [(22, .slice Ax0 x0.length cx0), (23, .int .i64 x8)] [.inRegion (opsOf (sub [1, 1, 1, 1, 0, 1, 0, 0, 1, 0, 0, 0, 0] B27)) [5, 6, 7, 8, 9], .code (sub [1, 1, 1, 1, 0, 1, 0, 0, 1, 0, 0, 0, 1] B27), .code (sub [1, 1, 1, 1, 0, 1, 0, 0, 1, 0, 0, 1] B27), .inBlock 1, .code (sub [1, 1, 1, 1, 0, 1, 0, 0, 1, 1] B27), .inLoop (sub [1, 1, 1, 1, 0, 1, 0, 0] B27), .inBlock 0, .code (sub [1, 1, 1, 1, 1] B27)] (by kernel_rfl) ?_
        obtain ⟨g10, h⟩ := guard_some h
        refine Op_.ixR 22 (.tmp 22) (.tmp 23) 24 0 35 .i64 x8 fx0 (Goes.vs (by kernel_rfl)) (by kernel_rfl) (by kernel_rfl) (by kernel_rfl) (by kernel_rfl) g10 h8 ?_
        rintro a11 _ f12 rfl
        refine Op_.ld1 35 (.tmp 24) 25 35 a11 (.int .u64 (gi x0 x8)) (Goes.vs (by kernel_rfl)) (by kernel_rfl) (by kernel_rfl) (f12.cell 0 _ rfl) ?_
        refine Goes.runs 4 [(26, .int .u64 x1), (27, .bool (decide (gi x0 x8 ≥ x1))), (28, .bool (decide (gi x0 x8 ≥ x1)))] [.code (sub [1, 1, 1, 1, 0, 1, 0, 0, 1, 0, 0, 0, 1] B27), .code (sub [1, 1, 1, 1, 0, 1, 0, 0, 1, 0, 0, 1] B27), .inBlock 1, .code (sub [1, 1, 1, 1, 0, 1, 0, 0, 1, 1] B27), .inLoop (sub [1, 1, 1, 1, 0, 1, 0, 0] B27), .inBlock 0, .code (sub [1, 1, 1, 1, 1] B27)] (by kernel_rfl) ?_
        exact Goes.jump 53 [(0, .slice Ax0 x0.length cx0), (1, .int .u64 x1), (6, .slice (Gp Gx6) x6.length cx6), (7, .bool false), (8, .int .i64 x8), (28, .bool (decide (gi x0 x8 ≥ x1)))] (by kernel_rfl) (ih_tidepoleref13_Add_l1 _ _ h _ _ hx Ax0 cx0 Gx6 cx6 csx6 p1 fx0 fx6)
    · rw [if_neg h8] at h
      rw [decide_eq_false h8]
      refine Goes.runs 8 [(46, .bool x7), (47, .bool (!x7))] [.code (sub [1, 1, 1, 1, 1, 0, 1] B27), .code (sub [1, 1, 1, 1, 1, 1] B27)] (by kernel_rfl) ?_
      by_cases h13 : x7 = true
      · rw [if_pos h13] at h
        rw [h13]
        refine Goes.runs 8 [(52, .slice (Gp Gx6) x6.length cx6), (4, .slice (Gp Gx6) x6.length cx6), (5, .int .i64 0)] [.code (sub [1, 1, 1, 1, 1, 1, 1] B27)] (by kernel_rfl) ?_
        obtain rfl := Option.some.inj h
        exact Goes.ret (fn := Try.f27) (by kernel_rfl) (v := .tuple #[.slice (Gp Gx6) x6.length cx6, .int .i64 0]) (by kernel_rfl) ⟨S1, Gx6, cx6, csx6, rfl, hx, p1, fx6⟩
      · rw [if_neg h13] at h
        have h13' : x7 = false := by simpa using h13
        rw [h13']
        refine Goes.runs 4 [(48, .slice (Gp Gx6) x6.length cx6), (49, .int .u64 x1)] [.inRegion (opsOf (sub [1, 1, 1, 1, 1, 0, 1, 0] B27)) [2, 3, 4], .code (sub [1, 1, 1, 1, 1, 1] B27)] (by kernel_rfl) ?_
        have f15 : Els (kInt .u64) S1 w1 ([.int .u64 x1] : List Value) [x1] := (Els.cons (K := (kInt .u64)) (vs := [.int .u64 x1]) (x := x1) rfl Els.nil)
        refine Op_.made (.buildSlice 22 1 #[(0, (.tmp 49))]) 50 22 (fun b => .slice (Gp (some b)) 1 1) 35 ([.int .u64 x1] : List Value) p1 (Goes.vs (by kernel_rfl)) (by kernel_rfl) ?_
        intro b14 w4 z4 p4
        have p4 : Hp nz wz S1 w4 (((some b14), .row 35 ([.int .u64 x1] : List Value) (1 * (kInt .u64).size) 0) :: (Gx6, .row 35 csx6 (cx6 * (kInt .u64).size) 0) :: Lr) := p4
        obtain ⟨g20, h⟩ := guard_some h
        refine Op_.ap (K := (kInt .u64)) 22 (.tmp 48) (.tmp 50) 51 22 35 1 (.int .u64 0) 8 cx6 x6 [x1] (Gp (some b14)) 1 p4 rfl (fx6.ext z4) (Goes.vs (by kernel_rfl)) (by kernel_rfl) (by kernel_rfl) (by kernel_rfl) (by kernel_rfl) rfl (by decide) (f15.ext z4) (src_own p4 (q := 0) rfl) (by have := g20; omega) (by have := g20; omega) ?_
        intro w5 G21 c22 cs23 z5 p5 f24
        refine Goes.runs 8 [(6, .slice (Gp G21) (x6 ++ [x1]).length c22), (52, .slice (Gp G21) (x6 ++ [x1]).length c22), (4, .slice (Gp G21) (x6 ++ [x1]).length c22), (5, .int .i64 0)] [.code (sub [1, 1, 1, 1, 1, 1, 1] B27)] (by kernel_rfl) ?_
        have p5 := (p5.front 0 _ rfl).drop
        obtain rfl := Option.some.inj h
        exact Goes.ret (fn := Try.f27) (by kernel_rfl) (v := .tuple #[.slice (Gp G21) (x6 ++ [x1]).length c22, .int .i64 0]) (by kernel_rfl) ⟨S1, G21, c22, cs23, rfl, ((hx.trans z4).trans z5), p5, f24⟩
  · intro rec_tidepoleref13_Add_l2 ih_tidepoleref13_Add_l2 ⟨x0, x1, x6, x7, x8, x28⟩ r h S1 w1 hx Ax0 cx0 Gx6 cx6 csx6 p1 fx0 fx6 junk
    dsimp only at h
    by_cases h25 : x28 = true
    · rw [if_pos h25] at h
      rw [h25]
      refine Goes.runs 5 [(29, .slice (Gp Gx6) x6.length cx6), (30, .int .u64 x1)] [.inRegion (opsOf (sub [1, 1, 1, 1, 0, 1, 0, 0, 1, 0, 0, 0, 1, 0, 0] B27)) [2, 3, 4], .code (sub [1, 1, 1, 1, 0, 1, 0, 0, 1, 0, 0, 0, 1, 0, 1] B27), .code (sub [1, 1, 1, 1, 0, 1, 0, 0, 1, 0, 0, 1] B27), .inBlock 1, .code (sub [1, 1, 1, 1, 0, 1, 0, 0, 1, 1] B27), .inLoop (sub [1, 1, 1, 1, 0, 1, 0, 0] B27), .inBlock 0, .code (sub [1, 1, 1, 1, 1] B27)] (by kernel_rfl) ?_
      have f27 : Els (kInt .u64) S1 w1 ([.int .u64 x1] : List Value) [x1] := (Els.cons (K := (kInt .u64)) (vs := [.int .u64 x1]) (x := x1) rfl Els.nil)
      refine Op_.made (.buildSlice 22 1 #[(0, (.tmp 30))]) 31 22 (fun b => .slice (Gp (some b)) 1 1) 35 ([.int .u64 x1] : List Value) p1 (Goes.vs (by kernel_rfl)) (by kernel_rfl) ?_
      intro b26 w6 z6 p6
      have p6 : Hp nz wz S1 w6 (((some b26), .row 35 ([.int .u64 x1] : List Value) (1 * (kInt .u64).size) 0) :: (Gx6, .row 35 csx6 (cx6 * (kInt .u64).size) 0) :: Lr) := p6
      obtain ⟨g32, h⟩ := guard_some h
      refine Op_.ap (K := (kInt .u64)) 22 (.tmp 29) (.tmp 31) 32 22 35 1 (.int .u64 0) 8 cx6 x6 [x1] (Gp (some b26)) 1 p6 rfl (fx6.ext z6) (Goes.vs (by kernel_rfl)) (by kernel_rfl) (by kernel_rfl) (by kernel_rfl) (by kernel_rfl) rfl (by decide) (f27.ext z6) (src_own p6 (q := 0) rfl) (by have := g32; omega) (by have := g32; omega) ?_
      intro w7 G33 c34 cs35 z7 p7 f36
      refine Goes.runs 5 [(6, .slice (Gp G33) (x6 ++ [x1]).length c34), (7, .bool true)] [.code (sub [1, 1, 1, 1, 0, 1, 0, 0, 1, 0, 0, 1] B27), .inBlock 1, .code (sub [1, 1, 1, 1, 0, 1, 0, 0, 1, 1] B27), .inLoop (sub [1, 1, 1, 1, 0, 1, 0, 0] B27), .inBlock 0, .code (sub [1, 1, 1, 1, 1] B27)] (by kernel_rfl) ?_
      have p7 := (p7.front 0 _ rfl).drop
      exact Goes.jump 53 [(0, .slice Ax0 x0.length cx0), (1, .int .u64 x1), (6, .slice (Gp G33) (x6 ++ [x1]).length c34), (7, .bool true), (8, .int .i64 x8)] (by kernel_rfl) (ih_tidepoleref13_Add_l2 _ _ h _ _ ((hx.trans z6).trans z7) Ax0 cx0 G33 c34 cs35 p7 ((fx0.ext z6).ext z7) f36)
    · rw [if_neg h25] at h
      have h25' : x28 = false := by simpa using h25
      rw [h25']
      refine Goes.runs 2 [] [.code (sub [1, 1, 1, 1, 0, 1, 0, 0, 1, 0, 0, 1] B27), .inBlock 1, .code (sub [1, 1, 1, 1, 0, 1, 0, 0, 1, 1] B27), .inLoop (sub [1, 1, 1, 1, 0, 1, 0, 0] B27), .inBlock 0, .code (sub [1, 1, 1, 1, 1] B27)] (by kernel_rfl) ?_
      exact Goes.jump 53 [(0, .slice Ax0 x0.length cx0), (1, .int .u64 x1), (6, .slice (Gp Gx6) x6.length cx6), (7, .bool x7), (8, .int .i64 x8)] (by kernel_rfl) (ih_tidepoleref13_Add_l2 _ _ h _ _ hx Ax0 cx0 Gx6 cx6 csx6 p1 fx0 fx6)
  · intro rec_tidepoleref13_Add_l3 ih_tidepoleref13_Add_l3 ⟨x0, x1, x6, x7, x8⟩ r h S1 w1 hx Ax0 cx0 Gx6 cx6 csx6 p1 fx0 fx6 junk
    dsimp only at h
    refine Goes.runs 4 [(33, .slice Ax0 x0.length cx0), (34, .int .i64 x8)] [.inRegion (opsOf (sub [1, 1, 1, 1, 0, 1, 0, 0, 1, 0, 0, 1, 0] B27)) [2, 3, 4, 5], .code (sub [1, 1, 1, 1, 0, 1, 0, 0, 1, 0, 0, 1, 1] B27), .inBlock 1, .code (sub [1, 1, 1, 1, 0, 1, 0, 0, 1, 1] B27), .inLoop (sub [1, 1, 1, 1, 0, 1, 0, 0] B27), .inBlock 0, .code (sub [1, 1, 1, 1, 1] B27)] (by kernel_rfl) ?_
    obtain ⟨g37, h⟩ := guard_some h
    obtain ⟨g38, h⟩ := guard_some h
    refine Op_.ixR 22 (.tmp 33) (.tmp 34) 35 0 35 .i64 x8 fx0 (Goes.vs (by kernel_rfl)) (by kernel_rfl) (by kernel_rfl) (by kernel_rfl) (by kernel_rfl) g37 g38 ?_
    rintro a39 _ f40 rfl
    refine Op_.ld1 35 (.tmp 35) 36 35 a39 (.int .u64 (gi x0 x8)) (Goes.vs (by kernel_rfl)) (by kernel_rfl) (by kernel_rfl) (f40.cell 0 _ rfl) ?_
    refine Goes.runs 3 [(37, .int .u64 x1), (38, .bool (!(decide (gi x0 x8 = x1))))] [.code (sub [1, 1, 1, 1, 0, 1, 0, 0, 1, 0, 0, 1, 1] B27), .inBlock 1, .code (sub [1, 1, 1, 1, 0, 1, 0, 0, 1, 1] B27), .inLoop (sub [1, 1, 1, 1, 0, 1, 0, 0] B27), .inBlock 0, .code (sub [1, 1, 1, 1, 1] B27)] (by kernel_rfl) ?_
    by_cases h41 : gi x0 x8 = x1
    · rw [if_pos h41] at h
      rw [decide_eq_true h41]
      refine Goes.runs 2 [] [.inBlock 1, .code (sub [1, 1, 1, 1, 0, 1, 0, 0, 1, 1] B27), .inLoop (sub [1, 1, 1, 1, 0, 1, 0, 0] B27), .inBlock 0, .code (sub [1, 1, 1, 1, 1] B27)] (by kernel_rfl) ?_
      exact Goes.jump 53 [(0, .slice Ax0 x0.length cx0), (1, .int .u64 x1), (6, .slice (Gp Gx6) x6.length cx6), (7, .bool x7), (8, .int .i64 x8)] (by kernel_rfl) (ih_tidepoleref13_Add_l3 _ _ h _ _ hx Ax0 cx0 Gx6 cx6 csx6 p1 fx0 fx6)
    · rw [if_neg h41] at h
      rw [decide_eq_false h41]
      refine Goes.runs 5 [(39, .slice (Gp Gx6) x6.length cx6), (40, .slice Ax0 x0.length cx0), (41, .int .i64 x8)] [.inRegion (opsOf (sub [1, 1, 1, 1, 0, 1, 0, 0, 1, 0, 0, 1, 1, 0] B27)) [3, 4, 5, 6, 7], .inBlock 1, .code (sub [1, 1, 1, 1, 0, 1, 0, 0, 1, 1] B27), .inLoop (sub [1, 1, 1, 1, 0, 1, 0, 0] B27), .inBlock 0, .code (sub [1, 1, 1, 1, 1] B27)] (by kernel_rfl) ?_
      refine Op_.ixR 22 (.tmp 40) (.tmp 41) 42 0 35 .i64 x8 fx0 (Goes.vs (by kernel_rfl)) (by kernel_rfl) (by kernel_rfl) (by kernel_rfl) (by kernel_rfl) g37 g38 ?_
      rintro a42 _ f43 rfl
      refine Op_.ld1 35 (.tmp 42) 43 35 a42 (.int .u64 (gi x0 x8)) (Goes.vs (by kernel_rfl)) (by kernel_rfl) (by kernel_rfl) (f43.cell 0 _ rfl) ?_
      have f45 : Els (kInt .u64) S1 w1 ([.int .u64 (gi x0 x8)] : List Value) [gi x0 x8] := (Els.cons (K := (kInt .u64)) (vs := [.int .u64 (gi x0 x8)]) (x := gi x0 x8) rfl Els.nil)
      refine Op_.made (.buildSlice 22 1 #[(0, (.tmp 43))]) 44 22 (fun b => .slice (Gp (some b)) 1 1) 35 ([.int .u64 (gi x0 x8)] : List Value) p1 (Goes.vs (by kernel_rfl)) (by kernel_rfl) ?_
      intro b44 w8 z8 p8
      have p8 : Hp nz wz S1 w8 (((some b44), .row 35 ([.int .u64 (gi x0 x8)] : List Value) (1 * (kInt .u64).size) 0) :: (Gx6, .row 35 csx6 (cx6 * (kInt .u64).size) 0) :: Lr) := p8
      obtain ⟨g50, h⟩ := guard_some h
      refine Op_.ap (K := (kInt .u64)) 22 (.tmp 39) (.tmp 44) 45 22 35 1 (.int .u64 0) 8 cx6 x6 [gi x0 x8] (Gp (some b44)) 1 p8 rfl (fx6.ext z8) (Goes.vs (by kernel_rfl)) (by kernel_rfl) (by kernel_rfl) (by kernel_rfl) (by kernel_rfl) rfl (by decide) (f45.ext z8) (src_own p8 (q := 0) rfl) (by have := g50; omega) (by have := g50; omega) ?_
      intro w9 G51 c52 cs53 z9 p9 f54
      refine Goes.runs 2 [(6, .slice (Gp G51) (x6 ++ [gi x0 x8]).length c52)] [.inBlock 1, .code (sub [1, 1, 1, 1, 0, 1, 0, 0, 1, 1] B27), .inLoop (sub [1, 1, 1, 1, 0, 1, 0, 0] B27), .inBlock 0, .code (sub [1, 1, 1, 1, 1] B27)] (by kernel_rfl) ?_
      have p9 := (p9.front 0 _ rfl).drop
      exact Goes.jump 53 [(0, .slice Ax0 x0.length cx0), (1, .int .u64 x1), (6, .slice (Gp G51) (x6 ++ [gi x0 x8]).length c52), (7, .bool x7), (8, .int .i64 x8)] (by kernel_rfl) (ih_tidepoleref13_Add_l3 _ _ h _ _ ((hx.trans z8).trans z9) Ax0 cx0 G51 c52 cs53 p9 ((fx0.ext z8).ext z9) f54)
  · intro rec_tidepoleref13_Add_l0 ih_tidepoleref13_Add_l0 ⟨x0, x1, x6, x7, x8⟩ r h S1 w1 hx Ax0 cx0 Gx6 cx6 csx6 p1 fx0 fx6 junk
    dsimp only at h
    refine Goes.runs 7 [(17, .int .i64 x8), (18, .int .i64 (wr .i64 (x8 + 1))), (8, .int .i64 (wr .i64 (x8 + 1)))] [.code (sub [1, 1, 1, 1, 0, 1, 0, 0] B27), .inLoop (sub [1, 1, 1, 1, 0, 1, 0, 0] B27), .inBlock 0, .code (sub [1, 1, 1, 1, 1] B27)] (by kernel_rfl) ?_
    exact Goes.jump 53 [(0, .slice Ax0 x0.length cx0), (1, .int .u64 x1), (6, .slice (Gp Gx6) x6.length cx6), (7, .bool x7), (8, .int .i64 (wr .i64 (x8 + 1)))] (by kernel_rfl) (ih_tidepoleref13_Add_l0 _ _ h _ _ hx Ax0 cx0 Gx6 cx6 csx6 p1 fx0 fx6)

theorem W.tidepoleref13_Add_l0 (nz : Nat) (wz : World) (S0 : Fz) (w0 : World) (Lr : List Ent) : ∀ a r, M.tidepoleref13_Add_l0 a = some r → L.tidepoleref13_Add_l0 nz wz S0 w0 Lr a r := (W.tidepoleref13_Add_l0_all nz wz S0 w0 Lr).1

theorem W.tidepoleref13_Add_l1 (nz : Nat) (wz : World) (S0 : Fz) (w0 : World) (Lr : List Ent) : ∀ a r, M.tidepoleref13_Add_l1 a = some r → L.tidepoleref13_Add_l1 nz wz S0 w0 Lr a r := (W.tidepoleref13_Add_l0_all nz wz S0 w0 Lr).2.1

theorem W.tidepoleref13_Add_l2 (nz : Nat) (wz : World) (S0 : Fz) (w0 : World) (Lr : List Ent) : ∀ a r, M.tidepoleref13_Add_l2 a = some r → L.tidepoleref13_Add_l2 nz wz S0 w0 Lr a r := (W.tidepoleref13_Add_l0_all nz wz S0 w0 Lr).2.2.1

theorem W.tidepoleref13_Add_l3 (nz : Nat) (wz : World) (S0 : Fz) (w0 : World) (Lr : List Ent) : ∀ a r, M.tidepoleref13_Add_l3 a = some r → L.tidepoleref13_Add_l3 nz wz S0 w0 Lr a r := (W.tidepoleref13_Add_l0_all nz wz S0 w0 Lr).2.2.2

theorem W.tidepoleref13_Add (x0 : List Int) (x1 : Int) (r : (List Int) × Int) (h : M.tidepoleref13_Add x0 x1 = some r) (nz : Nat) (wz : World) (S0 : Fz) (w0 : World) (Lr : List Ent) (Ax0 : Option Addr) (cx0 : Nat) (p0 : Hp nz wz S0 w0 (Lr)) (fx0 : Rd (kInt .u64) S0 w0 Ax0 cx0 x0) :
    Calls Try.prog 27 #[.slice Ax0 x0.length cx0, .int .u64 x1] w0 (Rets (Post.tidepoleref13_Add nz wz S0 w0 Lr r)) := by
  refine calls_of_goes (fn := Try.f27) (c := B27) (by kernel_rfl) (by kernel_rfl) 51 (by kernel_rfl) ?_
  refine Goes.jump 53 [(0, .slice Ax0 x0.length cx0), (1, .int .u64 x1)] (by kernel_rfl) (fun junk => ?_)
  delta M.tidepoleref13_Add at h
  refine Goes.runs 9 [(4, .slice none 0 0), (5, .int .i64 0), (9, .slice Ax0 x0.length cx0)] [.inRegion (opsOf (sub [1, 0, 0] B27)) [1, 2], .code (sub [1, 0, 1] B27), .code (sub [1, 1] B27)] (by kernel_rfl) ?_
  obtain ⟨y1, e2, h⟩ := bind_some h
  try dsimp only at h
  refine Op_.call (.call { callee := .value (.func 24), args := #[(.tmp 9)], argTypes := #[22] }) 10 25 24 #[.slice Ax0 x0.length cx0] (Goes.cs (by kernel_rfl)) (by kernel_rfl) (W.tidepoleref13_Check x0 y1 e2 nz wz S0 w0 (Lr) Ax0 cx0 p0 fx0) ?_
  rintro _ w2 ⟨S2, rfl, z2, p2⟩
  refine Goes.runs 2 [(11, .bool (!(decide (y1 = 0))))] [.code (sub [1, 0, 1] B27), .code (sub [1, 1] B27)] (by kernel_rfl) ?_
  by_cases h3 : y1 = 0
  · rw [if_pos h3] at h
    rw [decide_eq_true h3]
    refine Goes.runs 4 [] [.inRegion (opsOf (sub [1, 1, 0] B27)) [0, 1], .code (sub [1, 1, 1] B27)] (by kernel_rfl) ?_
    have f5 : Els (kInt .u64) S2 w2 ([] : List Value) ([] : List Int) := Els.nil
    refine Op_.made (.buildSlice 22 0 #[]) 12 22 (fun b => .slice (Gp (some b)) 0 0) 35 ([] : List Value) p2 (Goes.vs (by kernel_rfl)) (by kernel_rfl) ?_
    intro b4 w3 z3 p3
    have p3 : Hp nz wz S2 w3 (((some b4), .row 35 ([] : List Value) (0 * (kInt .u64).size) 0) :: Lr) := p3
    refine Goes.runs 13 [(6, .slice (Gp (some b4)) ([] : List Int).length 0), (7, .bool false), (8, .int .i64 0)] [.code (sub [1, 1, 1, 1, 0, 1, 0, 0] B27), .inLoop (sub [1, 1, 1, 1, 0, 1, 0, 0] B27), .inBlock 0, .code (sub [1, 1, 1, 1, 1] B27)] (by kernel_rfl) ?_
    exact Goes.jump 53 [(0, .slice Ax0 x0.length cx0), (1, .int .u64 x1), (6, .slice (Gp (some b4)) ([] : List Int).length 0), (7, .bool false), (8, .int .i64 0)] (by kernel_rfl) (W.tidepoleref13_Add_l0 nz wz S0 w0 Lr _ _ h _ _ (((Ext.refl S0 w0).trans z2).trans z3) Ax0 cx0 (some b4) 0 ([] : List Value) p3 ((fx0.ext z2).ext z3) (f5.ext z3))
  · rw [if_neg h3] at h
    rw [decide_eq_false h3]
    refine Goes.runs 6 [(4, .slice none 0 0), (5, .int .i64 2)] [.code (sub [1, 0, 1, 0, 1] B27), .code (sub [1, 1] B27)] (by kernel_rfl) ?_
    have p2 : Hp nz wz S2 w2 ((none, .row 35 [] (0 * (kInt .u64).size) 0) :: Lr) := p2.nilRow' 35
    obtain rfl := Option.some.inj h
    exact Goes.ret (fn := Try.f27) (by kernel_rfl) (v := .tuple #[.slice (Gp none) ([] : List Int).length 0, .int .i64 2]) (by kernel_rfl) ⟨S2, none, 0, [], rfl, ((Ext.refl S0 w0).trans z2), p2, (Els.nil : Els (kInt .u64) S2 w2 [] [])⟩

/-! tidepole/tidepoleref13.Or -/
def Post.tidepoleref13_Or (nz : Nat) (wz : World) (S0 : Fz) (w0 : World) (Lr : List Ent) (r : (List Int) × Int) (v : Value) (w' : World) : Prop :=
  ∃ (S' : Fz) (G1 : Option Nat) (c2 : Nat) (cs3 : List Value), v = .tuple #[.slice (Gp G1) r.1.length c2, .int .i64 r.2] ∧ Ext S0 w0 S' w' ∧ Hp nz wz S' w' ((G1, .row 35 cs3 (c2 * (kInt .u64).size) 0) :: Lr) ∧ Els (kInt .u64) S' w' cs3 r.1

def L.tidepoleref13_Or_l0 (nz : Nat) (wz : World) (S0 : Fz) (w0 : World) (Lr : List Ent) : List (List Int) × List Int × Int → ((List Int) × Int) → Prop := fun ⟨x0, x5, x6⟩ r => ∀ S1 w1, Ext S0 w0 S1 w1 → ∀ (Ax0 : Option Addr) (cx0 : Nat) (Gx5 : Option Nat) (cx5 : Nat) (csx5 : List Value) (_ : Hp nz wz S1 w1 ((Gx5, .row 35 csx5 (cx5 * (kInt .u64).size) 0) :: Lr)) (_ : Rd (kSl (kInt .u64)) S1 w1 Ax0 cx0 x0) (_ : Els (kInt .u64) S1 w1 csx5 x5) (junk : Nat → Value),
  Goes Try.prog (base 22) [.code (sub [1, 1, 1, 0, 1, 0, 0] B22), .inLoop (sub [1, 1, 1, 0, 1, 0, 0] B22), .inBlock 0, .code (sub [1, 1, 1, 1] B22)] ⟨lfr 42 [(0, .slice Ax0 x0.length cx0), (5, .slice (Gp Gx5) x5.length cx5), (6, .int .i64 x6)] junk, []⟩ w1 (Done Try.prog 22 (Rets (Post.tidepoleref13_Or nz wz S0 w0 Lr r)))

def L.tidepoleref13_Or_l1 (nz : Nat) (wz : World) (S0 : Fz) (w0 : World) (Lr : List Ent) : List (List Int) × List Int × Int × Int → ((List Int) × Int) → Prop := fun ⟨x0, x5, x6, x7⟩ r => ∀ S1 w1, Ext S0 w0 S1 w1 → ∀ (Ax0 : Option Addr) (cx0 : Nat) (Gx5 : Option Nat) (cx5 : Nat) (csx5 : List Value) (_ : Hp nz wz S1 w1 ((Gx5, .row 35 csx5 (cx5 * (kInt .u64).size) 0) :: Lr)) (_ : Rd (kSl (kInt .u64)) S1 w1 Ax0 cx0 x0) (_ : Els (kInt .u64) S1 w1 csx5 x5) (junk : Nat → Value),
  Goes Try.prog (base 22) [.code (sub [1, 1, 1, 0, 1, 0, 0, 1, 0, 0, 1, 0, 0] B22), .inLoop (sub [1, 1, 1, 0, 1, 0, 0, 1, 0, 0, 1, 0, 0] B22), .inBlock 2, .inBlock 1, .code (sub [1, 1, 1, 0, 1, 0, 0, 1, 1] B22), .inLoop (sub [1, 1, 1, 0, 1, 0, 0] B22), .inBlock 0, .code (sub [1, 1, 1, 1] B22)] ⟨lfr 42 [(0, .slice Ax0 x0.length cx0), (5, .slice (Gp Gx5) x5.length cx5), (6, .int .i64 x6), (7, .int .i64 x7)] junk, []⟩ w1 (Done Try.prog 22 (Rets (Post.tidepoleref13_Or nz wz S0 w0 Lr r)))

theorem W.tidepoleref13_Or_l0_all (nz : Nat) (wz : World) (S0 : Fz) (w0 : World) (Lr : List Ent) : (∀ a r, M.tidepoleref13_Or_l0 a = some r → L.tidepoleref13_Or_l0 nz wz S0 w0 Lr a r) ∧ (∀ a r, M.tidepoleref13_Or_l1 a = some r → L.tidepoleref13_Or_l1 nz wz S0 w0 Lr a r) := by
  refine M.tidepoleref13_Or_l0.mutual_partial_correctness (L.tidepoleref13_Or_l0 nz wz S0 w0 Lr) (L.tidepoleref13_Or_l1 nz wz S0 w0 Lr) ?_ ?_
  · intro rec_tidepoleref13_Or_l1 ih_tidepoleref13_Or_l1 ⟨x0, x5, x6⟩ r h S1 w1 hx Ax0 cx0 Gx5 cx5 csx5 p1 fx0 fx5 junk
    dsimp only at h
    refine Goes.runs 8 [(14, .int .i64 x6), (15, .slice Ax0 x0.length cx0), (16, .int .i64 (x0.length : Int)), (17, .bool (decide (x6 < (x0.length : Int))))] [.code (sub [1, 1, 1, 0, 1, 0, 0, 0, 1] B22), .code (sub [1, 1, 1, 0, 1, 0, 0, 1] B22), .inLoop (sub [1, 1, 1, 0, 1, 0, 0] B22), .inBlock 0, .code (sub [1, 1, 1, 1] B22)] (by kernel_rfl) ?_
    by_cases h8 : x6 < (x0.length : Int)
    · rw [if_pos h8] at h
      rw [decide_eq_true h8]
      refine Goes.runs 10 [(7, .int .i64 0)] [.code (sub [1, 1, 1, 0, 1, 0, 0, 1, 0, 0, 1, 0, 0] B22), .inLoop (sub [1, 1, 1, 0, 1, 0, 0, 1, 0, 0, 1, 0, 0] B22), .inBlock 2, .inBlock 1, .code (sub [1, 1, 1, 0, 1, 0, 0, 1, 1] B22), .inLoop (sub [1, 1, 1, 0, 1, 0, 0] B22), .inBlock 0, .code (sub [1, 1, 1, 1] B22)] (by kernel_rfl) ?_
      exact Goes.jump 42 [(0, .slice Ax0 x0.length cx0), (5, .slice (Gp Gx5) x5.length cx5), (6, .int .i64 x6), (7, .int .i64 0)] (by kernel_rfl) (ih_tidepoleref13_Or_l1 _ _ h _ _ hx Ax0 cx0 Gx5 cx5 csx5 p1 fx0 fx5)
    · rw [if_neg h8] at h
      rw [decide_eq_false h8]
      refine Goes.runs 8 [(41, .slice (Gp Gx5) x5.length cx5), (2, .slice (Gp Gx5) x5.length cx5), (3, .int .i64 0)] [.code (sub [1, 1, 1, 1, 1] B22)] (by kernel_rfl) ?_
      obtain rfl := Option.some.inj h
      exact Goes.ret (fn := Try.f22) (by kernel_rfl) (v := .tuple #[.slice (Gp Gx5) x5.length cx5, .int .i64 0]) (by kernel_rfl) ⟨S1, Gx5, cx5, csx5, rfl, hx, p1, fx5⟩
  · intro rec_tidepoleref13_Or_l0 rec_tidepoleref13_Or_l1 ih_tidepoleref13_Or_l0 ih_tidepoleref13_Or_l1 ⟨x0, x5, x6, x7⟩ r h S1 w1 hx Ax0 cx0 Gx5 cx5 csx5 p1 fx0 fx5 junk
    dsimp only at h
    refine Goes.runs 6 [(20, .int .i64 x7), (21, .slice Ax0 x0.length cx0), (22, .int .i64 x6)] [.inRegion (opsOf (sub [1, 1, 1, 0, 1, 0, 0, 1, 0, 0, 1, 0, 0, 0, 0] B22)) [3, 4, 5, 6], .code (sub [1, 1, 1, 0, 1, 0, 0, 1, 0, 0, 1, 0, 0, 0, 1] B22), .code (sub [1, 1, 1, 0, 1, 0, 0, 1, 0, 0, 1, 0, 0, 1] B22), .inLoop (sub [1, 1, 1, 0, 1, 0, 0, 1, 0, 0, 1, 0, 0] B22), .inBlock 2, .inBlock 1, .code (sub [1, 1, 1, 0, 1, 0, 0, 1, 1] B22), .inLoop (sub [1, 1, 1, 0, 1, 0, 0] B22), .inBlock 0, .code (sub [1, 1, 1, 1] B22)] (by kernel_rfl) ?_
    obtain ⟨g9, h⟩ := guard_some h
    obtain ⟨g10, h⟩ := guard_some h
    refine Op_.ixR 38 (.tmp 21) (.tmp 22) 23 0 22 .i64 x6 fx0 (Goes.vs (by kernel_rfl)) (by kernel_rfl) (by kernel_rfl) (by kernel_rfl) (by kernel_rfl) g9 g10 ?_
    rintro a11 _ f12 ⟨A13, c14, rfl, f15⟩
    refine Op_.ld1 22 (.tmp 23) 24 22 a11 (.slice A13 (gi x0 x6).length c14) (Goes.vs (by kernel_rfl)) (by kernel_rfl) (by kernel_rfl) (f12.cell 0 _ rfl) ?_
    refine Goes.runs 3 [(25, .int .i64 ((gi x0 x6).length : Int)), (26, .bool (decide (x7 < ((gi x0 x6).length : Int))))] [.code (sub [1, 1, 1, 0, 1, 0, 0, 1, 0, 0, 1, 0, 0, 0, 1] B22), .code (sub [1, 1, 1, 0, 1, 0, 0, 1, 0, 0, 1, 0, 0, 1] B22), .inLoop (sub [1, 1, 1, 0, 1, 0, 0, 1, 0, 0, 1, 0, 0] B22), .inBlock 2, .inBlock 1, .code (sub [1, 1, 1, 0, 1, 0, 0, 1, 1] B22), .inLoop (sub [1, 1, 1, 0, 1, 0, 0] B22), .inBlock 0, .code (sub [1, 1, 1, 1] B22)] (by kernel_rfl) ?_
    by_cases h16 : x7 < ((gi x0 x6).length : Int)
    · rw [if_pos h16] at h
      rw [decide_eq_true h16]
      refine Goes.runs 8 [(30, .slice (Gp Gx5) x5.length cx5), (31, .slice Ax0 x0.length cx0), (32, .int .i64 x6)] [.inRegion (opsOf (sub [1, 1, 1, 0, 1, 0, 0, 1, 0, 0, 1, 0, 0, 1, 0, 0] B22)) [3, 4, 5, 6, 7, 8, 9, 10, 11, 12], .inBlock 3, .code (sub [1, 1, 1, 0, 1, 0, 0, 1, 0, 0, 1, 0, 0, 1, 1] B22), .inLoop (sub [1, 1, 1, 0, 1, 0, 0, 1, 0, 0, 1, 0, 0] B22), .inBlock 2, .inBlock 1, .code (sub [1, 1, 1, 0, 1, 0, 0, 1, 1] B22), .inLoop (sub [1, 1, 1, 0, 1, 0, 0] B22), .inBlock 0, .code (sub [1, 1, 1, 1] B22)] (by kernel_rfl) ?_
      refine Op_.ixR 38 (.tmp 31) (.tmp 32) 33 0 22 .i64 x6 fx0 (Goes.vs (by kernel_rfl)) (by kernel_rfl) (by kernel_rfl) (by kernel_rfl) (by kernel_rfl) g9 g10 ?_
      rintro a17 _ f18 ⟨A19, c20, rfl, f21⟩
      refine Op_.ld1 22 (.tmp 33) 34 22 a17 (.slice A19 (gi x0 x6).length c20) (Goes.vs (by kernel_rfl)) (by kernel_rfl) (by kernel_rfl) (f18.cell 0 _ rfl) ?_
      refine Goes.runs 1 [(35, .int .i64 x7)] [.inRegion (opsOf (sub [1, 1, 1, 0, 1, 0, 0, 1, 0, 0, 1, 0, 0, 1, 0, 0] B22)) [6, 7, 8, 9, 10, 11, 12], .inBlock 3, .code (sub [1, 1, 1, 0, 1, 0, 0, 1, 0, 0, 1, 0, 0, 1, 1] B22), .inLoop (sub [1, 1, 1, 0, 1, 0, 0, 1, 0, 0, 1, 0, 0] B22), .inBlock 2, .inBlock 1, .code (sub [1, 1, 1, 0, 1, 0, 0, 1, 1] B22), .inLoop (sub [1, 1, 1, 0, 1, 0, 0] B22), .inBlock 0, .code (sub [1, 1, 1, 1] B22)] (by kernel_rfl) ?_
      obtain ⟨g22, h⟩ := guard_some h
      refine Op_.ixR 22 (.tmp 34) (.tmp 35) 36 0 35 .i64 x7 f21 (Goes.vs (by kernel_rfl)) (by kernel_rfl) (by kernel_rfl) (by kernel_rfl) (by kernel_rfl) g22 h16 ?_
      rintro a23 _ f24 rfl
      refine Op_.ld1 35 (.tmp 36) 37 35 a23 (.int .u64 (gi (gi x0 x6) x7)) (Goes.vs (by kernel_rfl)) (by kernel_rfl) (by kernel_rfl) (f24.cell 0 _ rfl) ?_
      obtain ⟨S4, z4, p4, f25⟩ := p1.freezeRd 0 rfl fx5 (by decide)
      obtain ⟨y26, e27, h⟩ := bind_some h
      try dsimp only at h
      refine Op_.call (.call { callee := .value (.func 27), args := #[(.tmp 30), (.tmp 37)], argTypes := #[22, 35] }) 38 26 27 #[.slice (Gp Gx5) x5.length cx5, .int .u64 (gi (gi x0 x6) x7)] (Goes.cs (by kernel_rfl)) (by kernel_rfl) (W.tidepoleref13_Add x5 (gi (gi x0 x6) x7) y26 e27 nz wz S4 w1 ((Gx5, .row 35 csx5 (cx5 * (kInt .u64).size) csx5.length) :: Lr) (Gp Gx5) cx5 p4 f25) ?_
      rintro _ w5 ⟨S5, G28, c29, cs30, rfl, z5, p5, f32⟩
      have p5 := (p5.front 1 _ rfl).drop
      refine Goes.runs 12 [(29, .tuple #[.slice (Gp G28) y26.1.length c29, .int .i64 y26.2]), (39, .slice (Gp G28) y26.1.length c29), (40, .int .i64 y26.2), (5, .slice (Gp G28) y26.1.length c29), (27, .int .i64 x7), (28, .int .i64 (wr .i64 (x7 + 1))), (7, .int .i64 (wr .i64 (x7 + 1)))] [.code (sub [1, 1, 1, 0, 1, 0, 0, 1, 0, 0, 1, 0, 0] B22), .inLoop (sub [1, 1, 1, 0, 1, 0, 0, 1, 0, 0, 1, 0, 0] B22), .inBlock 2, .inBlock 1, .code (sub [1, 1, 1, 0, 1, 0, 0, 1, 1] B22), .inLoop (sub [1, 1, 1, 0, 1, 0, 0] B22), .inBlock 0, .code (sub [1, 1, 1, 1] B22)] (by kernel_rfl) ?_
      exact Goes.jump 42 [(0, .slice Ax0 x0.length cx0), (5, .slice (Gp G28) y26.1.length c29), (6, .int .i64 x6), (7, .int .i64 (wr .i64 (x7 + 1)))] (by kernel_rfl) (ih_tidepoleref13_Or_l1 _ _ h _ _ ((hx.trans z4).trans z5) Ax0 cx0 G28 c29 cs30 p5 ((fx0.ext z4).ext z5) f32)
    · rw [if_neg h16] at h
      rw [decide_eq_false h16]
      refine Goes.runs 9 [(18, .int .i64 x6), (19, .int .i64 (wr .i64 (x6 + 1))), (6, .int .i64 (wr .i64 (x6 + 1)))] [.code (sub [1, 1, 1, 0, 1, 0, 0] B22), .inLoop (sub [1, 1, 1, 0, 1, 0, 0] B22), .inBlock 0, .code (sub [1, 1, 1, 1] B22)] (by kernel_rfl) ?_
      exact Goes.jump 42 [(0, .slice Ax0 x0.length cx0), (5, .slice (Gp Gx5) x5.length cx5), (6, .int .i64 (wr .i64 (x6 + 1)))] (by kernel_rfl) (ih_tidepoleref13_Or_l0 _ _ h _ _ hx Ax0 cx0 Gx5 cx5 csx5 p1 fx0 fx5)

theorem W.tidepoleref13_Or_l0 (nz : Nat) (wz : World) (S0 : Fz) (w0 : World) (Lr : List Ent) : ∀ a r, M.tidepoleref13_Or_l0 a = some r → L.tidepoleref13_Or_l0 nz wz S0 w0 Lr a r := (W.tidepoleref13_Or_l0_all nz wz S0 w0 Lr).1

theorem W.tidepoleref13_Or_l1 (nz : Nat) (wz : World) (S0 : Fz) (w0 : World) (Lr : List Ent) : ∀ a r, M.tidepoleref13_Or_l1 a = some r → L.tidepoleref13_Or_l1 nz wz S0 w0 Lr a r := (W.tidepoleref13_Or_l0_all nz wz S0 w0 Lr).2

theorem W.tidepoleref13_Or (x0 : List (List Int)) (r : (List Int) × Int) (h : M.tidepoleref13_Or x0 = some r) (nz : Nat) (wz : World) (S0 : Fz) (w0 : World) (Lr : List Ent) (Ax0 : Option Addr) (cx0 : Nat) (p0 : Hp nz wz S0 w0 (Lr)) (fx0 : Rd (kSl (kInt .u64)) S0 w0 Ax0 cx0 x0) :
    Calls Try.prog 22 #[.slice Ax0 x0.length cx0] w0 (Rets (Post.tidepoleref13_Or nz wz S0 w0 Lr r)) := by
  refine calls_of_goes (fn := Try.f22) (c := B22) (by kernel_rfl) (by kernel_rfl) 41 (by kernel_rfl) ?_
  refine Goes.jump 42 [(0, .slice Ax0 x0.length cx0)] (by kernel_rfl) (fun junk => ?_)
  delta M.tidepoleref13_Or at h
  refine Goes.runs 9 [(2, .slice none 0 0), (3, .int .i64 0), (8, .slice Ax0 x0.length cx0)] [.inRegion (opsOf (sub [1, 0, 0] B22)) [1, 2], .code (sub [1, 0, 1] B22), .code (sub [1, 1] B22)] (by kernel_rfl) ?_
  obtain ⟨y1, e2, h⟩ := bind_some h
  try dsimp only at h
  refine Op_.call (.call { callee := .value (.func 48), args := #[(.tmp 8)], argTypes := #[38] }) 9 25 48 #[.slice Ax0 x0.length cx0] (Goes.cs (by kernel_rfl)) (by kernel_rfl) (W.tidepoleref13_all x0 y1 e2 nz wz S0 w0 (Lr) Ax0 cx0 p0 fx0) ?_
  rintro _ w2 ⟨S2, rfl, z2, p2⟩
  refine Goes.runs 7 [(4, .int .i64 y1), (10, .int .i64 y1), (11, .bool (!(decide (y1 = 0))))] [.code (sub [1, 0, 1, 1] B22), .code (sub [1, 1] B22)] (by kernel_rfl) ?_
  by_cases h3 : y1 = 0
  · rw [if_pos h3] at h
    rw [decide_eq_true h3]
    refine Goes.runs 4 [] [.inRegion (opsOf (sub [1, 1, 0] B22)) [0, 1], .code (sub [1, 1, 1] B22)] (by kernel_rfl) ?_
    have f5 : Els (kInt .u64) S2 w2 ([] : List Value) ([] : List Int) := Els.nil
    refine Op_.made (.buildSlice 22 0 #[]) 13 22 (fun b => .slice (Gp (some b)) 0 0) 35 ([] : List Value) p2 (Goes.vs (by kernel_rfl)) (by kernel_rfl) ?_
    intro b4 w3 z3 p3
    have p3 : Hp nz wz S2 w3 (((some b4), .row 35 ([] : List Value) (0 * (kInt .u64).size) 0) :: Lr) := p3
    refine Goes.runs 9 [(5, .slice (Gp (some b4)) ([] : List Int).length 0), (6, .int .i64 0)] [.code (sub [1, 1, 1, 0, 1, 0, 0] B22), .inLoop (sub [1, 1, 1, 0, 1, 0, 0] B22), .inBlock 0, .code (sub [1, 1, 1, 1] B22)] (by kernel_rfl) ?_
    exact Goes.jump 42 [(0, .slice Ax0 x0.length cx0), (5, .slice (Gp (some b4)) ([] : List Int).length 0), (6, .int .i64 0)] (by kernel_rfl) (W.tidepoleref13_Or_l0 nz wz S0 w0 Lr _ _ h _ _ (((Ext.refl S0 w0).trans z2).trans z3) Ax0 cx0 (some b4) 0 ([] : List Value) p3 ((fx0.ext z2).ext z3) (f5.ext z3))
  · rw [if_neg h3] at h
    rw [decide_eq_false h3]
    refine Goes.runs 7 [(12, .int .i64 y1), (2, .slice none 0 0), (3, .int .i64 y1)] [.code (sub [1, 0, 1, 1, 0, 1] B22), .code (sub [1, 1] B22)] (by kernel_rfl) ?_
    have p2 : Hp nz wz S2 w2 ((none, .row 35 [] (0 * (kInt .u64).size) 0) :: Lr) := p2.nilRow' 35
    obtain rfl := Option.some.inj h
    exact Goes.ret (fn := Try.f22) (by kernel_rfl) (v := .tuple #[.slice (Gp none) ([] : List Int).length 0, .int .i64 y1]) (by kernel_rfl) ⟨S2, none, 0, [], rfl, ((Ext.refl S0 w0).trans z2), p2, (Els.nil : Els (kInt .u64) S2 w2 [] [])⟩

/-! tidepole/tidepoleref13.But -/
def Post.tidepoleref13_But (nz : Nat) (wz : World) (S0 : Fz) (w0 : World) (Lr : List Ent) (r : (List Int) × Int) (v : Value) (w' : World) : Prop :=
  ∃ (S' : Fz) (G1 : Option Nat) (c2 : Nat) (cs3 : List Value), v = .tuple #[.slice (Gp G1) r.1.length c2, .int .i64 r.2] ∧ Ext S0 w0 S' w' ∧ Hp nz wz S' w' ((G1, .row 35 cs3 (c2 * (kInt .u64).size) 0) :: Lr) ∧ Els (kInt .u64) S' w' cs3 r.1

def L.tidepoleref13_But_l1 (nz : Nat) (wz : World) (S0 : Fz) (w0 : World) (Lr : List Ent) : List Int × List Int × List Int × Int → ((List Int) × Int) → Prop := fun ⟨x0, x1, x6, x7⟩ r => ∀ S1 w1, Ext S0 w0 S1 w1 → ∀ (Ax0 : Option Addr) (cx0 : Nat) (Ax1 : Option Addr) (cx1 : Nat) (Gx6 : Option Nat) (cx6 : Nat) (csx6 : List Value) (_ : Hp nz wz S1 w1 ((Gx6, .row 35 csx6 (cx6 * (kInt .u64).size) 0) :: Lr)) (_ : Rd (kInt .u64) S1 w1 Ax0 cx0 x0) (_ : Rd (kInt .u64) S1 w1 Ax1 cx1 x1) (_ : Els (kInt .u64) S1 w1 csx6 x6) (junk : Nat → Value),
  Goes Try.prog (base 25) [.code (sub [1, 1, 1, 0, 1, 0, 0] B25), .inLoop (sub [1, 1, 1, 0, 1, 0, 0] B25), .inBlock 0, .code (sub [1, 1, 1, 1] B25)] ⟨lfr 38 [(0, .slice Ax0 x0.length cx0), (1, .slice Ax1 x1.length cx1), (6, .slice (Gp Gx6) x6.length cx6), (7, .int .i64 x7)] junk, []⟩ w1 (Done Try.prog 25 (Rets (Post.tidepoleref13_But nz wz S0 w0 Lr r)))

def L.tidepoleref13_But_l2 (nz : Nat) (wz : World) (S0 : Fz) (w0 : World) (Lr : List Ent) : List Int × List Int × List Int × Int → ((List Int) × Int) → Prop := fun ⟨x0, x1, x6, x7⟩ r => ∀ S1 w1, Ext S0 w0 S1 w1 → ∀ (Ax0 : Option Addr) (cx0 : Nat) (Ax1 : Option Addr) (cx1 : Nat) (Gx6 : Option Nat) (cx6 : Nat) (csx6 : List Value) (_ : Hp nz wz S1 w1 ((Gx6, .row 35 csx6 (cx6 * (kInt .u64).size) 0) :: Lr)) (_ : Rd (kInt .u64) S1 w1 Ax0 cx0 x0) (_ : Rd (kInt .u64) S1 w1 Ax1 cx1 x1) (_ : Els (kInt .u64) S1 w1 csx6 x6) (junk : Nat → Value),
  Goes Try.prog (base 25) [.inBlock 1, .code (sub [1, 1, 1, 0, 1, 0, 0, 1, 1] B25), .inLoop (sub [1, 1, 1, 0, 1, 0, 0] B25), .inBlock 0, .code (sub [1, 1, 1, 1] B25)] ⟨lfr 38 [(0, .slice Ax0 x0.length cx0), (1, .slice Ax1 x1.length cx1), (6, .slice (Gp Gx6) x6.length cx6), (7, .int .i64 x7)] junk, []⟩ w1 (Done Try.prog 25 (Rets (Post.tidepoleref13_But nz wz S0 w0 Lr r)))

theorem W.tidepoleref13_But_l1_all (nz : Nat) (wz : World) (S0 : Fz) (w0 : World) (Lr : List Ent) : (∀ a r, M.tidepoleref13_But_l1 a = some r → L.tidepoleref13_But_l1 nz wz S0 w0 Lr a r) ∧ (∀ a r, M.tidepoleref13_But_l2 a = some r → L.tidepoleref13_But_l2 nz wz S0 w0 Lr a r) := by
  refine M.tidepoleref13_But_l1.mutual_partial_correctness (L.tidepoleref13_But_l1 nz wz S0 w0 Lr) (L.tidepoleref13_But_l2 nz wz S0 w0 Lr) ?_ ?_
  · intro rec_tidepoleref13_But_l2 ih_tidepoleref13_But_l2 ⟨x0, x1, x6, x7⟩ r h S1 w1 hx Ax0 cx0 Ax1 cx1 Gx6 cx6 csx6 p1 fx0 fx1 fx6 junk
    dsimp only at h
    refine Goes.runs 8 [(17, .int .i64 x7), (18, .slice Ax0 x0.length cx0), (19, .int .i64 (x0.length : Int)), (20, .bool (decide (x7 < (x0.length : Int))))] [.code (sub [1, 1, 1, 0, 1, 0, 0, 0, 1] B25), .code (sub [1, 1, 1, 0, 1, 0, 0, 1] B25), .inLoop (sub [1, 1, 1, 0, 1, 0, 0] B25), .inBlock 0, .code (sub [1, 1, 1, 1] B25)] (by kernel_rfl) ?_
    by_cases h11 : x7 < (x0.length : Int)
    · rw [if_pos h11] at h
      rw [decide_eq_true h11]
      refine Goes.runs 9 [(23, .slice Ax1 x1.length cx1), (24, .slice Ax0 x0.length cx0), (25, .int .i64 x7)] [.inRegion (opsOf (sub [1, 1, 1, 0, 1, 0, 0, 1, 0, 0, 0] B25)) [3, 4, 5, 6], .code (sub [1, 1, 1, 0, 1, 0, 0, 1, 0, 0, 1] B25), .inBlock 1, .code (sub [1, 1, 1, 0, 1, 0, 0, 1, 1] B25), .inLoop (sub [1, 1, 1, 0, 1, 0, 0] B25), .inBlock 0, .code (sub [1, 1, 1, 1] B25)] (by kernel_rfl) ?_
      obtain ⟨g12, h⟩ := guard_some h
      refine Op_.ixR 22 (.tmp 24) (.tmp 25) 26 0 35 .i64 x7 fx0 (Goes.vs (by kernel_rfl)) (by kernel_rfl) (by kernel_rfl) (by kernel_rfl) (by kernel_rfl) g12 h11 ?_
      rintro a13 _ f14 rfl
      refine Op_.ld1 35 (.tmp 26) 27 35 a13 (.int .u64 (gi x0 x7)) (Goes.vs (by kernel_rfl)) (by kernel_rfl) (by kernel_rfl) (f14.cell 0 _ rfl) ?_
      obtain ⟨y15, e16, h⟩ := bind_some h
      try dsimp only at h
      refine Op_.call (.call { callee := .value (.func 49), args := #[(.tmp 23), (.tmp 27)], argTypes := #[22, 35] }) 28 4 49 #[.slice Ax1 x1.length cx1, .int .u64 (gi x0 x7)] (Goes.cs (by kernel_rfl)) (by kernel_rfl) (W.tidepoleref13_in x1 (gi x0 x7) y15 e16 nz wz S1 w1 ((Gx6, .row 35 csx6 (cx6 * (kInt .u64).size) 0) :: Lr) Ax1 cx1 p1 fx1) ?_
      rintro _ w5 ⟨S5, rfl, z5, p5⟩
      refine Goes.runs 2 [(29, .bool (!y15))] [.code (sub [1, 1, 1, 0, 1, 0, 0, 1, 0, 0, 1] B25), .inBlock 1, .code (sub [1, 1, 1, 0, 1, 0, 0, 1, 1] B25), .inLoop (sub [1, 1, 1, 0, 1, 0, 0] B25), .inBlock 0, .code (sub [1, 1, 1, 1] B25)] (by kernel_rfl) ?_
      by_cases h17 : y15 = true
      · rw [if_pos h17] at h
        rw [h17]
        refine Goes.runs 2 [] [.inBlock 1, .code (sub [1, 1, 1, 0, 1, 0, 0, 1, 1] B25), .inLoop (sub [1, 1, 1, 0, 1, 0, 0] B25), .inBlock 0, .code (sub [1, 1, 1, 1] B25)] (by kernel_rfl) ?_
        exact Goes.jump 38 [(0, .slice Ax0 x0.length cx0), (1, .slice Ax1 x1.length cx1), (6, .slice (Gp Gx6) x6.length cx6), (7, .int .i64 x7)] (by kernel_rfl) (ih_tidepoleref13_But_l2 _ _ h _ _ (hx.trans z5) Ax0 cx0 Ax1 cx1 Gx6 cx6 csx6 p5 (fx0.ext z5) (fx1.ext z5) (fx6.ext z5))
      · rw [if_neg h17] at h
        have h17' : y15 = false := by simpa using h17
        rw [h17']
        refine Goes.runs 5 [(30, .slice (Gp Gx6) x6.length cx6), (31, .slice Ax0 x0.length cx0), (32, .int .i64 x7)] [.inRegion (opsOf (sub [1, 1, 1, 0, 1, 0, 0, 1, 0, 0, 1, 0] B25)) [3, 4, 5, 6, 7], .inBlock 1, .code (sub [1, 1, 1, 0, 1, 0, 0, 1, 1] B25), .inLoop (sub [1, 1, 1, 0, 1, 0, 0] B25), .inBlock 0, .code (sub [1, 1, 1, 1] B25)] (by kernel_rfl) ?_
        refine Op_.ixR 22 (.tmp 31) (.tmp 32) 33 0 35 .i64 x7 (fx0.ext z5) (Goes.vs (by kernel_rfl)) (by kernel_rfl) (by kernel_rfl) (by kernel_rfl) (by kernel_rfl) g12 h11 ?_
        rintro a18 _ f19 rfl
        refine Op_.ld1 35 (.tmp 33) 34 35 a18 (.int .u64 (gi x0 x7)) (Goes.vs (by kernel_rfl)) (by kernel_rfl) (by kernel_rfl) (f19.cell 0 _ rfl) ?_
        have f21 : Els (kInt .u64) S5 w5 ([.int .u64 (gi x0 x7)] : List Value) [gi x0 x7] := (Els.cons (K := (kInt .u64)) (vs := [.int .u64 (gi x0 x7)]) (x := gi x0 x7) rfl Els.nil)
        refine Op_.made (.buildSlice 22 1 #[(0, (.tmp 34))]) 35 22 (fun b => .slice (Gp (some b)) 1 1) 35 ([.int .u64 (gi x0 x7)] : List Value) p5 (Goes.vs (by kernel_rfl)) (by kernel_rfl) ?_
        intro b20 w6 z6 p6
        have p6 : Hp nz wz S5 w6 (((some b20), .row 35 ([.int .u64 (gi x0 x7)] : List Value) (1 * (kInt .u64).size) 0) :: (Gx6, .row 35 csx6 (cx6 * (kInt .u64).size) 0) :: Lr) := p6
        obtain ⟨g26, h⟩ := guard_some h
        refine Op_.ap (K := (kInt .u64)) 22 (.tmp 30) (.tmp 35) 36 22 35 1 (.int .u64 0) 8 cx6 x6 [gi x0 x7] (Gp (some b20)) 1 p6 rfl ((fx6.ext z5).ext z6) (Goes.vs (by kernel_rfl)) (by kernel_rfl) (by kernel_rfl) (by kernel_rfl) (by kernel_rfl) rfl (by decide) (f21.ext z6) (src_own p6 (q := 0) rfl) (by have := g26; omega) (by have := g26; omega) ?_
        intro w7 G27 c28 cs29 z7 p7 f30
        refine Goes.runs 2 [(6, .slice (Gp G27) (x6 ++ [gi x0 x7]).length c28)] [.inBlock 1, .code (sub [1, 1, 1, 0, 1, 0, 0, 1, 1] B25), .inLoop (sub [1, 1, 1, 0, 1, 0, 0] B25), .inBlock 0, .code (sub [1, 1, 1, 1] B25)] (by kernel_rfl) ?_
        have p7 := (p7.front 0 _ rfl).drop
        exact Goes.jump 38 [(0, .slice Ax0 x0.length cx0), (1, .slice Ax1 x1.length cx1), (6, .slice (Gp G27) (x6 ++ [gi x0 x7]).length c28), (7, .int .i64 x7)] (by kernel_rfl) (ih_tidepoleref13_But_l2 _ _ h _ _ (((hx.trans z5).trans z6).trans z7) Ax0 cx0 Ax1 cx1 G27 c28 cs29 p7 (((fx0.ext z5).ext z6).ext z7) (((fx1.ext z5).ext z6).ext z7) f30)
    · rw [if_neg h11] at h
      rw [decide_eq_false h11]
      refine Goes.runs 8 [(37, .slice (Gp Gx6) x6.length cx6), (4, .slice (Gp Gx6) x6.length cx6), (5, .int .i64 0)] [.code (sub [1, 1, 1, 1, 1] B25)] (by kernel_rfl) ?_
      obtain rfl := Option.some.inj h
      exact Goes.ret (fn := Try.f25) (by kernel_rfl) (v := .tuple #[.slice (Gp Gx6) x6.length cx6, .int .i64 0]) (by kernel_rfl) ⟨S1, Gx6, cx6, csx6, rfl, hx, p1, fx6⟩
  · intro rec_tidepoleref13_But_l1 ih_tidepoleref13_But_l1 ⟨x0, x1, x6, x7⟩ r h S1 w1 hx Ax0 cx0 Ax1 cx1 Gx6 cx6 csx6 p1 fx0 fx1 fx6 junk
    dsimp only at h
    refine Goes.runs 7 [(21, .int .i64 x7), (22, .int .i64 (wr .i64 (x7 + 1))), (7, .int .i64 (wr .i64 (x7 + 1)))] [.code (sub [1, 1, 1, 0, 1, 0, 0] B25), .inLoop (sub [1, 1, 1, 0, 1, 0, 0] B25), .inBlock 0, .code (sub [1, 1, 1, 1] B25)] (by kernel_rfl) ?_
    exact Goes.jump 38 [(0, .slice Ax0 x0.length cx0), (1, .slice Ax1 x1.length cx1), (6, .slice (Gp Gx6) x6.length cx6), (7, .int .i64 (wr .i64 (x7 + 1)))] (by kernel_rfl) (ih_tidepoleref13_But_l1 _ _ h _ _ hx Ax0 cx0 Ax1 cx1 Gx6 cx6 csx6 p1 fx0 fx1 fx6)

theorem W.tidepoleref13_But_l1 (nz : Nat) (wz : World) (S0 : Fz) (w0 : World) (Lr : List Ent) : ∀ a r, M.tidepoleref13_But_l1 a = some r → L.tidepoleref13_But_l1 nz wz S0 w0 Lr a r := (W.tidepoleref13_But_l1_all nz wz S0 w0 Lr).1

theorem W.tidepoleref13_But_l2 (nz : Nat) (wz : World) (S0 : Fz) (w0 : World) (Lr : List Ent) : ∀ a r, M.tidepoleref13_But_l2 a = some r → L.tidepoleref13_But_l2 nz wz S0 w0 Lr a r := (W.tidepoleref13_But_l1_all nz wz S0 w0 Lr).2

def L.tidepoleref13_But_l0 (nz : Nat) (wz : World) (S0 : Fz) (w0 : World) (Lr : List Ent) : List Int × List Int × Bool → ((List Int) × Int) → Prop := fun ⟨x0, x1, x15⟩ r => ∀ S1 w1, Ext S0 w0 S1 w1 → ∀ (Ax0 : Option Addr) (cx0 : Nat) (Ax1 : Option Addr) (cx1 : Nat) (_ : Hp nz wz S1 w1 (Lr)) (_ : Rd (kInt .u64) S1 w1 Ax0 cx0 x0) (_ : Rd (kInt .u64) S1 w1 Ax1 cx1 x1) (junk : Nat → Value),
  Goes Try.prog (base 25) [.code (sub [1, 0, 1] B25), .code (sub [1, 1] B25)] ⟨lfr 38 [(0, .slice Ax0 x0.length cx0), (1, .slice Ax1 x1.length cx1), (15, .bool x15)] junk, []⟩ w1 (Done Try.prog 25 (Rets (Post.tidepoleref13_But nz wz S0 w0 Lr r)))

theorem W.tidepoleref13_But_l0 (nz : Nat) (wz : World) (S0 : Fz) (w0 : World) (Lr : List Ent) : ∀ a r, M.tidepoleref13_But_l0 a = some r → L.tidepoleref13_But_l0 nz wz S0 w0 Lr a r := by
  intro ⟨x0, x1, x15⟩ r h S1 w1 hx Ax0 cx0 Ax1 cx1 p1 fx0 fx1 junk
  rw [M.tidepoleref13_But_l0] at h
  try dsimp only at h
  by_cases h6 : x15 = true
  · rw [if_pos h6] at h
    rw [h6]
    refine Goes.runs 6 [(4, .slice none 0 0), (5, .int .i64 2)] [.code (sub [1, 0, 1, 0, 1] B25), .code (sub [1, 1] B25)] (by kernel_rfl) ?_
    have p1 : Hp nz wz S1 w1 ((none, .row 35 [] (0 * (kInt .u64).size) 0) :: Lr) := p1.nilRow' 35
    obtain rfl := Option.some.inj h
    exact Goes.ret (fn := Try.f25) (by kernel_rfl) (v := .tuple #[.slice (Gp none) ([] : List Int).length 0, .int .i64 2]) (by kernel_rfl) ⟨S1, none, 0, [], rfl, hx, p1, (Els.nil : Els (kInt .u64) S1 w1 [] [])⟩
  · rw [if_neg h6] at h
    have h6' : x15 = false := by simpa using h6
    rw [h6']
    refine Goes.runs 4 [] [.inRegion (opsOf (sub [1, 1, 0] B25)) [0, 1], .code (sub [1, 1, 1] B25)] (by kernel_rfl) ?_
    have f9 : Els (kInt .u64) S1 w1 ([] : List Value) ([] : List Int) := Els.nil
    refine Op_.made (.buildSlice 22 0 #[]) 16 22 (fun b => .slice (Gp (some b)) 0 0) 35 ([] : List Value) p1 (Goes.vs (by kernel_rfl)) (by kernel_rfl) ?_
    intro b8 w4 z4 p4
    have p4 : Hp nz wz S1 w4 (((some b8), .row 35 ([] : List Value) (0 * (kInt .u64).size) 0) :: Lr) := p4
    refine Goes.runs 9 [(6, .slice (Gp (some b8)) ([] : List Int).length 0), (7, .int .i64 0)] [.code (sub [1, 1, 1, 0, 1, 0, 0] B25), .inLoop (sub [1, 1, 1, 0, 1, 0, 0] B25), .inBlock 0, .code (sub [1, 1, 1, 1] B25)] (by kernel_rfl) ?_
    exact Goes.jump 38 [(0, .slice Ax0 x0.length cx0), (1, .slice Ax1 x1.length cx1), (6, .slice (Gp (some b8)) ([] : List Int).length 0), (7, .int .i64 0)] (by kernel_rfl) (W.tidepoleref13_But_l1 nz wz S0 w0 Lr _ _ h _ _ (hx.trans z4) Ax0 cx0 Ax1 cx1 (some b8) 0 ([] : List Value) p4 (fx0.ext z4) (fx1.ext z4) (f9.ext z4))

theorem W.tidepoleref13_But (x0 : List Int) (x1 : List Int) (r : (List Int) × Int) (h : M.tidepoleref13_But x0 x1 = some r) (nz : Nat) (wz : World) (S0 : Fz) (w0 : World) (Lr : List Ent) (Ax0 : Option Addr) (cx0 : Nat) (Ax1 : Option Addr) (cx1 : Nat) (p0 : Hp nz wz S0 w0 (Lr)) (fx0 : Rd (kInt .u64) S0 w0 Ax0 cx0 x0) (fx1 : Rd (kInt .u64) S0 w0 Ax1 cx1 x1) :
    Calls Try.prog 25 #[.slice Ax0 x0.length cx0, .slice Ax1 x1.length cx1] w0 (Rets (Post.tidepoleref13_But nz wz S0 w0 Lr r)) := by
  refine calls_of_goes (fn := Try.f25) (c := B25) (by kernel_rfl) (by kernel_rfl) 36 (by kernel_rfl) ?_
  refine Goes.jump 38 [(0, .slice Ax0 x0.length cx0), (1, .slice Ax1 x1.length cx1)] (by kernel_rfl) (fun junk => ?_)
  delta M.tidepoleref13_But at h
  refine Goes.runs 9 [(4, .slice none 0 0), (5, .int .i64 0), (8, .slice Ax0 x0.length cx0)] [.inRegion (opsOf (sub [1, 0, 0] B25)) [1, 2, 3, 4, 5, 6, 7], .code (sub [1, 0, 1] B25), .code (sub [1, 1] B25)] (by kernel_rfl) ?_
  obtain ⟨y1, e2, h⟩ := bind_some h
  try dsimp only at h
  refine Op_.call (.call { callee := .value (.func 24), args := #[(.tmp 8)], argTypes := #[22] }) 9 25 24 #[.slice Ax0 x0.length cx0] (Goes.cs (by kernel_rfl)) (by kernel_rfl) (W.tidepoleref13_Check x0 y1 e2 nz wz S0 w0 (Lr) Ax0 cx0 p0 fx0) ?_
  rintro _ w2 ⟨S2, rfl, z2, p2⟩
  refine Goes.runs 2 [(10, .bool (!(decide (y1 = 0)))), (11, .bool (!(decide (y1 = 0))))] [.inRegion (opsOf (sub [1, 0, 0] B25)) [4, 5, 6, 7], .code (sub [1, 0, 1] B25), .code (sub [1, 1] B25)] (by kernel_rfl) ?_
  by_cases h3 : y1 = 0
  · rw [if_pos h3] at h
    rw [decide_eq_true h3]
    refine Goes.runs 1 [(12, .slice Ax1 x1.length cx1)] [.inRegion (opsOf (sub [1, 0, 0] B25)) [5, 6, 7], .code (sub [1, 0, 1] B25), .code (sub [1, 1] B25)] (by kernel_rfl) ?_
    obtain ⟨y4, e5, h⟩ := bind_some h
    try dsimp only at h
    refine Op_.call (.call { callee := .value (.func 24), args := #[(.tmp 12)], argTypes := #[22] }) 13 25 24 #[.slice Ax1 x1.length cx1] (Goes.cs (by kernel_rfl)) (by kernel_rfl) (W.tidepoleref13_Check x1 y4 e5 nz wz S2 w2 (Lr) Ax1 cx1 p2 (fx1.ext z2)) ?_
    rintro _ w3 ⟨S3, rfl, z3, p3⟩
    refine Goes.runs 3 [(14, .bool (!(decide (y4 = 0)))), (15, .bool (!(decide (y4 = 0))))] [.code (sub [1, 0, 1] B25), .code (sub [1, 1] B25)] (by kernel_rfl) ?_
    exact Goes.jump 38 [(0, .slice Ax0 x0.length cx0), (1, .slice Ax1 x1.length cx1), (15, .bool (!(decide (y4 = 0))))] (by kernel_rfl) (W.tidepoleref13_But_l0 nz wz S0 w0 Lr _ _ h _ _ (((Ext.refl S0 w0).trans z2).trans z3) Ax0 cx0 Ax1 cx1 p3 ((fx0.ext z2).ext z3) ((fx1.ext z2).ext z3))
  · rw [if_neg h3] at h
    rw [decide_eq_false h3]
    refine Goes.runs 5 [(12, undef), (13, undef), (14, undef), (15, .bool true)] [.code (sub [1, 0, 1] B25), .code (sub [1, 1] B25)] (by kernel_rfl) ?_
    exact Goes.jump 38 [(0, .slice Ax0 x0.length cx0), (1, .slice Ax1 x1.length cx1), (15, .bool true)] (by kernel_rfl) (W.tidepoleref13_But_l0 nz wz S0 w0 Lr _ _ h _ _ ((Ext.refl S0 w0).trans z2) Ax0 cx0 Ax1 cx1 p2 (fx0.ext z2) (fx1.ext z2))

/-! tidepole/post.Add -/
def Post.post_Add (nz : Nat) (wz : World) (S0 : Fz) (w0 : World) (Lr : List Ent) (r : (List Int) × Int) (v : Value) (w' : World) : Prop :=
  ∃ (S' : Fz) (G1 : Option Nat) (c2 : Nat) (cs3 : List Value), v = .tuple #[.slice (Gp G1) r.1.length c2, .int .i64 r.2] ∧ Ext S0 w0 S' w' ∧ Hp nz wz S' w' ((G1, .row 35 cs3 (c2 * (kInt .u64).size) 0) :: Lr) ∧ Els (kInt .u64) S' w' cs3 r.1

theorem W.post_Add (x0 : List Int) (x1 : Int) (r : (List Int) × Int) (h : M.post_Add x0 x1 = some r) (nz : Nat) (wz : World) (S0 : Fz) (w0 : World) (Lr : List Ent) (Ax0 : Option Addr) (cx0 : Nat) (p0 : Hp nz wz S0 w0 (Lr)) (fx0 : Rd (kInt .u64) S0 w0 Ax0 cx0 x0) :
    Calls Try.prog 26 #[.slice Ax0 x0.length cx0, .int .u64 x1] w0 (Rets (Post.post_Add nz wz S0 w0 Lr r)) := by
  refine calls_of_goes (fn := Try.f26) (c := B26) (by kernel_rfl) (by kernel_rfl) 11 (by kernel_rfl) ?_
  refine Goes.jump 13 [(0, .slice Ax0 x0.length cx0), (1, .int .u64 x1)] (by kernel_rfl) (fun junk => ?_)
  delta M.post_Add at h
  refine Goes.runs 9 [(4, .slice none 0 0), (5, .int .i64 0), (6, .slice Ax0 x0.length cx0), (7, .int .u64 x1)] [.inRegion (opsOf (sub [1, 0] B26)) [2, 3, 4, 5, 6, 7, 8], .code (sub [1, 1] B26)] (by kernel_rfl) ?_
  have f2 : Els (kInt .u64) S0 w0 ([.int .u64 x1] : List Value) [x1] := (Els.cons (K := (kInt .u64)) (vs := [.int .u64 x1]) (x := x1) rfl Els.nil)
  refine Op_.made (.buildSlice 22 1 #[(0, (.tmp 7))]) 8 22 (fun b => .slice (Gp (some b)) 1 1) 35 ([.int .u64 x1] : List Value) p0 (Goes.vs (by kernel_rfl)) (by kernel_rfl) ?_
  intro b1 w2 z2 p2
  have p2 : Hp nz wz S0 w2 (((some b1), .row 35 ([.int .u64 x1] : List Value) (1 * (kInt .u64).size) 0) :: Lr) := p2
  obtain ⟨S3, z3, p3, f4⟩ := p2.freezeRd 0 rfl (f2.ext z2) (by decide)
  have f6 : Els (kSl (kInt .u64)) S3 w2 ([.slice Ax0 x0.length cx0, .slice (Gp (some b1)) [x1].length 1] : List Value) [x0, [x1]] := (Els.cons (K := (kSl (kInt .u64))) (vs := [.slice Ax0 x0.length cx0]) (x := x0) ⟨_, _, rfl, ((fx0.ext z2).ext z3)⟩ (Els.cons (K := (kSl (kInt .u64))) (vs := [.slice (Gp (some b1)) [x1].length 1]) (x := [x1]) ⟨_, _, rfl, f4⟩ Els.nil))
  refine Op_.made (.buildSlice 38 2 #[(0, (.tmp 6)), (1, (.tmp 8))]) 9 38 (fun b => .slice (Gp (some b)) 2 2) 22 ([.slice Ax0 x0.length cx0, .slice (Gp (some b1)) [x1].length 1] : List Value) p3 (Goes.vs (by kernel_rfl)) (by kernel_rfl) ?_
  intro b5 w4 z4 p4
  have p4 : Hp nz wz S3 w4 (((some b5), .row 22 ([.slice Ax0 x0.length cx0, .slice (Gp (some b1)) [x1].length 1] : List Value) (2 * (kSl (kInt .u64)).size) 0) :: ((some b1), .row 35 ([.int .u64 x1] : List Value) (1 * (kInt .u64).size) (([.int .u64 x1] : List Value).length)) :: Lr) := p4
  obtain ⟨S5, z5, p5, f8⟩ := p4.freezeRd 0 rfl (f6.ext z4) (by decide)
  obtain ⟨y9, e10, h⟩ := bind_some h
  try dsimp only at h
  refine Op_.call (.call { callee := .value (.func 20), args := #[(.tmp 9)], argTypes := #[38] }) 10 26 20 #[.slice (Gp (some b5)) [x0, [x1]].length 2] (Goes.cs (by kernel_rfl)) (by kernel_rfl) (W.post_Or [x0, [x1]] y9 e10 nz wz S5 w4 (((some b5), .row 22 ([.slice Ax0 x0.length cx0, .slice (Gp (some b1)) [x1].length 1] : List Value) (2 * (kSl (kInt .u64)).size) (([.slice Ax0 x0.length cx0, .slice (Gp (some b1)) [x1].length 1] : List Value).length)) :: ((some b1), .row 35 ([.int .u64 x1] : List Value) (1 * (kInt .u64).size) (([.int .u64 x1] : List Value).length)) :: Lr) (Gp (some b5)) 2 p5 f8) ?_
  rintro _ w6 ⟨S6, G11, c12, cs13, rfl, z6, p6, f15⟩
  have p6 := (p6.front 1 _ rfl).drop
  have p6 := (p6.front 1 _ rfl).drop
  refine Goes.runs 5 [(11, .slice (Gp G11) y9.1.length c12), (12, .int .i64 y9.2), (4, .slice (Gp G11) y9.1.length c12), (5, .int .i64 y9.2)] [.code (sub [1, 1] B26)] (by kernel_rfl) ?_
  obtain rfl := Option.some.inj h
  exact Goes.ret (fn := Try.f26) (by kernel_rfl) (v := .tuple #[.slice (Gp G11) y9.1.length c12, .int .i64 y9.2]) (by kernel_rfl) ⟨S6, G11, c12, cs13, rfl, ((((((Ext.refl S0 w0).trans z2).trans z3).trans z4).trans z5).trans z6), p6, f15⟩

/-! tidepole/post.Drop -/
def Post.post_Drop (nz : Nat) (wz : World) (S0 : Fz) (w0 : World) (Lr : List Ent) (r : (List Int) × Int) (v : Value) (w' : World) : Prop :=
  ∃ (S' : Fz) (G1 : Option Nat) (c2 : Nat) (cs3 : List Value), v = .tuple #[.slice (Gp G1) r.1.length c2, .int .i64 r.2] ∧ Ext S0 w0 S' w' ∧ Hp nz wz S' w' ((G1, .row 35 cs3 (c2 * (kInt .u64).size) 0) :: Lr) ∧ Els (kInt .u64) S' w' cs3 r.1

theorem W.post_Drop (x0 : List Int) (x1 : Int) (r : (List Int) × Int) (h : M.post_Drop x0 x1 = some r) (nz : Nat) (wz : World) (S0 : Fz) (w0 : World) (Lr : List Ent) (Ax0 : Option Addr) (cx0 : Nat) (p0 : Hp nz wz S0 w0 (Lr)) (fx0 : Rd (kInt .u64) S0 w0 Ax0 cx0 x0) :
    Calls Try.prog 28 #[.slice Ax0 x0.length cx0, .int .u64 x1] w0 (Rets (Post.post_Drop nz wz S0 w0 Lr r)) := by
  refine calls_of_goes (fn := Try.f28) (c := B28) (by kernel_rfl) (by kernel_rfl) 10 (by kernel_rfl) ?_
  refine Goes.jump 12 [(0, .slice Ax0 x0.length cx0), (1, .int .u64 x1)] (by kernel_rfl) (fun junk => ?_)
  delta M.post_Drop at h
  refine Goes.runs 9 [(4, .slice none 0 0), (5, .int .i64 0), (6, .slice Ax0 x0.length cx0), (7, .int .u64 x1)] [.inRegion (opsOf (sub [1, 0] B28)) [2, 3, 4, 5, 6, 7], .code (sub [1, 1] B28)] (by kernel_rfl) ?_
  have f2 : Els (kInt .u64) S0 w0 ([.int .u64 x1] : List Value) [x1] := (Els.cons (K := (kInt .u64)) (vs := [.int .u64 x1]) (x := x1) rfl Els.nil)
  refine Op_.made (.buildSlice 22 1 #[(0, (.tmp 7))]) 8 22 (fun b => .slice (Gp (some b)) 1 1) 35 ([.int .u64 x1] : List Value) p0 (Goes.vs (by kernel_rfl)) (by kernel_rfl) ?_
  intro b1 w2 z2 p2
  have p2 : Hp nz wz S0 w2 (((some b1), .row 35 ([.int .u64 x1] : List Value) (1 * (kInt .u64).size) 0) :: Lr) := p2
  obtain ⟨S3, z3, p3, f4⟩ := p2.freezeRd 0 rfl (f2.ext z2) (by decide)
  obtain ⟨y5, e6, h⟩ := bind_some h
  try dsimp only at h
  refine Op_.call (.call { callee := .value (.func 10), args := #[(.tmp 6), (.tmp 8)], argTypes := #[22, 22] }) 9 26 10 #[.slice Ax0 x0.length cx0, .slice (Gp (some b1)) [x1].length 1] (Goes.cs (by kernel_rfl)) (by kernel_rfl) (W.post_But x0 [x1] y5 e6 nz wz S3 w2 (((some b1), .row 35 ([.int .u64 x1] : List Value) (1 * (kInt .u64).size) (([.int .u64 x1] : List Value).length)) :: Lr) Ax0 cx0 (Gp (some b1)) 1 p3 ((fx0.ext z2).ext z3) f4) ?_
  rintro _ w4 ⟨S4, G7, c8, cs9, rfl, z4, p4, f11⟩
  have p4 := (p4.front 1 _ rfl).drop
  refine Goes.runs 5 [(10, .slice (Gp G7) y5.1.length c8), (11, .int .i64 y5.2), (4, .slice (Gp G7) y5.1.length c8), (5, .int .i64 y5.2)] [.code (sub [1, 1] B28)] (by kernel_rfl) ?_
  obtain rfl := Option.some.inj h
  exact Goes.ret (fn := Try.f28) (by kernel_rfl) (v := .tuple #[.slice (Gp G7) y5.1.length c8, .int .i64 y5.2]) (by kernel_rfl) ⟨S4, G7, c8, cs9, rfl, ((((Ext.refl S0 w0).trans z2).trans z3).trans z4), p4, f11⟩

/-! tidepole/tidepoleref13.Drop -/
def Post.tidepoleref13_Drop (nz : Nat) (wz : World) (S0 : Fz) (w0 : World) (Lr : List Ent) (r : (List Int) × Int) (v : Value) (w' : World) : Prop :=
  ∃ (S' : Fz) (G1 : Option Nat) (c2 : Nat) (cs3 : List Value), v = .tuple #[.slice (Gp G1) r.1.length c2, .int .i64 r.2] ∧ Ext S0 w0 S' w' ∧ Hp nz wz S' w' ((G1, .row 35 cs3 (c2 * (kInt .u64).size) 0) :: Lr) ∧ Els (kInt .u64) S' w' cs3 r.1

theorem W.tidepoleref13_Drop (x0 : List Int) (x1 : Int) (r : (List Int) × Int) (h : M.tidepoleref13_Drop x0 x1 = some r) (nz : Nat) (wz : World) (S0 : Fz) (w0 : World) (Lr : List Ent) (Ax0 : Option Addr) (cx0 : Nat) (p0 : Hp nz wz S0 w0 (Lr)) (fx0 : Rd (kInt .u64) S0 w0 Ax0 cx0 x0) :
    Calls Try.prog 29 #[.slice Ax0 x0.length cx0, .int .u64 x1] w0 (Rets (Post.tidepoleref13_Drop nz wz S0 w0 Lr r)) := by
  refine calls_of_goes (fn := Try.f29) (c := B29) (by kernel_rfl) (by kernel_rfl) 10 (by kernel_rfl) ?_
  refine Goes.jump 12 [(0, .slice Ax0 x0.length cx0), (1, .int .u64 x1)] (by kernel_rfl) (fun junk => ?_)
  delta M.tidepoleref13_Drop at h
  refine Goes.runs 9 [(4, .slice none 0 0), (5, .int .i64 0), (6, .slice Ax0 x0.length cx0), (7, .int .u64 x1)] [.inRegion (opsOf (sub [1, 0] B29)) [2, 3, 4, 5, 6, 7], .code (sub [1, 1] B29)] (by kernel_rfl) ?_
  have f2 : Els (kInt .u64) S0 w0 ([.int .u64 x1] : List Value) [x1] := (Els.cons (K := (kInt .u64)) (vs := [.int .u64 x1]) (x := x1) rfl Els.nil)
  refine Op_.made (.buildSlice 22 1 #[(0, (.tmp 7))]) 8 22 (fun b => .slice (Gp (some b)) 1 1) 35 ([.int .u64 x1] : List Value) p0 (Goes.vs (by kernel_rfl)) (by kernel_rfl) ?_
  intro b1 w2 z2 p2
  have p2 : Hp nz wz S0 w2 (((some b1), .row 35 ([.int .u64 x1] : List Value) (1 * (kInt .u64).size) 0) :: Lr) := p2
  obtain ⟨S3, z3, p3, f4⟩ := p2.freezeRd 0 rfl (f2.ext z2) (by decide)
  obtain ⟨y5, e6, h⟩ := bind_some h
  try dsimp only at h
  refine Op_.call (.call { callee := .value (.func 25), args := #[(.tmp 6), (.tmp 8)], argTypes := #[22, 22] }) 9 26 25 #[.slice Ax0 x0.length cx0, .slice (Gp (some b1)) [x1].length 1] (Goes.cs (by kernel_rfl)) (by kernel_rfl) (W.tidepoleref13_But x0 [x1] y5 e6 nz wz S3 w2 (((some b1), .row 35 ([.int .u64 x1] : List Value) (1 * (kInt .u64).size) (([.int .u64 x1] : List Value).length)) :: Lr) Ax0 cx0 (Gp (some b1)) 1 p3 ((fx0.ext z2).ext z3) f4) ?_
  rintro _ w4 ⟨S4, G7, c8, cs9, rfl, z4, p4, f11⟩
  have p4 := (p4.front 1 _ rfl).drop
  refine Goes.runs 5 [(10, .slice (Gp G7) y5.1.length c8), (11, .int .i64 y5.2), (4, .slice (Gp G7) y5.1.length c8), (5, .int .i64 y5.2)] [.code (sub [1, 1] B29)] (by kernel_rfl) ?_
  obtain rfl := Option.some.inj h
  exact Goes.ret (fn := Try.f29) (by kernel_rfl) (v := .tuple #[.slice (Gp G7) y5.1.length c8, .int .i64 y5.2]) (by kernel_rfl) ⟨S4, G7, c8, cs9, rfl, ((((Ext.refl S0 w0).trans z2).trans z3).trans z4), p4, f11⟩

/-! cmp.isNaN[uint64] -/
def Post.cmp_isNaN_uint64 (nz : Nat) (wz : World) (S0 : Fz) (w0 : World) (Lr : List Ent) (r : Bool) (v : Value) (w' : World) : Prop :=
  ∃ (S' : Fz) , v = .bool r ∧ Ext S0 w0 S' w' ∧ Hp nz wz S' w' (Lr)

theorem W.cmp_isNaN_uint64 (x0 : Int) (r : Bool) (h : M.cmp_isNaN_uint64 x0 = some r) (nz : Nat) (wz : World) (S0 : Fz) (w0 : World) (Lr : List Ent) (p0 : Hp nz wz S0 w0 (Lr)) :
    Calls Try.prog 64 #[.int .u64 x0] w0 (Rets (Post.cmp_isNaN_uint64 nz wz S0 w0 Lr r)) := by
  refine calls_of_goes (fn := Try.f64) (c := B64) (by kernel_rfl) (by kernel_rfl) 5 (by kernel_rfl) ?_
  refine Goes.jump 6 [(0, .int .u64 x0)] (by kernel_rfl) (fun junk => ?_)
  delta M.cmp_isNaN_uint64 at h
  refine Goes.runs 11 [(2, .bool (!(decide (x0 = x0)))), (3, .int .u64 x0), (4, .int .u64 x0), (5, .bool (!(decide (x0 = x0))))] [.code (sub [1, 1] B64)] (by kernel_rfl) ?_
  obtain rfl := Option.some.inj h
  exact Goes.ret (fn := Try.f64) (by kernel_rfl) (v := .bool (!(decide (x0 = x0)))) (by kernel_rfl) ⟨S0, rfl, (Ext.refl S0 w0), p0⟩

/-! cmp.Less[uint64] -/
def Post.cmp_Less_uint64 (nz : Nat) (wz : World) (S0 : Fz) (w0 : World) (Lr : List Ent) (r : Bool) (v : Value) (w' : World) : Prop :=
  ∃ (S' : Fz) , v = .bool r ∧ Ext S0 w0 S' w' ∧ Hp nz wz S' w' (Lr)

theorem W.cmp_Less_uint64 (x0 : Int) (x1 : Int) (r : Bool) (h : M.cmp_Less_uint64 x0 x1 = some r) (nz : Nat) (wz : World) (S0 : Fz) (w0 : World) (Lr : List Ent) (p0 : Hp nz wz S0 w0 (Lr)) :
    Calls Try.prog 59 #[.int .u64 x0, .int .u64 x1] w0 (Rets (Post.cmp_Less_uint64 nz wz S0 w0 Lr r)) := by
  refine calls_of_goes (fn := Try.f59) (c := B59) (by kernel_rfl) (by kernel_rfl) 15 (by kernel_rfl) ?_
  refine Goes.jump 17 [(0, .int .u64 x0), (1, .int .u64 x1)] (by kernel_rfl) (fun junk => ?_)
  delta M.cmp_Less_uint64 at h
  refine Goes.runs 7 [(4, .bool false), (5, .int .u64 x0)] [.inRegion (opsOf (sub [1, 0] B59)) [1, 2, 3, 4, 5, 6, 7, 8, 9, 10, 11, 12], .code (sub [1, 1] B59)] (by kernel_rfl) ?_
  obtain ⟨y1, e2, h⟩ := bind_some h
  try dsimp only at h
  refine Op_.call (.call { callee := .value (.func 64), args := #[(.tmp 5)], argTypes := #[35] }) 6 4 64 #[.int .u64 x0] (Goes.cs (by kernel_rfl)) (by kernel_rfl) (W.cmp_isNaN_uint64 x0 y1 e2 nz wz S0 w0 (Lr)  p0 ) ?_
  rintro _ w2 ⟨S2, rfl, z2, p2⟩
  refine Goes.runs 1 [(7, .bool y1)] [.inRegion (opsOf (sub [1, 0] B59)) [3, 4, 5, 6, 7, 8, 9, 10, 11, 12], .code (sub [1, 1] B59)] (by kernel_rfl) ?_
  by_cases h3 : y1 = true
  · rw [if_pos h3] at h
    rw [h3]
    refine Goes.runs 1 [(8, .int .u64 x1)] [.inRegion (opsOf (sub [1, 0] B59)) [4, 5, 6, 7, 8, 9, 10, 11, 12], .code (sub [1, 1] B59)] (by kernel_rfl) ?_
    obtain ⟨y4, e5, h⟩ := bind_some h
    try dsimp only at h
    refine Op_.call (.call { callee := .value (.func 64), args := #[(.tmp 8)], argTypes := #[35] }) 9 4 64 #[.int .u64 x1] (Goes.cs (by kernel_rfl)) (by kernel_rfl) (W.cmp_isNaN_uint64 x1 y4 e5 nz wz S2 w2 (Lr)  p2 ) ?_
    rintro _ w3 ⟨S3, rfl, z3, p3⟩
    refine Goes.runs 3 [(10, .bool (!y4)), (11, .bool (!y4)), (12, .bool (!y4))] [.inRegion (opsOf (sub [1, 0] B59)) [8, 9, 10, 11, 12], .code (sub [1, 1] B59)] (by kernel_rfl) ?_
    by_cases h6 : y4 = true
    · rw [if_pos h6] at h
      rw [h6]
      refine Goes.runs 6 [(13, .int .u64 x0), (14, .int .u64 x1), (15, .bool (decide (x0 < x1))), (16, .bool (decide (x0 < x1))), (4, .bool (decide (x0 < x1)))] [.code (sub [1, 1] B59)] (by kernel_rfl) ?_
      obtain rfl := Option.some.inj h
      exact Goes.ret (fn := Try.f59) (by kernel_rfl) (v := .bool (decide (x0 < x1))) (by kernel_rfl) ⟨S3, rfl, (((Ext.refl S0 w0).trans z2).trans z3), p3⟩
    · rw [if_neg h6] at h
      have h6' : y4 = false := by simpa using h6
      rw [h6']
      refine Goes.runs 6 [(13, undef), (14, undef), (15, undef), (16, .bool true), (4, .bool true)] [.code (sub [1, 1] B59)] (by kernel_rfl) ?_
      obtain rfl := Option.some.inj h
      exact Goes.ret (fn := Try.f59) (by kernel_rfl) (v := .bool true) (by kernel_rfl) ⟨S3, rfl, (((Ext.refl S0 w0).trans z2).trans z3), p3⟩
  · rw [if_neg h3] at h
    have h3' : y1 = false := by simpa using h3
    rw [h3']
    refine Goes.runs 11 [(8, undef), (9, undef), (10, undef), (11, .bool false), (12, .bool false), (13, .int .u64 x0), (14, .int .u64 x1), (15, .bool (decide (x0 < x1))), (16, .bool (decide (x0 < x1))), (4, .bool (decide (x0 < x1)))] [.code (sub [1, 1] B59)] (by kernel_rfl) ?_
    obtain rfl := Option.some.inj h
    exact Goes.ret (fn := Try.f59) (by kernel_rfl) (v := .bool (decide (x0 < x1))) (by kernel_rfl) ⟨S2, rfl, ((Ext.refl S0 w0).trans z2), p2⟩

/-! slices.isNaN[uint64] -/
def Post.slices_isNaN_uint64 (nz : Nat) (wz : World) (S0 : Fz) (w0 : World) (Lr : List Ent) (r : Bool) (v : Value) (w' : World) : Prop :=
  ∃ (S' : Fz) , v = .bool r ∧ Ext S0 w0 S' w' ∧ Hp nz wz S' w' (Lr)

theorem W.slices_isNaN_uint64 (x0 : Int) (r : Bool) (h : M.slices_isNaN_uint64 x0 = some r) (nz : Nat) (wz : World) (S0 : Fz) (w0 : World) (Lr : List Ent) (p0 : Hp nz wz S0 w0 (Lr)) :
    Calls Try.prog 60 #[.int .u64 x0] w0 (Rets (Post.slices_isNaN_uint64 nz wz S0 w0 Lr r)) := by
  refine calls_of_goes (fn := Try.f60) (c := B60) (by kernel_rfl) (by kernel_rfl) 5 (by kernel_rfl) ?_
  refine Goes.jump 6 [(0, .int .u64 x0)] (by kernel_rfl) (fun junk => ?_)
  delta M.slices_isNaN_uint64 at h
  refine Goes.runs 11 [(2, .bool (!(decide (x0 = x0)))), (3, .int .u64 x0), (4, .int .u64 x0), (5, .bool (!(decide (x0 = x0))))] [.code (sub [1, 1] B60)] (by kernel_rfl) ?_
  obtain rfl := Option.some.inj h
  exact Goes.ret (fn := Try.f60) (by kernel_rfl) (v := .bool (!(decide (x0 = x0)))) (by kernel_rfl) ⟨S0, rfl, (Ext.refl S0 w0), p0⟩

/-! slices.BinarySearch[[]uint64,uint64] -/
def Post.slices_BinarySearch_uint64_uint64 (nz : Nat) (wz : World) (S0 : Fz) (w0 : World) (Lr : List Ent) (r : Int × Bool) (v : Value) (w' : World) : Prop :=
  ∃ (S' : Fz) , v = .tuple #[.int .i64 r.1, .bool r.2] ∧ Ext S0 w0 S' w' ∧ Hp nz wz S' w' (Lr)

def L.slices_BinarySearch_uint64_uint64_l0 (nz : Nat) (wz : World) (S0 : Fz) (w0 : World) (Lr : List Ent) : List Int × Int × Int × Int × Int → (Int × Bool) → Prop := fun ⟨x0, x1, x6, x7, x8⟩ r => ∀ S1 w1, Ext S0 w0 S1 w1 → ∀ (Ax0 : Option Addr) (cx0 : Nat) (_ : Hp nz wz S1 w1 (Lr)) (_ : Rd (kInt .u64) S1 w1 Ax0 cx0 x0) (junk : Nat → Value),
  Goes Try.prog (base 51) [.code (sub [1, 1, 1, 0, 0, 0] B51), .inLoop (sub [1, 1, 1, 0, 0, 0] B51), .inBlock 0, .code (sub [1, 1, 1, 1] B51)] ⟨lfr 54 [(0, .slice Ax0 x0.length cx0), (1, .int .u64 x1), (6, .int .i64 x6), (7, .int .i64 x7), (8, .int .i64 x8)] junk, []⟩ w1 (Done Try.prog 51 (Rets (Post.slices_BinarySearch_uint64_uint64 nz wz S0 w0 Lr r)))

def L.slices_BinarySearch_uint64_uint64_l1 (nz : Nat) (wz : World) (S0 : Fz) (w0 : World) (Lr : List Ent) : List Int × Int × Int × Int × Int → (Int × Bool) → Prop := fun ⟨x0, x1, x6, x7, x8⟩ r => ∀ S1 w1, Ext S0 w0 S1 w1 → ∀ (Ax0 : Option Addr) (cx0 : Nat) (_ : Hp nz wz S1 w1 (Lr)) (_ : Rd (kInt .u64) S1 w1 Ax0 cx0 x0) (junk : Nat → Value),
  Goes Try.prog (base 51) [.inBlock 1, .inLoop (sub [1, 1, 1, 0, 0, 0] B51), .inBlock 0, .code (sub [1, 1, 1, 1] B51)] ⟨lfr 54 [(0, .slice Ax0 x0.length cx0), (1, .int .u64 x1), (6, .int .i64 x6), (7, .int .i64 x7), (8, .int .i64 x8)] junk, []⟩ w1 (Done Try.prog 51 (Rets (Post.slices_BinarySearch_uint64_uint64 nz wz S0 w0 Lr r)))

theorem W.slices_BinarySearch_uint64_uint64_l0_all (nz : Nat) (wz : World) (S0 : Fz) (w0 : World) (Lr : List Ent) : (∀ a r, M.slices_BinarySearch_uint64_uint64_l0 a = some r → L.slices_BinarySearch_uint64_uint64_l0 nz wz S0 w0 Lr a r) ∧ (∀ a r, M.slices_BinarySearch_uint64_uint64_l1 a = some r → L.slices_BinarySearch_uint64_uint64_l1 nz wz S0 w0 Lr a r) := by
  refine M.slices_BinarySearch_uint64_uint64_l0.mutual_partial_correctness (L.slices_BinarySearch_uint64_uint64_l0 nz wz S0 w0 Lr) (L.slices_BinarySearch_uint64_uint64_l1 nz wz S0 w0 Lr) ?_ ?_
  · intro rec_slices_BinarySearch_uint64_uint64_l1 ih_slices_BinarySearch_uint64_uint64_l1 ⟨x0, x1, x6, x7, x8⟩ r h S1 w1 hx Ax0 cx0 p1 fx0 junk
    dsimp only at h
    refine Goes.runs 7 [(13, .int .i64 x7), (14, .int .i64 x8), (15, .bool (decide (x7 < x8)))] [.code (sub [1, 1, 1, 0, 0, 0, 0, 1] B51), .code (sub [1, 1, 1, 0, 0, 0, 1] B51), .inLoop (sub [1, 1, 1, 0, 0, 0] B51), .inBlock 0, .code (sub [1, 1, 1, 1] B51)] (by kernel_rfl) ?_
    by_cases h1 : x7 < x8
    · rw [if_pos h1] at h
      rw [decide_eq_true h1]
      refine Goes.runs 14 [(16, .int .i64 x7), (17, .int .i64 x8), (18, .int .i64 (wr .i64 (x7 + x8))), (19, .int .u64 (wr .u64 (wr .i64 (x7 + x8)))), (20, .int .u64 (ishr .u64 (wr .u64 (wr .i64 (x7 + x8))) 1)), (21, .int .i64 (wr .i64 (ishr .u64 (wr .u64 (wr .i64 (x7 + x8))) 1))), (9, .int .i64 (wr .i64 (ishr .u64 (wr .u64 (wr .i64 (x7 + x8))) 1)))] [.code (sub [1, 1, 1, 0, 0, 0, 1, 0, 1, 0] B51), .code (sub [1, 1, 1, 0, 0, 0, 1, 0, 1, 1] B51), .inBlock 1, .inLoop (sub [1, 1, 1, 0, 0, 0] B51), .inBlock 0, .code (sub [1, 1, 1, 1] B51)] (by kernel_rfl) ?_
      refine Goes.runs 3 [(22, .slice Ax0 x0.length cx0), (23, .int .i64 (wr .i64 (ishr .u64 (wr .u64 (wr .i64 (x7 + x8))) 1)))] [.inRegion (opsOf (sub [1, 1, 1, 0, 0, 0, 1, 0, 1, 0] B51)) [2, 3, 4, 5], .code (sub [1, 1, 1, 0, 0, 0, 1, 0, 1, 1] B51), .inBlock 1, .inLoop (sub [1, 1, 1, 0, 0, 0] B51), .inBlock 0, .code (sub [1, 1, 1, 1] B51)] (by kernel_rfl) ?_
      obtain ⟨g2, h⟩ := guard_some h
      obtain ⟨g3, h⟩ := guard_some h
      refine Op_.ixR 22 (.tmp 22) (.tmp 23) 24 0 35 .i64 (wr .i64 (ishr .u64 (wr .u64 (wr .i64 (x7 + x8))) 1)) fx0 (Goes.vs (by kernel_rfl)) (by kernel_rfl) (by kernel_rfl) (by kernel_rfl) (by kernel_rfl) g2 g3 ?_
      rintro a4 _ f5 rfl
      refine Op_.ld1 35 (.tmp 24) 25 35 a4 (.int .u64 (gi x0 (wr .i64 (ishr .u64 (wr .u64 (wr .i64 (x7 + x8))) 1)))) (Goes.vs (by kernel_rfl)) (by kernel_rfl) (by kernel_rfl) (f5.cell 0 _ rfl) ?_
      refine Goes.runs 1 [(26, .int .u64 x1)] [.inRegion (opsOf (sub [1, 1, 1, 0, 0, 0, 1, 0, 1, 0] B51)) [5], .code (sub [1, 1, 1, 0, 0, 0, 1, 0, 1, 1] B51), .inBlock 1, .inLoop (sub [1, 1, 1, 0, 0, 0] B51), .inBlock 0, .code (sub [1, 1, 1, 1] B51)] (by kernel_rfl) ?_
      obtain ⟨y6, e7, h⟩ := bind_some h
      try dsimp only at h
      refine Op_.call (.call { callee := .value (.func 59), args := #[(.tmp 25), (.tmp 26)], argTypes := #[35, 35] }) 27 4 59 #[.int .u64 (gi x0 (wr .i64 (ishr .u64 (wr .u64 (wr .i64 (x7 + x8))) 1))), .int .u64 x1] (Goes.cs (by kernel_rfl)) (by kernel_rfl) (W.cmp_Less_uint64 (gi x0 (wr .i64 (ishr .u64 (wr .u64 (wr .i64 (x7 + x8))) 1))) x1 y6 e7 nz wz S1 w1 (Lr)  p1 ) ?_
      rintro _ w2 ⟨S2, rfl, z2, p2⟩
      refine Goes.runs 1 [] [.code (sub [1, 1, 1, 0, 0, 0, 1, 0, 1, 1] B51), .inBlock 1, .inLoop (sub [1, 1, 1, 0, 0, 0] B51), .inBlock 0, .code (sub [1, 1, 1, 1] B51)] (by kernel_rfl) ?_
      by_cases h8 : y6 = true
      · rw [if_pos h8] at h
        rw [h8]
        refine Goes.runs 6 [(28, .int .i64 (wr .i64 (ishr .u64 (wr .u64 (wr .i64 (x7 + x8))) 1))), (29, .int .i64 (wr .i64 ((wr .i64 (ishr .u64 (wr .u64 (wr .i64 (x7 + x8))) 1)) + 1))), (7, .int .i64 (wr .i64 ((wr .i64 (ishr .u64 (wr .u64 (wr .i64 (x7 + x8))) 1)) + 1)))] [.inBlock 1, .inLoop (sub [1, 1, 1, 0, 0, 0] B51), .inBlock 0, .code (sub [1, 1, 1, 1] B51)] (by kernel_rfl) ?_
        exact Goes.jump 54 [(0, .slice Ax0 x0.length cx0), (1, .int .u64 x1), (6, .int .i64 x6), (7, .int .i64 (wr .i64 ((wr .i64 (ishr .u64 (wr .u64 (wr .i64 (x7 + x8))) 1)) + 1))), (8, .int .i64 x8)] (by kernel_rfl) (ih_slices_BinarySearch_uint64_uint64_l1 _ _ h _ _ (hx.trans z2) Ax0 cx0 p2 (fx0.ext z2))
      · rw [if_neg h8] at h
        have h8' : y6 = false := by simpa using h8
        rw [h8']
        refine Goes.runs 5 [(30, .int .i64 (wr .i64 (ishr .u64 (wr .u64 (wr .i64 (x7 + x8))) 1))), (8, .int .i64 (wr .i64 (ishr .u64 (wr .u64 (wr .i64 (x7 + x8))) 1)))] [.inBlock 1, .inLoop (sub [1, 1, 1, 0, 0, 0] B51), .inBlock 0, .code (sub [1, 1, 1, 1] B51)] (by kernel_rfl) ?_
        exact Goes.jump 54 [(0, .slice Ax0 x0.length cx0), (1, .int .u64 x1), (6, .int .i64 x6), (7, .int .i64 x7), (8, .int .i64 (wr .i64 (ishr .u64 (wr .u64 (wr .i64 (x7 + x8))) 1)))] (by kernel_rfl) (ih_slices_BinarySearch_uint64_uint64_l1 _ _ h _ _ (hx.trans z2) Ax0 cx0 p2 (fx0.ext z2))
    · rw [if_neg h1] at h
      rw [decide_eq_false h1]
      refine Goes.runs 9 [(31, .int .i64 x7), (32, .int .i64 x7), (33, .int .i64 x6), (34, .bool (decide (x7 < x6))), (35, .bool (decide (x7 < x6)))] [.inRegion (opsOf (sub [1, 1, 1, 1, 0] B51)) [5, 6, 7, 8, 9, 10, 11, 12, 13, 14, 15, 16, 17, 18, 19, 20, 21, 22, 23, 24], .code (sub [1, 1, 1, 1, 1] B51)] (by kernel_rfl) ?_
      by_cases h9 : x7 < x6
      · rw [if_pos h9] at h
        rw [decide_eq_true h9]
        refine Goes.runs 2 [(36, .slice Ax0 x0.length cx0), (37, .int .i64 x7)] [.inRegion (opsOf (sub [1, 1, 1, 1, 0] B51)) [7, 8, 9, 10, 11, 12, 13, 14, 15, 16, 17, 18, 19, 20, 21, 22, 23, 24], .code (sub [1, 1, 1, 1, 1] B51)] (by kernel_rfl) ?_
        obtain ⟨g10, h⟩ := guard_some h
        obtain ⟨g11, h⟩ := guard_some h
        refine Op_.ixR 22 (.tmp 36) (.tmp 37) 38 0 35 .i64 x7 fx0 (Goes.vs (by kernel_rfl)) (by kernel_rfl) (by kernel_rfl) (by kernel_rfl) (by kernel_rfl) g10 g11 ?_
        rintro a12 _ f13 rfl
        refine Op_.ld1 35 (.tmp 38) 39 35 a12 (.int .u64 (gi x0 x7)) (Goes.vs (by kernel_rfl)) (by kernel_rfl) (by kernel_rfl) (f13.cell 0 _ rfl) ?_
        refine Goes.runs 3 [(40, .int .u64 x1), (41, .bool (decide (gi x0 x7 = x1))), (42, .bool (decide (gi x0 x7 = x1)))] [.inRegion (opsOf (sub [1, 1, 1, 1, 0] B51)) [12, 13, 14, 15, 16, 17, 18, 19, 20, 21, 22, 23, 24], .code (sub [1, 1, 1, 1, 1] B51)] (by kernel_rfl) ?_
        by_cases h14 : gi x0 x7 = x1
        · rw [if_pos h14] at h
          rw [decide_eq_true h14]
          refine Goes.runs 14 [(43, undef), (44, undef), (45, undef), (46, undef), (47, undef), (48, undef), (49, undef), (50, undef), (51, undef), (52, .bool true), (53, .bool true), (4, .int .i64 x7), (5, .bool true)] [.code (sub [1, 1, 1, 1, 1] B51)] (by kernel_rfl) ?_
          obtain rfl := Option.some.inj h
          exact Goes.ret (fn := Try.f51) (by kernel_rfl) (v := .tuple #[.int .i64 x7, .bool true]) (by kernel_rfl) ⟨S1, rfl, hx, p1⟩
        · rw [if_neg h14] at h
          rw [decide_eq_false h14]
          refine Goes.runs 2 [(43, .slice Ax0 x0.length cx0), (44, .int .i64 x7)] [.inRegion (opsOf (sub [1, 1, 1, 1, 0] B51)) [14, 15, 16, 17, 18, 19, 20, 21, 22, 23, 24], .code (sub [1, 1, 1, 1, 1] B51)] (by kernel_rfl) ?_
          refine Op_.ixR 22 (.tmp 43) (.tmp 44) 45 0 35 .i64 x7 fx0 (Goes.vs (by kernel_rfl)) (by kernel_rfl) (by kernel_rfl) (by kernel_rfl) (by kernel_rfl) g10 g11 ?_
          rintro a15 _ f16 rfl
          refine Op_.ld1 35 (.tmp 45) 46 35 a15 (.int .u64 (gi x0 x7)) (Goes.vs (by kernel_rfl)) (by kernel_rfl) (by kernel_rfl) (f16.cell 0 _ rfl) ?_
          obtain ⟨y17, e18, h⟩ := bind_some h
          try dsimp only at h
          refine Op_.call (.call { callee := .value (.func 60), args := #[(.tmp 46)], argTypes := #[35] }) 47 4 60 #[.int .u64 (gi x0 x7)] (Goes.cs (by kernel_rfl)) (by kernel_rfl) (W.slices_isNaN_uint64 (gi x0 x7) y17 e18 nz wz S1 w1 (Lr)  p1 ) ?_
          rintro _ w3 ⟨S3, rfl, z3, p3⟩
          refine Goes.runs 1 [(48, .bool y17)] [.inRegion (opsOf (sub [1, 1, 1, 1, 0] B51)) [18, 19, 20, 21, 22, 23, 24], .code (sub [1, 1, 1, 1, 1] B51)] (by kernel_rfl) ?_
          by_cases h19 : y17 = true
          · rw [if_pos h19] at h
            rw [h19]
            refine Goes.runs 1 [(49, .int .u64 x1)] [.inRegion (opsOf (sub [1, 1, 1, 1, 0] B51)) [19, 20, 21, 22, 23, 24], .code (sub [1, 1, 1, 1, 1] B51)] (by kernel_rfl) ?_
            obtain ⟨y20, e21, h⟩ := bind_some h
            try dsimp only at h
            refine Op_.call (.call { callee := .value (.func 60), args := #[(.tmp 49)], argTypes := #[35] }) 50 4 60 #[.int .u64 x1] (Goes.cs (by kernel_rfl)) (by kernel_rfl) (W.slices_isNaN_uint64 x1 y20 e21 nz wz S3 w3 (Lr)  p3 ) ?_
            rintro _ w4 ⟨S4, rfl, z4, p4⟩
            refine Goes.runs 6 [(51, .bool y20), (52, .bool y20), (53, .bool y20), (4, .int .i64 x7), (5, .bool y20)] [.code (sub [1, 1, 1, 1, 1] B51)] (by kernel_rfl) ?_
            obtain rfl := Option.some.inj h
            exact Goes.ret (fn := Try.f51) (by kernel_rfl) (v := .tuple #[.int .i64 x7, .bool y20]) (by kernel_rfl) ⟨S4, rfl, ((hx.trans z3).trans z4), p4⟩
          · rw [if_neg h19] at h
            have h19' : y17 = false := by simpa using h19
            rw [h19']
            refine Goes.runs 8 [(49, undef), (50, undef), (51, .bool false), (52, .bool false), (53, .bool false), (4, .int .i64 x7), (5, .bool false)] [.code (sub [1, 1, 1, 1, 1] B51)] (by kernel_rfl) ?_
            obtain rfl := Option.some.inj h
            exact Goes.ret (fn := Try.f51) (by kernel_rfl) (v := .tuple #[.int .i64 x7, .bool false]) (by kernel_rfl) ⟨S3, rfl, (hx.trans z3), p3⟩
      · rw [if_neg h9] at h
        rw [decide_eq_false h9]
        refine Goes.runs 14 [(36, undef), (37, undef), (38, undef), (39, undef), (40, undef), (41, undef), (42, undef), (43, undef), (44, undef), (45, undef), (46, undef), (47, undef), (48, undef), (49, undef)] [.inRegion (opsOf (sub [1, 1, 1, 1, 0] B51)) [19, 20, 21, 22, 23, 24], .code (sub [1, 1, 1, 1, 1] B51)] (by kernel_rfl) ?_
        refine Goes.runs 7 [(50, undef), (51, undef), (52, undef), (53, .bool false), (4, .int .i64 x7), (5, .bool false)] [.code (sub [1, 1, 1, 1, 1] B51)] (by kernel_rfl) ?_
        obtain rfl := Option.some.inj h
        exact Goes.ret (fn := Try.f51) (by kernel_rfl) (v := .tuple #[.int .i64 x7, .bool false]) (by kernel_rfl) ⟨S1, rfl, hx, p1⟩
  · intro rec_slices_BinarySearch_uint64_uint64_l0 ih_slices_BinarySearch_uint64_uint64_l0 ⟨x0, x1, x6, x7, x8⟩ r h S1 w1 hx Ax0 cx0 p1 fx0 junk
    dsimp only at h
    refine Goes.runs 2 [] [.code (sub [1, 1, 1, 0, 0, 0] B51), .inLoop (sub [1, 1, 1, 0, 0, 0] B51), .inBlock 0, .code (sub [1, 1, 1, 1] B51)] (by kernel_rfl) ?_
    exact Goes.jump 54 [(0, .slice Ax0 x0.length cx0), (1, .int .u64 x1), (6, .int .i64 x6), (7, .int .i64 x7), (8, .int .i64 x8)] (by kernel_rfl) (ih_slices_BinarySearch_uint64_uint64_l0 _ _ h _ _ hx Ax0 cx0 p1 fx0)

theorem W.slices_BinarySearch_uint64_uint64_l0 (nz : Nat) (wz : World) (S0 : Fz) (w0 : World) (Lr : List Ent) : ∀ a r, M.slices_BinarySearch_uint64_uint64_l0 a = some r → L.slices_BinarySearch_uint64_uint64_l0 nz wz S0 w0 Lr a r := (W.slices_BinarySearch_uint64_uint64_l0_all nz wz S0 w0 Lr).1

theorem W.slices_BinarySearch_uint64_uint64_l1 (nz : Nat) (wz : World) (S0 : Fz) (w0 : World) (Lr : List Ent) : ∀ a r, M.slices_BinarySearch_uint64_uint64_l1 a = some r → L.slices_BinarySearch_uint64_uint64_l1 nz wz S0 w0 Lr a r := (W.slices_BinarySearch_uint64_uint64_l0_all nz wz S0 w0 Lr).2

theorem W.slices_BinarySearch_uint64_uint64 (x0 : List Int) (x1 : Int) (r : Int × Bool) (h : M.slices_BinarySearch_uint64_uint64 x0 x1 = some r) (nz : Nat) (wz : World) (S0 : Fz) (w0 : World) (Lr : List Ent) (Ax0 : Option Addr) (cx0 : Nat) (p0 : Hp nz wz S0 w0 (Lr)) (fx0 : Rd (kInt .u64) S0 w0 Ax0 cx0 x0) :
    Calls Try.prog 51 #[.slice Ax0 x0.length cx0, .int .u64 x1] w0 (Rets (Post.slices_BinarySearch_uint64_uint64 nz wz S0 w0 Lr r)) := by
  refine calls_of_goes (fn := Try.f51) (c := B51) (by kernel_rfl) (by kernel_rfl) 52 (by kernel_rfl) ?_
  refine Goes.jump 54 [(0, .slice Ax0 x0.length cx0), (1, .int .u64 x1)] (by kernel_rfl) (fun junk => ?_)
  delta M.slices_BinarySearch_uint64_uint64 at h
  refine Goes.runs 14 [(4, .int .i64 0), (5, .bool false), (10, .slice Ax0 x0.length cx0), (11, .int .i64 (x0.length : Int)), (6, .int .i64 (x0.length : Int)), (12, .int .i64 (x0.length : Int))] [.inRegion (opsOf (sub [1, 1, 0] B51)) [1, 2], .code (sub [1, 1, 1] B51)] (by kernel_rfl) ?_
  refine Goes.runs 6 [(7, .int .i64 0), (8, .int .i64 (x0.length : Int))] [.code (sub [1, 1, 1, 0, 0, 0] B51), .inLoop (sub [1, 1, 1, 0, 0, 0] B51), .inBlock 0, .code (sub [1, 1, 1, 1] B51)] (by kernel_rfl) ?_
  exact Goes.jump 54 [(0, .slice Ax0 x0.length cx0), (1, .int .u64 x1), (6, .int .i64 (x0.length : Int)), (7, .int .i64 0), (8, .int .i64 (x0.length : Int))] (by kernel_rfl) (W.slices_BinarySearch_uint64_uint64_l0 nz wz S0 w0 Lr _ _ h _ _ (Ext.refl S0 w0) Ax0 cx0 p0 fx0)

/-! tidepole/post.Has -/
def Post.post_Has (nz : Nat) (wz : World) (S0 : Fz) (w0 : World) (Lr : List Ent) (r : Bool × Int) (v : Value) (w' : World) : Prop :=
  ∃ (S' : Fz) , v = .tuple #[.bool r.1, .int .i64 r.2] ∧ Ext S0 w0 S' w' ∧ Hp nz wz S' w' (Lr)

theorem W.post_Has (x0 : List Int) (x1 : Int) (r : Bool × Int) (h : M.post_Has x0 x1 = some r) (nz : Nat) (wz : World) (S0 : Fz) (w0 : World) (Lr : List Ent) (Ax0 : Option Addr) (cx0 : Nat) (p0 : Hp nz wz S0 w0 (Lr)) (fx0 : Rd (kInt .u64) S0 w0 Ax0 cx0 x0) :
    Calls Try.prog 30 #[.slice Ax0 x0.length cx0, .int .u64 x1] w0 (Rets (Post.post_Has nz wz S0 w0 Lr r)) := by
  refine calls_of_goes (fn := Try.f30) (c := B30) (by kernel_rfl) (by kernel_rfl) 19 (by kernel_rfl) ?_
  refine Goes.jump 21 [(0, .slice Ax0 x0.length cx0), (1, .int .u64 x1)] (by kernel_rfl) (fun junk => ?_)
  delta M.post_Has at h
  refine Goes.runs 9 [(4, .bool false), (5, .int .i64 0), (9, .slice Ax0 x0.length cx0)] [.inRegion (opsOf (sub [1, 0, 0] B30)) [1, 2], .code (sub [1, 0, 1] B30), .code (sub [1, 1] B30)] (by kernel_rfl) ?_
  obtain ⟨y1, e2, h⟩ := bind_some h
  try dsimp only at h
  refine Op_.call (.call { callee := .value (.func 23), args := #[(.tmp 9)], argTypes := #[22] }) 10 25 23 #[.slice Ax0 x0.length cx0] (Goes.cs (by kernel_rfl)) (by kernel_rfl) (W.post_Check x0 y1 e2 nz wz S0 w0 (Lr) Ax0 cx0 p0 fx0) ?_
  rintro _ w2 ⟨S2, rfl, z2, p2⟩
  refine Goes.runs 7 [(6, .int .i64 y1), (11, .int .i64 y1), (12, .bool (!(decide (y1 = 0))))] [.code (sub [1, 0, 1, 1] B30), .code (sub [1, 1] B30)] (by kernel_rfl) ?_
  by_cases h3 : y1 = 0
  · rw [if_pos h3] at h
    rw [decide_eq_true h3]
    refine Goes.runs 6 [(15, .slice Ax0 x0.length cx0), (16, .int .u64 x1)] [.inRegion (opsOf (sub [1, 1, 0] B30)) [2, 3, 4, 5, 6, 7], .code (sub [1, 1, 1] B30)] (by kernel_rfl) ?_
    obtain ⟨y4, e5, h⟩ := bind_some h
    try dsimp only at h
    refine Op_.call (.call { callee := .value (.func 51), args := #[(.tmp 15), (.tmp 16)], argTypes := #[22, 35] }) 17 76 51 #[.slice Ax0 x0.length cx0, .int .u64 x1] (Goes.cs (by kernel_rfl)) (by kernel_rfl) (W.slices_BinarySearch_uint64_uint64 x0 x1 y4 e5 nz wz S2 w2 (Lr) Ax0 cx0 p2 (fx0.ext z2)) ?_
    rintro _ w3 ⟨S3, rfl, z3, p3⟩
    refine Goes.runs 12 [(14, .tuple #[.int .i64 y4.1, .bool y4.2]), (18, .int .i64 y4.1), (19, .bool y4.2), (7, .int .i64 y4.1), (8, .bool y4.2), (20, .bool y4.2), (4, .bool y4.2), (5, .int .i64 0)] [.code (sub [1, 1, 1, 1] B30)] (by kernel_rfl) ?_
    obtain rfl := Option.some.inj h
    exact Goes.ret (fn := Try.f30) (by kernel_rfl) (v := .tuple #[.bool y4.2, .int .i64 0]) (by kernel_rfl) ⟨S3, rfl, (((Ext.refl S0 w0).trans z2).trans z3), p3⟩
  · rw [if_neg h3] at h
    rw [decide_eq_false h3]
    refine Goes.runs 7 [(13, .int .i64 y1), (4, .bool false), (5, .int .i64 y1)] [.code (sub [1, 0, 1, 1, 0, 1] B30), .code (sub [1, 1] B30)] (by kernel_rfl) ?_
    obtain rfl := Option.some.inj h
    exact Goes.ret (fn := Try.f30) (by kernel_rfl) (v := .tuple #[.bool false, .int .i64 y1]) (by kernel_rfl) ⟨S2, rfl, ((Ext.refl S0 w0).trans z2), p2⟩

/-! tidepole/tidepoleref13.Has -/
def Post.tidepoleref13_Has (nz : Nat) (wz : World) (S0 : Fz) (w0 : World) (Lr : List Ent) (r : Bool × Int) (v : Value) (w' : World) : Prop :=
  ∃ (S' : Fz) , v = .tuple #[.bool r.1, .int .i64 r.2] ∧ Ext S0 w0 S' w' ∧ Hp nz wz S' w' (Lr)

theorem W.tidepoleref13_Has (x0 : List Int) (x1 : Int) (r : Bool × Int) (h : M.tidepoleref13_Has x0 x1 = some r) (nz : Nat) (wz : World) (S0 : Fz) (w0 : World) (Lr : List Ent) (Ax0 : Option Addr) (cx0 : Nat) (p0 : Hp nz wz S0 w0 (Lr)) (fx0 : Rd (kInt .u64) S0 w0 Ax0 cx0 x0) :
    Calls Try.prog 31 #[.slice Ax0 x0.length cx0, .int .u64 x1] w0 (Rets (Post.tidepoleref13_Has nz wz S0 w0 Lr r)) := by
  refine calls_of_goes (fn := Try.f31) (c := B31) (by kernel_rfl) (by kernel_rfl) 10 (by kernel_rfl) ?_
  refine Goes.jump 12 [(0, .slice Ax0 x0.length cx0), (1, .int .u64 x1)] (by kernel_rfl) (fun junk => ?_)
  delta M.tidepoleref13_Has at h
  refine Goes.runs 9 [(4, .bool false), (5, .int .i64 0), (6, .slice Ax0 x0.length cx0)] [.inRegion (opsOf (sub [1, 0, 0] B31)) [1, 2], .code (sub [1, 0, 1] B31), .code (sub [1, 1] B31)] (by kernel_rfl) ?_
  obtain ⟨y1, e2, h⟩ := bind_some h
  try dsimp only at h
  refine Op_.call (.call { callee := .value (.func 24), args := #[(.tmp 6)], argTypes := #[22] }) 7 25 24 #[.slice Ax0 x0.length cx0] (Goes.cs (by kernel_rfl)) (by kernel_rfl) (W.tidepoleref13_Check x0 y1 e2 nz wz S0 w0 (Lr) Ax0 cx0 p0 fx0) ?_
  rintro _ w2 ⟨S2, rfl, z2, p2⟩
  refine Goes.runs 2 [(8, .bool (!(decide (y1 = 0))))] [.code (sub [1, 0, 1] B31), .code (sub [1, 1] B31)] (by kernel_rfl) ?_
  by_cases h3 : y1 = 0
  · rw [if_pos h3] at h
    rw [decide_eq_true h3]
    refine Goes.runs 6 [(9, .slice Ax0 x0.length cx0), (10, .int .u64 x1)] [.inRegion (opsOf (sub [1, 1, 0] B31)) [2, 3, 4], .code (sub [1, 1, 1] B31)] (by kernel_rfl) ?_
    obtain ⟨y4, e5, h⟩ := bind_some h
    try dsimp only at h
    refine Op_.call (.call { callee := .value (.func 49), args := #[(.tmp 9), (.tmp 10)], argTypes := #[22, 35] }) 11 4 49 #[.slice Ax0 x0.length cx0, .int .u64 x1] (Goes.cs (by kernel_rfl)) (by kernel_rfl) (W.tidepoleref13_in x0 x1 y4 e5 nz wz S2 w2 (Lr) Ax0 cx0 p2 (fx0.ext z2)) ?_
    rintro _ w3 ⟨S3, rfl, z3, p3⟩
    refine Goes.runs 3 [(4, .bool y4), (5, .int .i64 0)] [.code (sub [1, 1, 1] B31)] (by kernel_rfl) ?_
    obtain rfl := Option.some.inj h
    exact Goes.ret (fn := Try.f31) (by kernel_rfl) (v := .tuple #[.bool y4, .int .i64 0]) (by kernel_rfl) ⟨S3, rfl, (((Ext.refl S0 w0).trans z2).trans z3), p3⟩
  · rw [if_neg h3] at h
    rw [decide_eq_false h3]
    refine Goes.runs 6 [(4, .bool false), (5, .int .i64 2)] [.code (sub [1, 0, 1, 0, 1] B31), .code (sub [1, 1] B31)] (by kernel_rfl) ?_
    obtain rfl := Option.some.inj h
    exact Goes.ret (fn := Try.f31) (by kernel_rfl) (v := .tuple #[.bool false, .int .i64 2]) (by kernel_rfl) ⟨S2, rfl, ((Ext.refl S0 w0).trans z2), p2⟩

/-! tidepole/tidepolelaw13.PostLists -/
def Post.tidepolelaw13_PostLists (nz : Nat) (wz : World) (S0 : Fz) (w0 : World) (Lr : List Ent) (r : Bool) (v : Value) (w' : World) : Prop :=
  ∃ (S' : Fz) , v = .bool r ∧ Ext S0 w0 S' w' ∧ Hp nz wz S' w' (Lr)

def L.tidepolelaw13_PostLists_l0 (nz : Nat) (wz : World) (S0 : Fz) (w0 : World) (Lr : List Ent) : Bool → Bool → Prop := fun x8 r => ∀ S1 w1, Ext S0 w0 S1 w1 → ∀ (_ : Hp nz wz S1 w1 (Lr)) (junk : Nat → Value),
  Goes Try.prog (base 5) [.code (sub [1, 0, 1, 0, 1, 1, 1, 1] B5), .code (sub [1, 1] B5)] ⟨lfr 214 [(8, .bool x8)] junk, []⟩ w1 (Done Try.prog 5 (Rets (Post.tidepolelaw13_PostLists nz wz S0 w0 Lr r)))

theorem W.tidepolelaw13_PostLists_l0 (nz : Nat) (wz : World) (S0 : Fz) (w0 : World) (Lr : List Ent) : ∀ a r, M.tidepolelaw13_PostLists_l0 a = some r → L.tidepolelaw13_PostLists_l0 nz wz S0 w0 Lr a r := by
  intro x8 r h S1 w1 hx p1 junk
  rw [M.tidepolelaw13_PostLists_l0] at h
  try dsimp only at h
  obtain rfl := Option.some.inj h
  exact Goes.ret (fn := Try.f5) (by kernel_rfl) (v := .bool x8) (by kernel_rfl) ⟨S1, rfl, hx, p1⟩

def L.tidepolelaw13_PostLists_l4 (nz : Nat) (wz : World) (S0 : Fz) (w0 : World) (Lr : List Ent) : List Int × Int × Bool → Bool → Prop := fun ⟨x1, x3, x166⟩ r => ∀ S1 w1, Ext S0 w0 S1 w1 → ∀ (Gx1 : Option Nat) (cx1 : Nat) (csx1 : List Value) (kzx1 : Nat) (_ : Hp nz wz S1 w1 ((Gx1, .row 35 csx1 (cx1 * (kInt .u64).size) kzx1) :: Lr)) (_ : Els (kInt .u64) S1 w1 csx1 x1) (junk : Nat → Value),
  Goes Try.prog (base 5) [.code (sub [1, 1, 1, 1, 1, 1, 1, 1, 1, 1, 1, 1, 1, 1, 0, 1] B5), .code (sub [1, 1, 1, 1, 1, 1, 1, 1, 1, 1, 1, 1, 1, 1, 1] B5)] ⟨lfr 214 [(1, .slice (Gp Gx1) x1.length cx1), (3, .int .u64 x3), (166, .bool x166)] junk, []⟩ w1 (Done Try.prog 5 (Rets (Post.tidepolelaw13_PostLists nz wz S0 w0 Lr r)))

theorem W.tidepolelaw13_PostLists_l4 (nz : Nat) (wz : World) (S0 : Fz) (w0 : World) (Lr : List Ent) : ∀ a r, M.tidepolelaw13_PostLists_l4 a = some r → L.tidepolelaw13_PostLists_l4 nz wz S0 w0 Lr a r := by
  intro ⟨x1, x3, x166⟩ r h S1 w1 hx Gx1 cx1 csx1 kzx1 p1 fx1 junk
  rw [M.tidepolelaw13_PostLists_l4] at h
  try dsimp only at h
  by_cases h197 : x166 = true
  · rw [if_pos h197] at h
    rw [h197]
    refine Goes.runs 5 [(8, .bool false)] [.code (sub [1, 1, 1, 1, 1, 1, 1, 1, 1, 1, 1, 1, 1, 1, 0, 1, 0, 1] B5), .code (sub [1, 1, 1, 1, 1, 1, 1, 1, 1, 1, 1, 1, 1, 1, 1] B5)] (by kernel_rfl) ?_
    have p1 := (p1.front 0 _ rfl).drop
    obtain rfl := Option.some.inj h
    exact Goes.ret (fn := Try.f5) (by kernel_rfl) (v := .bool false) (by kernel_rfl) ⟨S1, rfl, hx, p1⟩
  · rw [if_neg h197] at h
    have h197' : x166 = false := by simpa using h197
    rw [h197']
    refine Goes.runs 5 [(168, .slice (Gp Gx1) x1.length cx1)] [.inRegion (opsOf (sub [1, 1, 1, 1, 1, 1, 1, 1, 1, 1, 1, 1, 1, 1, 1, 0] B5)) [1, 2, 3, 4, 5, 6, 7, 8], .code (sub [1, 1, 1, 1, 1, 1, 1, 1, 1, 1, 1, 1, 1, 1, 1, 1] B5)] (by kernel_rfl) ?_
    obtain ⟨S44, z44, p44, f198⟩ := p1.freezeRd 0 rfl fx1 (by decide)
    obtain ⟨y199, e200, h⟩ := bind_some h
    try dsimp only at h
    refine Op_.call (.call { callee := .value (.func 14), args := #[(.tmp 168)], argTypes := #[22] }) 169 22 14 #[.slice (Gp Gx1) x1.length cx1] (Goes.cs (by kernel_rfl)) (by kernel_rfl) (W.tidepolelaw13_own x1 y199 e200 nz wz S44 w1 ((Gx1, .row 35 csx1 (cx1 * (kInt .u64).size) csx1.length) :: Lr) (Gp Gx1) cx1 p44 f198) ?_
    rintro _ w45 ⟨S45, G201, c202, cs203, rfl, z45, p45, f205⟩
    refine Goes.runs 1 [(170, .int .u64 x3)] [.inRegion (opsOf (sub [1, 1, 1, 1, 1, 1, 1, 1, 1, 1, 1, 1, 1, 1, 1, 0] B5)) [3, 4, 5, 6, 7, 8], .code (sub [1, 1, 1, 1, 1, 1, 1, 1, 1, 1, 1, 1, 1, 1, 1, 1] B5)] (by kernel_rfl) ?_
    obtain ⟨S46, z46, p46, f207⟩ := p45.freezeRd 0 rfl f205 (by decide)
    obtain ⟨y208, e209, h⟩ := bind_some h
    try dsimp only at h
    refine Op_.call (.call { callee := .value (.func 28), args := #[(.tmp 169), (.tmp 170)], argTypes := #[22, 35] }) 171 26 28 #[.slice (Gp G201) y199.length c202, .int .u64 x3] (Goes.cs (by kernel_rfl)) (by kernel_rfl) (W.post_Drop y199 x3 y208 e209 nz wz S46 w45 ((G201, .row 35 cs203 (c202 * (kInt .u64).size) cs203.length) :: (Gx1, .row 35 csx1 (cx1 * (kInt .u64).size) csx1.length) :: Lr) (Gp G201) c202 p46 f207) ?_
    rintro _ w47 ⟨S47, G210, c211, cs212, rfl, z47, p47, f214⟩
    have p47 := (p47.front 1 _ rfl).drop
    refine Goes.runs 10 [(167, .tuple #[.slice (Gp G210) y208.1.length c211, .int .i64 y208.2]), (172, .slice (Gp G210) y208.1.length c211), (173, .int .i64 y208.2), (15, .slice (Gp G210) y208.1.length c211), (16, .int .i64 y208.2), (175, .slice (Gp Gx1) x1.length cx1), (176, .int .u64 x3)] [.inRegion (opsOf (sub [1, 1, 1, 1, 1, 1, 1, 1, 1, 1, 1, 1, 1, 1, 1, 1, 0] B5)) [2, 3, 4, 5, 6, 7], .code (sub [1, 1, 1, 1, 1, 1, 1, 1, 1, 1, 1, 1, 1, 1, 1, 1, 1] B5)] (by kernel_rfl) ?_
    obtain ⟨y216, e217, h⟩ := bind_some h
    try dsimp only at h
    refine Op_.call (.call { callee := .value (.func 29), args := #[(.tmp 175), (.tmp 176)], argTypes := #[22, 35] }) 177 26 29 #[.slice (Gp Gx1) x1.length cx1, .int .u64 x3] (Goes.cs (by kernel_rfl)) (by kernel_rfl) (W.tidepoleref13_Drop x1 x3 y216 e217 nz wz S47 w47 ((G210, .row 35 cs212 (c211 * (kInt .u64).size) 0) :: (Gx1, .row 35 csx1 (cx1 * (kInt .u64).size) csx1.length) :: Lr) (Gp Gx1) cx1 p47 (((f198.ext z45).ext z46).ext z47)) ?_
    rintro _ w48 ⟨S48, G218, c219, cs220, rfl, z48, p48, f222⟩
    refine Goes.runs 9 [(174, .tuple #[.slice (Gp G218) y216.1.length c219, .int .i64 y216.2]), (178, .slice (Gp G218) y216.1.length c219), (179, .int .i64 y216.2), (17, .slice (Gp G218) y216.1.length c219), (18, .int .i64 y216.2), (181, .slice (Gp Gx1) x1.length cx1)] [.inRegion (opsOf (sub [1, 1, 1, 1, 1, 1, 1, 1, 1, 1, 1, 1, 1, 1, 1, 1, 1, 0] B5)) [1, 2, 3, 4, 5, 6, 7, 8], .code (sub [1, 1, 1, 1, 1, 1, 1, 1, 1, 1, 1, 1, 1, 1, 1, 1, 1, 1] B5)] (by kernel_rfl) ?_
    obtain ⟨y224, e225, h⟩ := bind_some h
    try dsimp only at h
    refine Op_.call (.call { callee := .value (.func 14), args := #[(.tmp 181)], argTypes := #[22] }) 182 22 14 #[.slice (Gp Gx1) x1.length cx1] (Goes.cs (by kernel_rfl)) (by kernel_rfl) (W.tidepolelaw13_own x1 y224 e225 nz wz S48 w48 ((G218, .row 35 cs220 (c219 * (kInt .u64).size) 0) :: (G210, .row 35 cs212 (c211 * (kInt .u64).size) 0) :: (Gx1, .row 35 csx1 (cx1 * (kInt .u64).size) csx1.length) :: Lr) (Gp Gx1) cx1 p48 ((((f198.ext z45).ext z46).ext z47).ext z48)) ?_
    rintro _ w49 ⟨S49, G226, c227, cs228, rfl, z49, p49, f230⟩
    refine Goes.runs 1 [(183, .int .u64 x3)] [.inRegion (opsOf (sub [1, 1, 1, 1, 1, 1, 1, 1, 1, 1, 1, 1, 1, 1, 1, 1, 1, 0] B5)) [3, 4, 5, 6, 7, 8], .code (sub [1, 1, 1, 1, 1, 1, 1, 1, 1, 1, 1, 1, 1, 1, 1, 1, 1, 1] B5)] (by kernel_rfl) ?_
    obtain ⟨S50, z50, p50, f232⟩ := p49.freezeRd 0 rfl f230 (by decide)
    obtain ⟨y233, e234, h⟩ := bind_some h
    try dsimp only at h
    refine Op_.call (.call { callee := .value (.func 30), args := #[(.tmp 182), (.tmp 183)], argTypes := #[22, 35] }) 184 43 30 #[.slice (Gp G226) y224.length c227, .int .u64 x3] (Goes.cs (by kernel_rfl)) (by kernel_rfl) (W.post_Has y224 x3 y233 e234 nz wz S50 w49 ((G226, .row 35 cs228 (c227 * (kInt .u64).size) cs228.length) :: (G218, .row 35 cs220 (c219 * (kInt .u64).size) 0) :: (G210, .row 35 cs212 (c211 * (kInt .u64).size) 0) :: (Gx1, .row 35 csx1 (cx1 * (kInt .u64).size) csx1.length) :: Lr) (Gp G226) c227 p50 f232) ?_
    rintro _ w51 ⟨S51, rfl, z51, p51⟩
    have p51 := (p51.front 0 _ rfl).drop
    refine Goes.runs 10 [(180, .tuple #[.bool y233.1, .int .i64 y233.2]), (185, .bool y233.1), (186, .int .i64 y233.2), (23, .bool y233.1), (20, .int .i64 y233.2), (188, .slice (Gp Gx1) x1.length cx1), (189, .int .u64 x3)] [.inRegion (opsOf (sub [1, 1, 1, 1, 1, 1, 1, 1, 1, 1, 1, 1, 1, 1, 1, 1, 1, 1, 0] B5)) [2, 3, 4, 5, 6, 7], .code (sub [1, 1, 1, 1, 1, 1, 1, 1, 1, 1, 1, 1, 1, 1, 1, 1, 1, 1, 1] B5)] (by kernel_rfl) ?_
    obtain ⟨y235, e236, h⟩ := bind_some h
    try dsimp only at h
    refine Op_.call (.call { callee := .value (.func 31), args := #[(.tmp 188), (.tmp 189)], argTypes := #[22, 35] }) 190 43 31 #[.slice (Gp Gx1) x1.length cx1, .int .u64 x3] (Goes.cs (by kernel_rfl)) (by kernel_rfl) (W.tidepoleref13_Has x1 x3 y235 e236 nz wz S51 w51 ((G218, .row 35 cs220 (c219 * (kInt .u64).size) 0) :: (G210, .row 35 cs212 (c211 * (kInt .u64).size) 0) :: (Gx1, .row 35 csx1 (cx1 * (kInt .u64).size) csx1.length) :: Lr) (Gp Gx1) cx1 p51 (((((((f198.ext z45).ext z46).ext z47).ext z48).ext z49).ext z50).ext z51)) ?_
    rintro _ w52 ⟨S52, rfl, z52, p52⟩
    have p52 := (p52.front 2 _ rfl).drop
    refine Goes.runs 10 [(187, .tuple #[.bool y235.1, .int .i64 y235.2]), (191, .bool y235.1), (192, .int .i64 y235.2), (24, .bool y235.1), (22, .int .i64 y235.2), (193, .slice (Gp G210) y208.1.length c211), (194, .slice (Gp G218) y216.1.length c219)] [.inRegion (opsOf (sub [1, 1, 1, 1, 1, 1, 1, 1, 1, 1, 1, 1, 1, 1, 1, 1, 1, 1, 1, 0] B5)) [2, 3, 4, 5, 6, 7, 8, 9, 10, 11, 12, 13, 14, 15, 16, 17, 18, 19, 20, 21], .code (sub [1, 1, 1, 1, 1, 1, 1, 1, 1, 1, 1, 1, 1, 1, 1, 1, 1, 1, 1, 1] B5)] (by kernel_rfl) ?_
    obtain ⟨S53, z53, p53, f237⟩ := p52.freezeRd 1 rfl (((((f214.ext z48).ext z49).ext z50).ext z51).ext z52) (by decide)
    obtain ⟨S54, z54, p54, f238⟩ := p53.freezeRd 0 rfl (((((f222.ext z49).ext z50).ext z51).ext z52).ext z53) (by decide)
    obtain ⟨y239, e240, h⟩ := bind_some h
    try dsimp only at h
    refine Op_.call (.call { callee := .value (.func 11), args := #[(.tmp 193), (.tmp 194)], argTypes := #[22, 22] }) 195 4 11 #[.slice (Gp G210) y208.1.length c211, .slice (Gp G218) y216.1.length c219] (Goes.cs (by kernel_rfl)) (by kernel_rfl) (W.tidepolelaw13_same y208.1 y216.1 y239 e240 nz wz S54 w52 ((G218, .row 35 cs220 (c219 * (kInt .u64).size) cs220.length) :: (G210, .row 35 cs212 (c211 * (kInt .u64).size) cs212.length) :: Lr) (Gp G210) c211 (Gp G218) c219 p54 (f237.ext z54) f238) ?_
    rintro _ w55 ⟨S55, rfl, z55, p55⟩
    have p55 := (p55.front 0 _ rfl).drop
    have p55 := (p55.front 0 _ rfl).drop
    refine Goes.runs 1 [(196, .bool y239)] [.inRegion (opsOf (sub [1, 1, 1, 1, 1, 1, 1, 1, 1, 1, 1, 1, 1, 1, 1, 1, 1, 1, 1, 0] B5)) [4, 5, 6, 7, 8, 9, 10, 11, 12, 13, 14, 15, 16, 17, 18, 19, 20, 21], .code (sub [1, 1, 1, 1, 1, 1, 1, 1, 1, 1, 1, 1, 1, 1, 1, 1, 1, 1, 1, 1] B5)] (by kernel_rfl) ?_
    by_cases h241 : y239 = true
    · rw [if_pos h241] at h
      rw [h241]
      refine Goes.runs 5 [(197, .int .i64 y208.2), (198, .int .i64 y216.2), (199, .bool (decide (y208.2 = y216.2))), (200, .bool (decide (y208.2 = y216.2))), (201, .bool (decide (y208.2 = y216.2)))] [.inRegion (opsOf (sub [1, 1, 1, 1, 1, 1, 1, 1, 1, 1, 1, 1, 1, 1, 1, 1, 1, 1, 1, 0] B5)) [9, 10, 11, 12, 13, 14, 15, 16, 17, 18, 19, 20, 21], .code (sub [1, 1, 1, 1, 1, 1, 1, 1, 1, 1, 1, 1, 1, 1, 1, 1, 1, 1, 1, 1] B5)] (by kernel_rfl) ?_
      by_cases h242 : y208.2 = y216.2
      · rw [if_pos h242] at h
        rw [decide_eq_true h242]
        refine Goes.runs 5 [(202, .bool y233.1), (203, .bool y235.1), (204, .bool (y233.1 == y235.1)), (205, .bool (y233.1 == y235.1)), (206, .bool (y233.1 == y235.1))] [.inRegion (opsOf (sub [1, 1, 1, 1, 1, 1, 1, 1, 1, 1, 1, 1, 1, 1, 1, 1, 1, 1, 1, 0] B5)) [14, 15, 16, 17, 18, 19, 20, 21], .code (sub [1, 1, 1, 1, 1, 1, 1, 1, 1, 1, 1, 1, 1, 1, 1, 1, 1, 1, 1, 1] B5)] (by kernel_rfl) ?_
        by_cases h243 : (y233.1 == y235.1) = true
        · rw [if_pos h243] at h
          rw [h243]
          refine Goes.runs 5 [(207, .int .i64 y233.2), (208, .int .i64 y235.2), (209, .bool (decide (y233.2 = y235.2))), (210, .bool (decide (y233.2 = y235.2))), (211, .bool (decide (y233.2 = y235.2)))] [.inRegion (opsOf (sub [1, 1, 1, 1, 1, 1, 1, 1, 1, 1, 1, 1, 1, 1, 1, 1, 1, 1, 1, 0] B5)) [19, 20, 21], .code (sub [1, 1, 1, 1, 1, 1, 1, 1, 1, 1, 1, 1, 1, 1, 1, 1, 1, 1, 1, 1] B5)] (by kernel_rfl) ?_
          by_cases h244 : y233.2 = y235.2
          · rw [if_pos h244] at h
            rw [decide_eq_true h244]
            obtain ⟨y245, e246, h⟩ := bind_some h
            try dsimp only at h
            refine Op_.call (.call { callee := .value (.func 8), args := #[], argTypes := #[] }) 212 4 8 #[] (Goes.cs (by kernel_rfl)) (by kernel_rfl) (W.tidepolelaw13_works  y245 e246 nz wz S55 w55 (Lr)  p55 ) ?_
            rintro _ w56 ⟨S56, rfl, z56, p56⟩
            refine Goes.runs 3 [(213, .bool y245), (8, .bool y245)] [.code (sub [1, 1, 1, 1, 1, 1, 1, 1, 1, 1, 1, 1, 1, 1, 1, 1, 1, 1, 1, 1] B5)] (by kernel_rfl) ?_
            obtain rfl := Option.some.inj h
            exact Goes.ret (fn := Try.f5) (by kernel_rfl) (v := .bool y245) (by kernel_rfl) ⟨S56, rfl, (((((((((((((hx.trans z44).trans z45).trans z46).trans z47).trans z48).trans z49).trans z50).trans z51).trans z52).trans z53).trans z54).trans z55).trans z56), p56⟩
          · rw [if_neg h244] at h
            rw [decide_eq_false h244]
            refine Goes.runs 4 [(212, undef), (213, .bool false), (8, .bool false)] [.code (sub [1, 1, 1, 1, 1, 1, 1, 1, 1, 1, 1, 1, 1, 1, 1, 1, 1, 1, 1, 1] B5)] (by kernel_rfl) ?_
            obtain rfl := Option.some.inj h
            exact Goes.ret (fn := Try.f5) (by kernel_rfl) (v := .bool false) (by kernel_rfl) ⟨S55, rfl, ((((((((((((hx.trans z44).trans z45).trans z46).trans z47).trans z48).trans z49).trans z50).trans z51).trans z52).trans z53).trans z54).trans z55), p55⟩
        · rw [if_neg h243] at h
          have h243' : (y233.1 == y235.1) = false := by simpa using h243
          rw [h243']
          refine Goes.runs 9 [(207, undef), (208, undef), (209, undef), (210, .bool false), (211, .bool false), (212, undef), (213, .bool false), (8, .bool false)] [.code (sub [1, 1, 1, 1, 1, 1, 1, 1, 1, 1, 1, 1, 1, 1, 1, 1, 1, 1, 1, 1] B5)] (by kernel_rfl) ?_
          obtain rfl := Option.some.inj h
          exact Goes.ret (fn := Try.f5) (by kernel_rfl) (v := .bool false) (by kernel_rfl) ⟨S55, rfl, ((((((((((((hx.trans z44).trans z45).trans z46).trans z47).trans z48).trans z49).trans z50).trans z51).trans z52).trans z53).trans z54).trans z55), p55⟩
      · rw [if_neg h242] at h
        rw [decide_eq_false h242]
        refine Goes.runs 14 [(202, undef), (203, undef), (204, undef), (205, .bool false), (206, .bool false), (207, undef), (208, undef), (209, undef), (210, .bool false), (211, .bool false), (212, undef), (213, .bool false), (8, .bool false)] [.code (sub [1, 1, 1, 1, 1, 1, 1, 1, 1, 1, 1, 1, 1, 1, 1, 1, 1, 1, 1, 1] B5)] (by kernel_rfl) ?_
        obtain rfl := Option.some.inj h
        exact Goes.ret (fn := Try.f5) (by kernel_rfl) (v := .bool false) (by kernel_rfl) ⟨S55, rfl, ((((((((((((hx.trans z44).trans z45).trans z46).trans z47).trans z48).trans z49).trans z50).trans z51).trans z52).trans z53).trans z54).trans z55), p55⟩
    · rw [if_neg h241] at h
      have h241' : y239 = false := by simpa using h241
      rw [h241']
      refine Goes.runs 14 [(197, undef), (198, undef), (199, undef), (200, .bool false), (201, .bool false), (202, undef), (203, undef), (204, undef), (205, .bool false), (206, .bool false), (207, undef), (208, undef), (209, undef), (210, .bool false)] [.inRegion (opsOf (sub [1, 1, 1, 1, 1, 1, 1, 1, 1, 1, 1, 1, 1, 1, 1, 1, 1, 1, 1, 0] B5)) [18, 19, 20, 21], .code (sub [1, 1, 1, 1, 1, 1, 1, 1, 1, 1, 1, 1, 1, 1, 1, 1, 1, 1, 1, 1] B5)] (by kernel_rfl) ?_
      refine Goes.runs 5 [(211, .bool false), (212, undef), (213, .bool false), (8, .bool false)] [.code (sub [1, 1, 1, 1, 1, 1, 1, 1, 1, 1, 1, 1, 1, 1, 1, 1, 1, 1, 1, 1] B5)] (by kernel_rfl) ?_
      obtain rfl := Option.some.inj h
      exact Goes.ret (fn := Try.f5) (by kernel_rfl) (v := .bool false) (by kernel_rfl) ⟨S55, rfl, ((((((((((((hx.trans z44).trans z45).trans z46).trans z47).trans z48).trans z49).trans z50).trans z51).trans z52).trans z53).trans z54).trans z55), p55⟩

def L.tidepolelaw13_PostLists_l3 (nz : Nat) (wz : World) (S0 : Fz) (w0 : World) (Lr : List Ent) : List Int × List Int × Int × Bool → Bool → Prop := fun ⟨x1, x2, x3, x119⟩ r => ∀ S1 w1, Ext S0 w0 S1 w1 → ∀ (Gx1 : Option Nat) (cx1 : Nat) (csx1 : List Value) (kzx1 : Nat) (Gx2 : Option Nat) (cx2 : Nat) (csx2 : List Value) (_ : Hp nz wz S1 w1 ((Gx1, .row 35 csx1 (cx1 * (kInt .u64).size) kzx1) :: (Gx2, .row 35 csx2 (cx2 * (kInt .u64).size) 0) :: Lr)) (_ : Els (kInt .u64) S1 w1 csx1 x1) (_ : Els (kInt .u64) S1 w1 csx2 x2) (junk : Nat → Value),
  Goes Try.prog (base 5) [.code (sub [1, 1, 1, 1, 1, 1, 1, 1, 1, 0, 1] B5), .code (sub [1, 1, 1, 1, 1, 1, 1, 1, 1, 1] B5)] ⟨lfr 214 [(1, .slice (Gp Gx1) x1.length cx1), (2, .slice (Gp Gx2) x2.length cx2), (3, .int .u64 x3), (119, .bool x119)] junk, []⟩ w1 (Done Try.prog 5 (Rets (Post.tidepolelaw13_PostLists nz wz S0 w0 Lr r)))

theorem W.tidepolelaw13_PostLists_l3 (nz : Nat) (wz : World) (S0 : Fz) (w0 : World) (Lr : List Ent) : ∀ a r, M.tidepolelaw13_PostLists_l3 a = some r → L.tidepolelaw13_PostLists_l3 nz wz S0 w0 Lr a r := by
  intro ⟨x1, x2, x3, x119⟩ r h S1 w1 hx Gx1 cx1 csx1 kzx1 Gx2 cx2 csx2 p1 fx1 fx2 junk
  rw [M.tidepolelaw13_PostLists_l3] at h
  try dsimp only at h
  by_cases h124 : x119 = true
  · rw [if_pos h124] at h
    rw [h124]
    refine Goes.runs 5 [(8, .bool false)] [.code (sub [1, 1, 1, 1, 1, 1, 1, 1, 1, 0, 1, 0, 1] B5), .code (sub [1, 1, 1, 1, 1, 1, 1, 1, 1, 1] B5)] (by kernel_rfl) ?_
    have p1 := (p1.front 0 _ rfl).drop
    have p1 := (p1.front 0 _ rfl).drop
    obtain rfl := Option.some.inj h
    exact Goes.ret (fn := Try.f5) (by kernel_rfl) (v := .bool false) (by kernel_rfl) ⟨S1, rfl, hx, p1⟩
  · rw [if_neg h124] at h
    have h124' : x119 = false := by simpa using h124
    rw [h124']
    refine Goes.runs 5 [(121, .slice (Gp Gx1) x1.length cx1)] [.inRegion (opsOf (sub [1, 1, 1, 1, 1, 1, 1, 1, 1, 1, 0] B5)) [1, 2, 3, 4, 5, 6, 7, 8, 9], .code (sub [1, 1, 1, 1, 1, 1, 1, 1, 1, 1, 1] B5)] (by kernel_rfl) ?_
    obtain ⟨S26, z26, p26, f125⟩ := p1.freezeRd 0 rfl fx1 (by decide)
    obtain ⟨y126, e127, h⟩ := bind_some h
    try dsimp only at h
    refine Op_.call (.call { callee := .value (.func 14), args := #[(.tmp 121)], argTypes := #[22] }) 122 22 14 #[.slice (Gp Gx1) x1.length cx1] (Goes.cs (by kernel_rfl)) (by kernel_rfl) (W.tidepolelaw13_own x1 y126 e127 nz wz S26 w1 ((Gx1, .row 35 csx1 (cx1 * (kInt .u64).size) csx1.length) :: (Gx2, .row 35 csx2 (cx2 * (kInt .u64).size) 0) :: Lr) (Gp Gx1) cx1 p26 f125) ?_
    rintro _ w27 ⟨S27, G128, c129, cs130, rfl, z27, p27, f132⟩
    refine Goes.runs 1 [(123, .slice (Gp Gx2) x2.length cx2)] [.inRegion (opsOf (sub [1, 1, 1, 1, 1, 1, 1, 1, 1, 1, 0] B5)) [3, 4, 5, 6, 7, 8, 9], .code (sub [1, 1, 1, 1, 1, 1, 1, 1, 1, 1, 1] B5)] (by kernel_rfl) ?_
    obtain ⟨S28, z28, p28, f134⟩ := p27.freezeRd 2 rfl ((fx2.ext z26).ext z27) (by decide)
    obtain ⟨y135, e136, h⟩ := bind_some h
    try dsimp only at h
    refine Op_.call (.call { callee := .value (.func 14), args := #[(.tmp 123)], argTypes := #[22] }) 124 22 14 #[.slice (Gp Gx2) x2.length cx2] (Goes.cs (by kernel_rfl)) (by kernel_rfl) (W.tidepolelaw13_own x2 y135 e136 nz wz S28 w27 ((G128, .row 35 cs130 (c129 * (kInt .u64).size) 0) :: (Gx1, .row 35 csx1 (cx1 * (kInt .u64).size) csx1.length) :: (Gx2, .row 35 csx2 (cx2 * (kInt .u64).size) csx2.length) :: Lr) (Gp Gx2) cx2 p28 f134) ?_
    rintro _ w29 ⟨S29, G137, c138, cs139, rfl, z29, p29, f141⟩
    obtain ⟨S30, z30, p30, f143⟩ := p29.freezeRd 1 rfl ((f132.ext z28).ext z29) (by decide)
    obtain ⟨S31, z31, p31, f144⟩ := p30.freezeRd 0 rfl (f141.ext z30) (by decide)
    obtain ⟨y145, e146, h⟩ := bind_some h
    try dsimp only at h
    refine Op_.call (.call { callee := .value (.func 10), args := #[(.tmp 122), (.tmp 124)], argTypes := #[22, 22] }) 125 26 10 #[.slice (Gp G128) y126.length c129, .slice (Gp G137) y135.length c138] (Goes.cs (by kernel_rfl)) (by kernel_rfl) (W.post_But y126 y135 y145 e146 nz wz S31 w29 ((G137, .row 35 cs139 (c138 * (kInt .u64).size) cs139.length) :: (G128, .row 35 cs130 (c129 * (kInt .u64).size) cs130.length) :: (Gx1, .row 35 csx1 (cx1 * (kInt .u64).size) csx1.length) :: (Gx2, .row 35 csx2 (cx2 * (kInt .u64).size) csx2.length) :: Lr) (Gp G128) c129 (Gp G137) c138 p31 (f143.ext z31) f144) ?_
    rintro _ w32 ⟨S32, G147, c148, cs149, rfl, z32, p32, f151⟩
    have p32 := (p32.front 1 _ rfl).drop
    have p32 := (p32.front 1 _ rfl).drop
    refine Goes.runs 10 [(120, .tuple #[.slice (Gp G147) y145.1.length c148, .int .i64 y145.2]), (126, .slice (Gp G147) y145.1.length c148), (127, .int .i64 y145.2), (15, .slice (Gp G147) y145.1.length c148), (16, .int .i64 y145.2), (129, .slice (Gp Gx1) x1.length cx1), (130, .slice (Gp Gx2) x2.length cx2)] [.inRegion (opsOf (sub [1, 1, 1, 1, 1, 1, 1, 1, 1, 1, 1, 0] B5)) [2, 3, 4, 5, 6, 7], .code (sub [1, 1, 1, 1, 1, 1, 1, 1, 1, 1, 1, 1] B5)] (by kernel_rfl) ?_
    obtain ⟨y153, e154, h⟩ := bind_some h
    try dsimp only at h
    refine Op_.call (.call { callee := .value (.func 25), args := #[(.tmp 129), (.tmp 130)], argTypes := #[22, 22] }) 131 26 25 #[.slice (Gp Gx1) x1.length cx1, .slice (Gp Gx2) x2.length cx2] (Goes.cs (by kernel_rfl)) (by kernel_rfl) (W.tidepoleref13_But x1 x2 y153 e154 nz wz S32 w32 ((G147, .row 35 cs149 (c148 * (kInt .u64).size) 0) :: (Gx1, .row 35 csx1 (cx1 * (kInt .u64).size) csx1.length) :: (Gx2, .row 35 csx2 (cx2 * (kInt .u64).size) csx2.length) :: Lr) (Gp Gx1) cx1 (Gp Gx2) cx2 p32 ((((((f125.ext z27).ext z28).ext z29).ext z30).ext z31).ext z32) ((((f134.ext z29).ext z30).ext z31).ext z32)) ?_
    rintro _ w33 ⟨S33, G155, c156, cs157, rfl, z33, p33, f159⟩
    have p33 := (p33.front 3 _ rfl).drop
    refine Goes.runs 9 [(128, .tuple #[.slice (Gp G155) y153.1.length c156, .int .i64 y153.2]), (132, .slice (Gp G155) y153.1.length c156), (133, .int .i64 y153.2), (17, .slice (Gp G155) y153.1.length c156), (18, .int .i64 y153.2), (135, .slice (Gp Gx1) x1.length cx1)] [.inRegion (opsOf (sub [1, 1, 1, 1, 1, 1, 1, 1, 1, 1, 1, 1, 0] B5)) [1, 2, 3, 4, 5, 6, 7, 8], .code (sub [1, 1, 1, 1, 1, 1, 1, 1, 1, 1, 1, 1, 1] B5)] (by kernel_rfl) ?_
    obtain ⟨y161, e162, h⟩ := bind_some h
    try dsimp only at h
    refine Op_.call (.call { callee := .value (.func 14), args := #[(.tmp 135)], argTypes := #[22] }) 136 22 14 #[.slice (Gp Gx1) x1.length cx1] (Goes.cs (by kernel_rfl)) (by kernel_rfl) (W.tidepolelaw13_own x1 y161 e162 nz wz S33 w33 ((G155, .row 35 cs157 (c156 * (kInt .u64).size) 0) :: (G147, .row 35 cs149 (c148 * (kInt .u64).size) 0) :: (Gx1, .row 35 csx1 (cx1 * (kInt .u64).size) csx1.length) :: Lr) (Gp Gx1) cx1 p33 (((((((f125.ext z27).ext z28).ext z29).ext z30).ext z31).ext z32).ext z33)) ?_
    rintro _ w34 ⟨S34, G163, c164, cs165, rfl, z34, p34, f167⟩
    refine Goes.runs 1 [(137, .int .u64 x3)] [.inRegion (opsOf (sub [1, 1, 1, 1, 1, 1, 1, 1, 1, 1, 1, 1, 0] B5)) [3, 4, 5, 6, 7, 8], .code (sub [1, 1, 1, 1, 1, 1, 1, 1, 1, 1, 1, 1, 1] B5)] (by kernel_rfl) ?_
    obtain ⟨S35, z35, p35, f169⟩ := p34.freezeRd 0 rfl f167 (by decide)
    obtain ⟨y170, e171, h⟩ := bind_some h
    try dsimp only at h
    refine Op_.call (.call { callee := .value (.func 26), args := #[(.tmp 136), (.tmp 137)], argTypes := #[22, 35] }) 138 26 26 #[.slice (Gp G163) y161.length c164, .int .u64 x3] (Goes.cs (by kernel_rfl)) (by kernel_rfl) (W.post_Add y161 x3 y170 e171 nz wz S35 w34 ((G163, .row 35 cs165 (c164 * (kInt .u64).size) cs165.length) :: (G155, .row 35 cs157 (c156 * (kInt .u64).size) 0) :: (G147, .row 35 cs149 (c148 * (kInt .u64).size) 0) :: (Gx1, .row 35 csx1 (cx1 * (kInt .u64).size) csx1.length) :: Lr) (Gp G163) c164 p35 f169) ?_
    rintro _ w36 ⟨S36, G172, c173, cs174, rfl, z36, p36, f176⟩
    have p36 := (p36.front 1 _ rfl).drop
    refine Goes.runs 10 [(134, .tuple #[.slice (Gp G172) y170.1.length c173, .int .i64 y170.2]), (139, .slice (Gp G172) y170.1.length c173), (140, .int .i64 y170.2), (19, .slice (Gp G172) y170.1.length c173), (20, .int .i64 y170.2), (142, .slice (Gp Gx1) x1.length cx1), (143, .int .u64 x3)] [.inRegion (opsOf (sub [1, 1, 1, 1, 1, 1, 1, 1, 1, 1, 1, 1, 1, 0] B5)) [2, 3, 4, 5, 6, 7], .code (sub [1, 1, 1, 1, 1, 1, 1, 1, 1, 1, 1, 1, 1, 1] B5)] (by kernel_rfl) ?_
    obtain ⟨y178, e179, h⟩ := bind_some h
    try dsimp only at h
    refine Op_.call (.call { callee := .value (.func 27), args := #[(.tmp 142), (.tmp 143)], argTypes := #[22, 35] }) 144 26 27 #[.slice (Gp Gx1) x1.length cx1, .int .u64 x3] (Goes.cs (by kernel_rfl)) (by kernel_rfl) (W.tidepoleref13_Add x1 x3 y178 e179 nz wz S36 w36 ((G172, .row 35 cs174 (c173 * (kInt .u64).size) 0) :: (G155, .row 35 cs157 (c156 * (kInt .u64).size) 0) :: (G147, .row 35 cs149 (c148 * (kInt .u64).size) 0) :: (Gx1, .row 35 csx1 (cx1 * (kInt .u64).size) csx1.length) :: Lr) (Gp Gx1) cx1 p36 ((((((((((f125.ext z27).ext z28).ext z29).ext z30).ext z31).ext z32).ext z33).ext z34).ext z35).ext z36)) ?_
    rintro _ w37 ⟨S37, G180, c181, cs182, rfl, z37, p37, f184⟩
    refine Goes.runs 11 [(141, .tuple #[.slice (Gp G180) y178.1.length c181, .int .i64 y178.2]), (145, .slice (Gp G180) y178.1.length c181), (146, .int .i64 y178.2), (21, .slice (Gp G180) y178.1.length c181), (22, .int .i64 y178.2), (147, .slice (Gp G147) y145.1.length c148), (148, .slice (Gp G155) y153.1.length c156)] [.inRegion (opsOf (sub [1, 1, 1, 1, 1, 1, 1, 1, 1, 1, 1, 1, 1, 1, 0, 0] B5)) [2, 3, 4, 5, 6, 7, 8, 9, 10, 11, 12, 13, 14, 15, 16, 17, 18, 19], .code (sub [1, 1, 1, 1, 1, 1, 1, 1, 1, 1, 1, 1, 1, 1, 0, 1] B5), .code (sub [1, 1, 1, 1, 1, 1, 1, 1, 1, 1, 1, 1, 1, 1, 1] B5)] (by kernel_rfl) ?_
    obtain ⟨S38, z38, p38, f186⟩ := p37.freezeRd 3 rfl (((((f151.ext z33).ext z34).ext z35).ext z36).ext z37) (by decide)
    obtain ⟨S39, z39, p39, f187⟩ := p38.freezeRd 2 rfl (((((f159.ext z34).ext z35).ext z36).ext z37).ext z38) (by decide)
    obtain ⟨y188, e189, h⟩ := bind_some h
    try dsimp only at h
    refine Op_.call (.call { callee := .value (.func 11), args := #[(.tmp 147), (.tmp 148)], argTypes := #[22, 22] }) 149 4 11 #[.slice (Gp G147) y145.1.length c148, .slice (Gp G155) y153.1.length c156] (Goes.cs (by kernel_rfl)) (by kernel_rfl) (W.tidepolelaw13_same y145.1 y153.1 y188 e189 nz wz S39 w37 ((G180, .row 35 cs182 (c181 * (kInt .u64).size) 0) :: (G172, .row 35 cs174 (c173 * (kInt .u64).size) 0) :: (G155, .row 35 cs157 (c156 * (kInt .u64).size) cs157.length) :: (G147, .row 35 cs149 (c148 * (kInt .u64).size) cs149.length) :: (Gx1, .row 35 csx1 (cx1 * (kInt .u64).size) csx1.length) :: Lr) (Gp G147) c148 (Gp G155) c156 p39 (f186.ext z39) f187) ?_
    rintro _ w40 ⟨S40, rfl, z40, p40⟩
    have p40 := (p40.front 2 _ rfl).drop
    have p40 := (p40.front 2 _ rfl).drop
    refine Goes.runs 2 [(150, .bool (!y188)), (151, .bool (!y188))] [.inRegion (opsOf (sub [1, 1, 1, 1, 1, 1, 1, 1, 1, 1, 1, 1, 1, 1, 0, 0] B5)) [5, 6, 7, 8, 9, 10, 11, 12, 13, 14, 15, 16, 17, 18, 19], .code (sub [1, 1, 1, 1, 1, 1, 1, 1, 1, 1, 1, 1, 1, 1, 0, 1] B5), .code (sub [1, 1, 1, 1, 1, 1, 1, 1, 1, 1, 1, 1, 1, 1, 1] B5)] (by kernel_rfl) ?_
    by_cases h190 : y188 = true
    · rw [if_pos h190] at h
      rw [h190]
      refine Goes.runs 5 [(152, .int .i64 y145.2), (153, .int .i64 y153.2), (154, .bool (!(decide (y145.2 = y153.2)))), (155, .bool (!(decide (y145.2 = y153.2)))), (156, .bool (!(decide (y145.2 = y153.2))))] [.inRegion (opsOf (sub [1, 1, 1, 1, 1, 1, 1, 1, 1, 1, 1, 1, 1, 1, 0, 0] B5)) [10, 11, 12, 13, 14, 15, 16, 17, 18, 19], .code (sub [1, 1, 1, 1, 1, 1, 1, 1, 1, 1, 1, 1, 1, 1, 0, 1] B5), .code (sub [1, 1, 1, 1, 1, 1, 1, 1, 1, 1, 1, 1, 1, 1, 1] B5)] (by kernel_rfl) ?_
      by_cases h191 : y145.2 = y153.2
      · rw [if_pos h191] at h
        rw [decide_eq_true h191]
        refine Goes.runs 2 [(157, .slice (Gp G172) y170.1.length c173), (158, .slice (Gp G180) y178.1.length c181)] [.inRegion (opsOf (sub [1, 1, 1, 1, 1, 1, 1, 1, 1, 1, 1, 1, 1, 1, 0, 0] B5)) [12, 13, 14, 15, 16, 17, 18, 19], .code (sub [1, 1, 1, 1, 1, 1, 1, 1, 1, 1, 1, 1, 1, 1, 0, 1] B5), .code (sub [1, 1, 1, 1, 1, 1, 1, 1, 1, 1, 1, 1, 1, 1, 1] B5)] (by kernel_rfl) ?_
        obtain ⟨S41, z41, p41, f192⟩ := p40.freezeRd 1 rfl ((((f176.ext z37).ext z38).ext z39).ext z40) (by decide)
        obtain ⟨S42, z42, p42, f193⟩ := p41.freezeRd 0 rfl ((((f184.ext z38).ext z39).ext z40).ext z41) (by decide)
        obtain ⟨y194, e195, h⟩ := bind_some h
        try dsimp only at h
        refine Op_.call (.call { callee := .value (.func 11), args := #[(.tmp 157), (.tmp 158)], argTypes := #[22, 22] }) 159 4 11 #[.slice (Gp G172) y170.1.length c173, .slice (Gp G180) y178.1.length c181] (Goes.cs (by kernel_rfl)) (by kernel_rfl) (W.tidepolelaw13_same y170.1 y178.1 y194 e195 nz wz S42 w40 ((G180, .row 35 cs182 (c181 * (kInt .u64).size) cs182.length) :: (G172, .row 35 cs174 (c173 * (kInt .u64).size) cs174.length) :: (Gx1, .row 35 csx1 (cx1 * (kInt .u64).size) csx1.length) :: Lr) (Gp G172) c173 (Gp G180) c181 p42 (f192.ext z42) f193) ?_
        rintro _ w43 ⟨S43, rfl, z43, p43⟩
        have p43 := (p43.front 0 _ rfl).drop
        have p43 := (p43.front 0 _ rfl).drop
        refine Goes.runs 3 [(160, .bool (!y194)), (161, .bool (!y194)), (162, .bool (!y194))] [.inRegion (opsOf (sub [1, 1, 1, 1, 1, 1, 1, 1, 1, 1, 1, 1, 1, 1, 0, 0] B5)) [16, 17, 18, 19], .code (sub [1, 1, 1, 1, 1, 1, 1, 1, 1, 1, 1, 1, 1, 1, 0, 1] B5), .code (sub [1, 1, 1, 1, 1, 1, 1, 1, 1, 1, 1, 1, 1, 1, 1] B5)] (by kernel_rfl) ?_
        by_cases h196 : y194 = true
        · rw [if_pos h196] at h
          rw [h196]
          refine Goes.runs 5 [(163, .int .i64 y170.2), (164, .int .i64 y178.2), (165, .bool (!(decide (y170.2 = y178.2)))), (166, .bool (!(decide (y170.2 = y178.2))))] [.code (sub [1, 1, 1, 1, 1, 1, 1, 1, 1, 1, 1, 1, 1, 1, 0, 1] B5), .code (sub [1, 1, 1, 1, 1, 1, 1, 1, 1, 1, 1, 1, 1, 1, 1] B5)] (by kernel_rfl) ?_
          exact Goes.jump 214 [(1, .slice (Gp Gx1) x1.length cx1), (3, .int .u64 x3), (166, .bool (!(decide (y170.2 = y178.2))))] (by kernel_rfl) (W.tidepolelaw13_PostLists_l4 nz wz S0 w0 Lr _ _ h _ _ ((((((((((((((((((hx.trans z26).trans z27).trans z28).trans z29).trans z30).trans z31).trans z32).trans z33).trans z34).trans z35).trans z36).trans z37).trans z38).trans z39).trans z40).trans z41).trans z42).trans z43) Gx1 cx1 csx1 csx1.length p43 ((((((((((((((((((fx1.ext z26).ext z27).ext z28).ext z29).ext z30).ext z31).ext z32).ext z33).ext z34).ext z35).ext z36).ext z37).ext z38).ext z39).ext z40).ext z41).ext z42).ext z43))
        · rw [if_neg h196] at h
          have h196' : y194 = false := by simpa using h196
          rw [h196']
          refine Goes.runs 5 [(163, undef), (164, undef), (165, undef), (166, .bool true)] [.code (sub [1, 1, 1, 1, 1, 1, 1, 1, 1, 1, 1, 1, 1, 1, 0, 1] B5), .code (sub [1, 1, 1, 1, 1, 1, 1, 1, 1, 1, 1, 1, 1, 1, 1] B5)] (by kernel_rfl) ?_
          exact Goes.jump 214 [(1, .slice (Gp Gx1) x1.length cx1), (3, .int .u64 x3), (166, .bool true)] (by kernel_rfl) (W.tidepolelaw13_PostLists_l4 nz wz S0 w0 Lr _ _ h _ _ ((((((((((((((((((hx.trans z26).trans z27).trans z28).trans z29).trans z30).trans z31).trans z32).trans z33).trans z34).trans z35).trans z36).trans z37).trans z38).trans z39).trans z40).trans z41).trans z42).trans z43) Gx1 cx1 csx1 csx1.length p43 ((((((((((((((((((fx1.ext z26).ext z27).ext z28).ext z29).ext z30).ext z31).ext z32).ext z33).ext z34).ext z35).ext z36).ext z37).ext z38).ext z39).ext z40).ext z41).ext z42).ext z43))
      · rw [if_neg h191] at h
        rw [decide_eq_false h191]
        refine Goes.runs 11 [(157, undef), (158, undef), (159, undef), (160, undef), (161, .bool true), (162, .bool true), (163, undef), (164, undef), (165, undef), (166, .bool true)] [.code (sub [1, 1, 1, 1, 1, 1, 1, 1, 1, 1, 1, 1, 1, 1, 0, 1] B5), .code (sub [1, 1, 1, 1, 1, 1, 1, 1, 1, 1, 1, 1, 1, 1, 1] B5)] (by kernel_rfl) ?_
        have p40 := (p40.front 0 _ rfl).drop
        have p40 := (p40.front 0 _ rfl).drop
        exact Goes.jump 214 [(1, .slice (Gp Gx1) x1.length cx1), (3, .int .u64 x3), (166, .bool true)] (by kernel_rfl) (W.tidepolelaw13_PostLists_l4 nz wz S0 w0 Lr _ _ h _ _ (((((((((((((((hx.trans z26).trans z27).trans z28).trans z29).trans z30).trans z31).trans z32).trans z33).trans z34).trans z35).trans z36).trans z37).trans z38).trans z39).trans z40) Gx1 cx1 csx1 csx1.length p40 (((((((((((((((fx1.ext z26).ext z27).ext z28).ext z29).ext z30).ext z31).ext z32).ext z33).ext z34).ext z35).ext z36).ext z37).ext z38).ext z39).ext z40))
    · rw [if_neg h190] at h
      have h190' : y188 = false := by simpa using h190
      rw [h190']
      refine Goes.runs 14 [(152, undef), (153, undef), (154, undef), (155, .bool true), (156, .bool true), (157, undef), (158, undef), (159, undef), (160, undef), (161, .bool true), (162, .bool true), (163, undef), (164, undef), (165, undef)] [.inRegion (opsOf (sub [1, 1, 1, 1, 1, 1, 1, 1, 1, 1, 1, 1, 1, 1, 0, 0] B5)) [19], .code (sub [1, 1, 1, 1, 1, 1, 1, 1, 1, 1, 1, 1, 1, 1, 0, 1] B5), .code (sub [1, 1, 1, 1, 1, 1, 1, 1, 1, 1, 1, 1, 1, 1, 1] B5)] (by kernel_rfl) ?_
      refine Goes.runs 2 [(166, .bool true)] [.code (sub [1, 1, 1, 1, 1, 1, 1, 1, 1, 1, 1, 1, 1, 1, 0, 1] B5), .code (sub [1, 1, 1, 1, 1, 1, 1, 1, 1, 1, 1, 1, 1, 1, 1] B5)] (by kernel_rfl) ?_
      have p40 := (p40.front 0 _ rfl).drop
      have p40 := (p40.front 0 _ rfl).drop
      exact Goes.jump 214 [(1, .slice (Gp Gx1) x1.length cx1), (3, .int .u64 x3), (166, .bool true)] (by kernel_rfl) (W.tidepolelaw13_PostLists_l4 nz wz S0 w0 Lr _ _ h _ _ (((((((((((((((hx.trans z26).trans z27).trans z28).trans z29).trans z30).trans z31).trans z32).trans z33).trans z34).trans z35).trans z36).trans z37).trans z38).trans z39).trans z40) Gx1 cx1 csx1 csx1.length p40 (((((((((((((((fx1.ext z26).ext z27).ext z28).ext z29).ext z30).ext z31).ext z32).ext z33).ext z34).ext z35).ext z36).ext z37).ext z38).ext z39).ext z40))

def L.tidepolelaw13_PostLists_l1 (nz : Nat) (wz : World) (S0 : Fz) (w0 : World) (Lr : List Ent) : List (List Int) × List Int × List Int × Int × List (List Int) × Int → Bool → Prop := fun ⟨x0, x1, x2, x3, x13, x14⟩ r => ∀ S1 w1, Ext S0 w0 S1 w1 → ∀ (Ax0 : Option Addr) (cx0 : Nat) (Ax1 : Option Addr) (cx1 : Nat) (Ax2 : Option Addr) (cx2 : Nat) (Gx13 : Option Nat) (cx13 : Nat) (csx13 : List Value) (_ : Hp nz wz S1 w1 ((Gx13, .row 22 csx13 (cx13 * (kSl (kInt .u64)).size) 0) :: Lr)) (_ : Rd (kSl (kInt .u64)) S1 w1 Ax0 cx0 x0) (_ : Rd (kInt .u64) S1 w1 Ax1 cx1 x1) (_ : Rd (kInt .u64) S1 w1 Ax2 cx2 x2) (_ : Els (kSl (kInt .u64)) S1 w1 csx13 x13) (junk : Nat → Value),
  Goes Try.prog (base 5) [.code (sub [1, 1, 1, 0, 1, 0, 0] B5), .inLoop (sub [1, 1, 1, 0, 1, 0, 0] B5), .inBlock 0, .code (sub [1, 1, 1, 1] B5)] ⟨lfr 214 [(0, .slice Ax0 x0.length cx0), (1, .slice Ax1 x1.length cx1), (2, .slice Ax2 x2.length cx2), (3, .int .u64 x3), (13, .slice (Gp Gx13) x13.length cx13), (14, .int .i64 x14)] junk, []⟩ w1 (Done Try.prog 5 (Rets (Post.tidepolelaw13_PostLists nz wz S0 w0 Lr r)))

def L.tidepolelaw13_PostLists_l2 (nz : Nat) (wz : World) (S0 : Fz) (w0 : World) (Lr : List Ent) : List (List Int) × List Int × List Int × Int × List (List Int) × Int × Bool → Bool → Prop := fun ⟨x0, x1, x2, x3, x13, x14, x58⟩ r => ∀ S1 w1, Ext S0 w0 S1 w1 → ∀ (Ax0 : Option Addr) (cx0 : Nat) (Ax1 : Option Addr) (cx1 : Nat) (Ax2 : Option Addr) (cx2 : Nat) (Gx13 : Option Nat) (cx13 : Nat) (csx13 : List Value) (_ : Hp nz wz S1 w1 ((Gx13, .row 22 csx13 (cx13 * (kSl (kInt .u64)).size) 0) :: Lr)) (_ : Rd (kSl (kInt .u64)) S1 w1 Ax0 cx0 x0) (_ : Rd (kInt .u64) S1 w1 Ax1 cx1 x1) (_ : Rd (kInt .u64) S1 w1 Ax2 cx2 x2) (_ : Els (kSl (kInt .u64)) S1 w1 csx13 x13) (junk : Nat → Value),
  Goes Try.prog (base 5) [.code (sub [1, 1, 1, 0, 1, 0, 0, 0, 1] B5), .code (sub [1, 1, 1, 0, 1, 0, 0, 1] B5), .inLoop (sub [1, 1, 1, 0, 1, 0, 0] B5), .inBlock 0, .code (sub [1, 1, 1, 1] B5)] ⟨lfr 214 [(0, .slice Ax0 x0.length cx0), (1, .slice Ax1 x1.length cx1), (2, .slice Ax2 x2.length cx2), (3, .int .u64 x3), (13, .slice (Gp Gx13) x13.length cx13), (14, .int .i64 x14), (58, .bool x58)] junk, []⟩ w1 (Done Try.prog 5 (Rets (Post.tidepolelaw13_PostLists nz wz S0 w0 Lr r)))

theorem W.tidepolelaw13_PostLists_l1_all (nz : Nat) (wz : World) (S0 : Fz) (w0 : World) (Lr : List Ent) : (∀ a r, M.tidepolelaw13_PostLists_l1 a = some r → L.tidepolelaw13_PostLists_l1 nz wz S0 w0 Lr a r) ∧ (∀ a r, M.tidepolelaw13_PostLists_l2 a = some r → L.tidepolelaw13_PostLists_l2 nz wz S0 w0 Lr a r) := by
  refine M.tidepolelaw13_PostLists_l1.mutual_partial_correctness (L.tidepolelaw13_PostLists_l1 nz wz S0 w0 Lr) (L.tidepolelaw13_PostLists_l2 nz wz S0 w0 Lr) ?_ ?_
  · intro rec_tidepolelaw13_PostLists_l2 ih_tidepolelaw13_PostLists_l2 ⟨x0, x1, x2, x3, x13, x14⟩ r h S1 w1 hx Ax0 cx0 Ax1 cx1 Ax2 cx2 Gx13 cx13 csx13 p1 fx0 fx1 fx2 fx13 junk
    dsimp only at h
    refine Goes.runs 8 [(51, .int .i64 x14), (52, .slice Ax0 x0.length cx0), (53, .int .i64 (x0.length : Int)), (54, .bool (decide (x14 < (x0.length : Int)))), (55, .bool (decide (x14 < (x0.length : Int))))] [.inRegion (opsOf (sub [1, 1, 1, 0, 1, 0, 0, 0, 0] B5)) [5, 6, 7], .code (sub [1, 1, 1, 0, 1, 0, 0, 0, 1] B5), .code (sub [1, 1, 1, 0, 1, 0, 0, 1] B5), .inLoop (sub [1, 1, 1, 0, 1, 0, 0] B5), .inBlock 0, .code (sub [1, 1, 1, 1] B5)] (by kernel_rfl) ?_
    by_cases h29 : x14 < (x0.length : Int)
    · rw [if_pos h29] at h
      rw [decide_eq_true h29]
      refine Goes.runs 4 [(56, .int .i64 x14), (57, .bool (decide (x14 < 6))), (58, .bool (decide (x14 < 6)))] [.code (sub [1, 1, 1, 0, 1, 0, 0, 0, 1] B5), .code (sub [1, 1, 1, 0, 1, 0, 0, 1] B5), .inLoop (sub [1, 1, 1, 0, 1, 0, 0] B5), .inBlock 0, .code (sub [1, 1, 1, 1] B5)] (by kernel_rfl) ?_
      exact Goes.jump 214 [(0, .slice Ax0 x0.length cx0), (1, .slice Ax1 x1.length cx1), (2, .slice Ax2 x2.length cx2), (3, .int .u64 x3), (13, .slice (Gp Gx13) x13.length cx13), (14, .int .i64 x14), (58, .bool (decide (x14 < 6)))] (by kernel_rfl) (ih_tidepolelaw13_PostLists_l2 _ _ h _ _ hx Ax0 cx0 Ax1 cx1 Ax2 cx2 Gx13 cx13 csx13 p1 fx0 fx1 fx2 fx13)
    · rw [if_neg h29] at h
      rw [decide_eq_false h29]
      refine Goes.runs 4 [(56, undef), (57, undef), (58, .bool false)] [.code (sub [1, 1, 1, 0, 1, 0, 0, 0, 1] B5), .code (sub [1, 1, 1, 0, 1, 0, 0, 1] B5), .inLoop (sub [1, 1, 1, 0, 1, 0, 0] B5), .inBlock 0, .code (sub [1, 1, 1, 1] B5)] (by kernel_rfl) ?_
      exact Goes.jump 214 [(0, .slice Ax0 x0.length cx0), (1, .slice Ax1 x1.length cx1), (2, .slice Ax2 x2.length cx2), (3, .int .u64 x3), (13, .slice (Gp Gx13) x13.length cx13), (14, .int .i64 x14), (58, .bool false)] (by kernel_rfl) (ih_tidepolelaw13_PostLists_l2 _ _ h _ _ hx Ax0 cx0 Ax1 cx1 Ax2 cx2 Gx13 cx13 csx13 p1 fx0 fx1 fx2 fx13)
  · intro rec_tidepolelaw13_PostLists_l1 ih_tidepolelaw13_PostLists_l1 ⟨x0, x1, x2, x3, x13, x14, x58⟩ r h S1 w1 hx Ax0 cx0 Ax1 cx1 Ax2 cx2 Gx13 cx13 csx13 p1 fx0 fx1 fx2 fx13 junk
    dsimp only at h
    by_cases h30 : x58 = true
    · rw [if_pos h30] at h
      rw [h30]
      refine Goes.runs 8 [(61, .slice (Gp Gx13) x13.length cx13), (62, .slice Ax0 x0.length cx0), (63, .int .i64 x14)] [.inRegion (opsOf (sub [1, 1, 1, 0, 1, 0, 0, 1, 0, 0] B5)) [3, 4, 5, 6, 7, 8], .inBlock 1, .code (sub [1, 1, 1, 0, 1, 0, 0, 1, 1] B5), .inLoop (sub [1, 1, 1, 0, 1, 0, 0] B5), .inBlock 0, .code (sub [1, 1, 1, 1] B5)] (by kernel_rfl) ?_
      obtain ⟨g31, h⟩ := guard_some h
      obtain ⟨g32, h⟩ := guard_some h
      refine Op_.ixR 38 (.tmp 62) (.tmp 63) 64 0 22 .i64 x14 fx0 (Goes.vs (by kernel_rfl)) (by kernel_rfl) (by kernel_rfl) (by kernel_rfl) (by kernel_rfl) g31 g32 ?_
      rintro a33 _ f34 ⟨A35, c36, rfl, f37⟩
      refine Op_.ld1 22 (.tmp 64) 65 22 a33 (.slice A35 (gi x0 x14).length c36) (Goes.vs (by kernel_rfl)) (by kernel_rfl) (by kernel_rfl) (f34.cell 0 _ rfl) ?_
      obtain ⟨y38, e39, h⟩ := bind_some h
      try dsimp only at h
      refine Op_.call (.call { callee := .value (.func 14), args := #[(.tmp 65)], argTypes := #[22] }) 66 22 14 #[.slice A35 (gi x0 x14).length c36] (Goes.cs (by kernel_rfl)) (by kernel_rfl) (W.tidepolelaw13_own (gi x0 x14) y38 e39 nz wz S1 w1 ((Gx13, .row 22 csx13 (cx13 * (kSl (kInt .u64)).size) 0) :: Lr) A35 c36 p1 f37) ?_
      rintro _ w6 ⟨S6, G40, c41, cs42, rfl, z6, p6, f44⟩
      obtain ⟨S7, z7, p7, f46⟩ := p6.freezeRd 0 rfl f44 (by decide)
      have f48 : Els (kSl (kInt .u64)) S7 w6 ([.slice (Gp G40) y38.length c41] : List Value) [y38] := (Els.cons (K := (kSl (kInt .u64))) (vs := [.slice (Gp G40) y38.length c41]) (x := y38) ⟨_, _, rfl, f46⟩ Els.nil)
      refine Op_.made (.buildSlice 38 1 #[(0, (.tmp 66))]) 67 38 (fun b => .slice (Gp (some b)) 1 1) 22 ([.slice (Gp G40) y38.length c41] : List Value) p7 (Goes.vs (by kernel_rfl)) (by kernel_rfl) ?_
      intro b47 w8 z8 p8
      have p8 : Hp nz wz S7 w8 (((some b47), .row 22 ([.slice (Gp G40) y38.length c41] : List Value) (1 * (kSl (kInt .u64)).size) 0) :: (G40, .row 35 cs42 (c41 * (kInt .u64).size) cs42.length) :: (Gx13, .row 22 csx13 (cx13 * (kSl (kInt .u64)).size) 0) :: Lr) := p8
      obtain ⟨g53, h⟩ := guard_some h
      refine Op_.ap (K := (kSl (kInt .u64))) 38 (.tmp 61) (.tmp 67) 68 38 22 2 (.slice none 0 0) 24 cx13 x13 [y38] (Gp (some b47)) 1 p8 rfl (((fx13.ext z6).ext z7).ext z8) (Goes.vs (by kernel_rfl)) (by kernel_rfl) (by kernel_rfl) (by kernel_rfl) (by kernel_rfl) rfl (by decide) (f48.ext z8) (src_own p8 (q := 0) rfl) (by have := g53; omega) (by have := g53; omega) ?_
      intro w9 G54 c55 cs56 z9 p9 f57
      refine Goes.runs 9 [(13, .slice (Gp G54) (x13 ++ [y38]).length c55), (59, .int .i64 x14), (60, .int .i64 (wr .i64 (x14 + 1))), (14, .int .i64 (wr .i64 (x14 + 1)))] [.code (sub [1, 1, 1, 0, 1, 0, 0] B5), .inLoop (sub [1, 1, 1, 0, 1, 0, 0] B5), .inBlock 0, .code (sub [1, 1, 1, 1] B5)] (by kernel_rfl) ?_
      have p9 := (p9.front 0 _ rfl).drop
      have p9 := (p9.front 0 _ rfl).drop
      exact Goes.jump 214 [(0, .slice Ax0 x0.length cx0), (1, .slice Ax1 x1.length cx1), (2, .slice Ax2 x2.length cx2), (3, .int .u64 x3), (13, .slice (Gp G54) (x13 ++ [y38]).length c55), (14, .int .i64 (wr .i64 (x14 + 1)))] (by kernel_rfl) (ih_tidepolelaw13_PostLists_l1 _ _ h _ _ ((((hx.trans z6).trans z7).trans z8).trans z9) Ax0 cx0 Ax1 cx1 Ax2 cx2 G54 c55 cs56 p9 ((((fx0.ext z6).ext z7).ext z8).ext z9) ((((fx1.ext z6).ext z7).ext z8).ext z9) ((((fx2.ext z6).ext z7).ext z8).ext z9) f57)
    · rw [if_neg h30] at h
      have h30' : x58 = false := by simpa using h30
      rw [h30']
      refine Goes.runs 5 [(69, .slice Ax1 x1.length cx1)] [.inRegion (opsOf (sub [1, 1, 1, 1, 0] B5)) [1, 2, 3, 4, 5], .code (sub [1, 1, 1, 1, 1] B5)] (by kernel_rfl) ?_
      obtain ⟨y58, e59, h⟩ := bind_some h
      try dsimp only at h
      refine Op_.call (.call { callee := .value (.func 14), args := #[(.tmp 69)], argTypes := #[22] }) 70 22 14 #[.slice Ax1 x1.length cx1] (Goes.cs (by kernel_rfl)) (by kernel_rfl) (W.tidepolelaw13_own x1 y58 e59 nz wz S1 w1 ((Gx13, .row 22 csx13 (cx13 * (kSl (kInt .u64)).size) 0) :: Lr) Ax1 cx1 p1 fx1) ?_
      rintro _ w10 ⟨S10, G60, c61, cs62, rfl, z10, p10, f64⟩
      refine Goes.runs 1 [(71, .slice Ax2 x2.length cx2)] [.inRegion (opsOf (sub [1, 1, 1, 1, 0] B5)) [3, 4, 5], .code (sub [1, 1, 1, 1, 1] B5)] (by kernel_rfl) ?_
      obtain ⟨y66, e67, h⟩ := bind_some h
      try dsimp only at h
      refine Op_.call (.call { callee := .value (.func 14), args := #[(.tmp 71)], argTypes := #[22] }) 72 22 14 #[.slice Ax2 x2.length cx2] (Goes.cs (by kernel_rfl)) (by kernel_rfl) (W.tidepolelaw13_own x2 y66 e67 nz wz S10 w10 ((G60, .row 35 cs62 (c61 * (kInt .u64).size) 0) :: (Gx13, .row 22 csx13 (cx13 * (kSl (kInt .u64)).size) 0) :: Lr) Ax2 cx2 p10 (fx2.ext z10)) ?_
      rintro _ w11 ⟨S11, G68, c69, cs70, rfl, z11, p11, f72⟩
      refine Goes.runs 6 [(1, .slice (Gp G60) y58.length c61), (2, .slice (Gp G68) y66.length c69), (74, .slice (Gp Gx13) x13.length cx13)] [.inRegion (opsOf (sub [1, 1, 1, 1, 1, 0] B5)) [1, 2, 3, 4, 5, 6], .code (sub [1, 1, 1, 1, 1, 1] B5)] (by kernel_rfl) ?_
      obtain ⟨S12, z12, p12, f74⟩ := p11.freezeRd 2 rfl ((fx13.ext z10).ext z11) (by decide)
      obtain ⟨y75, e76, h⟩ := bind_some h
      try dsimp only at h
      refine Op_.call (.call { callee := .value (.func 19), args := #[(.tmp 74)], argTypes := #[38] }) 75 26 19 #[.slice (Gp Gx13) x13.length cx13] (Goes.cs (by kernel_rfl)) (by kernel_rfl) (W.post_And x13 y75 e76 nz wz S12 w11 ((G68, .row 35 cs70 (c69 * (kInt .u64).size) 0) :: (G60, .row 35 cs62 (c61 * (kInt .u64).size) 0) :: (Gx13, .row 22 csx13 (cx13 * (kSl (kInt .u64)).size) csx13.length) :: Lr) (Gp Gx13) cx13 p12 f74) ?_
      rintro _ w13 ⟨S13, G77, c78, cs79, rfl, z13, p13, f81⟩
      refine Goes.runs 9 [(73, .tuple #[.slice (Gp G77) y75.1.length c78, .int .i64 y75.2]), (76, .slice (Gp G77) y75.1.length c78), (77, .int .i64 y75.2), (15, .slice (Gp G77) y75.1.length c78), (16, .int .i64 y75.2), (79, .slice (Gp Gx13) x13.length cx13)] [.inRegion (opsOf (sub [1, 1, 1, 1, 1, 1, 0] B5)) [1, 2, 3, 4, 5, 6], .code (sub [1, 1, 1, 1, 1, 1, 1] B5)] (by kernel_rfl) ?_
      obtain ⟨y83, e84, h⟩ := bind_some h
      try dsimp only at h
      refine Op_.call (.call { callee := .value (.func 21), args := #[(.tmp 79)], argTypes := #[38] }) 80 26 21 #[.slice (Gp Gx13) x13.length cx13] (Goes.cs (by kernel_rfl)) (by kernel_rfl) (W.tidepoleref13_And x13 y83 e84 nz wz S13 w13 ((G77, .row 35 cs79 (c78 * (kInt .u64).size) 0) :: (G68, .row 35 cs70 (c69 * (kInt .u64).size) 0) :: (G60, .row 35 cs62 (c61 * (kInt .u64).size) 0) :: (Gx13, .row 22 csx13 (cx13 * (kSl (kInt .u64)).size) csx13.length) :: Lr) (Gp Gx13) cx13 p13 (f74.ext z13)) ?_
      rintro _ w14 ⟨S14, G85, c86, cs87, rfl, z14, p14, f89⟩
      refine Goes.runs 9 [(78, .tuple #[.slice (Gp G85) y83.1.length c86, .int .i64 y83.2]), (81, .slice (Gp G85) y83.1.length c86), (82, .int .i64 y83.2), (17, .slice (Gp G85) y83.1.length c86), (18, .int .i64 y83.2), (84, .slice (Gp Gx13) x13.length cx13)] [.inRegion (opsOf (sub [1, 1, 1, 1, 1, 1, 1, 0] B5)) [1, 2, 3, 4, 5, 6], .code (sub [1, 1, 1, 1, 1, 1, 1, 1] B5)] (by kernel_rfl) ?_
      obtain ⟨y91, e92, h⟩ := bind_some h
      try dsimp only at h
      refine Op_.call (.call { callee := .value (.func 20), args := #[(.tmp 84)], argTypes := #[38] }) 85 26 20 #[.slice (Gp Gx13) x13.length cx13] (Goes.cs (by kernel_rfl)) (by kernel_rfl) (W.post_Or x13 y91 e92 nz wz S14 w14 ((G85, .row 35 cs87 (c86 * (kInt .u64).size) 0) :: (G77, .row 35 cs79 (c78 * (kInt .u64).size) 0) :: (G68, .row 35 cs70 (c69 * (kInt .u64).size) 0) :: (G60, .row 35 cs62 (c61 * (kInt .u64).size) 0) :: (Gx13, .row 22 csx13 (cx13 * (kSl (kInt .u64)).size) csx13.length) :: Lr) (Gp Gx13) cx13 p14 ((f74.ext z13).ext z14)) ?_
      rintro _ w15 ⟨S15, G93, c94, cs95, rfl, z15, p15, f97⟩
      refine Goes.runs 9 [(83, .tuple #[.slice (Gp G93) y91.1.length c94, .int .i64 y91.2]), (86, .slice (Gp G93) y91.1.length c94), (87, .int .i64 y91.2), (19, .slice (Gp G93) y91.1.length c94), (20, .int .i64 y91.2), (89, .slice (Gp Gx13) x13.length cx13)] [.inRegion (opsOf (sub [1, 1, 1, 1, 1, 1, 1, 1, 0] B5)) [1, 2, 3, 4, 5, 6], .code (sub [1, 1, 1, 1, 1, 1, 1, 1, 1] B5)] (by kernel_rfl) ?_
      obtain ⟨y99, e100, h⟩ := bind_some h
      try dsimp only at h
      refine Op_.call (.call { callee := .value (.func 22), args := #[(.tmp 89)], argTypes := #[38] }) 90 26 22 #[.slice (Gp Gx13) x13.length cx13] (Goes.cs (by kernel_rfl)) (by kernel_rfl) (W.tidepoleref13_Or x13 y99 e100 nz wz S15 w15 ((G93, .row 35 cs95 (c94 * (kInt .u64).size) 0) :: (G85, .row 35 cs87 (c86 * (kInt .u64).size) 0) :: (G77, .row 35 cs79 (c78 * (kInt .u64).size) 0) :: (G68, .row 35 cs70 (c69 * (kInt .u64).size) 0) :: (G60, .row 35 cs62 (c61 * (kInt .u64).size) 0) :: (Gx13, .row 22 csx13 (cx13 * (kSl (kInt .u64)).size) csx13.length) :: Lr) (Gp Gx13) cx13 p15 (((f74.ext z13).ext z14).ext z15)) ?_
      rintro _ w16 ⟨S16, G101, c102, cs103, rfl, z16, p16, f105⟩
      have p16 := (p16.front 6 _ rfl).drop
      refine Goes.runs 11 [(88, .tuple #[.slice (Gp G101) y99.1.length c102, .int .i64 y99.2]), (91, .slice (Gp G101) y99.1.length c102), (92, .int .i64 y99.2), (21, .slice (Gp G101) y99.1.length c102), (22, .int .i64 y99.2), (93, .slice (Gp G77) y75.1.length c78), (94, .slice (Gp G85) y83.1.length c86)] [.inRegion (opsOf (sub [1, 1, 1, 1, 1, 1, 1, 1, 1, 0, 0] B5)) [2, 3, 4, 5, 6, 7, 8, 9, 10, 11, 12, 13, 14, 15, 16, 17, 18, 19, 20, 21, 22, 23, 24, 25, 26], .code (sub [1, 1, 1, 1, 1, 1, 1, 1, 1, 0, 1] B5), .code (sub [1, 1, 1, 1, 1, 1, 1, 1, 1, 1] B5)] (by kernel_rfl) ?_
      obtain ⟨S17, z17, p17, f107⟩ := p16.freezeRd 3 rfl (((f81.ext z14).ext z15).ext z16) (by decide)
      obtain ⟨S18, z18, p18, f108⟩ := p17.freezeRd 2 rfl (((f89.ext z15).ext z16).ext z17) (by decide)
      obtain ⟨y109, e110, h⟩ := bind_some h
      try dsimp only at h
      refine Op_.call (.call { callee := .value (.func 11), args := #[(.tmp 93), (.tmp 94)], argTypes := #[22, 22] }) 95 4 11 #[.slice (Gp G77) y75.1.length c78, .slice (Gp G85) y83.1.length c86] (Goes.cs (by kernel_rfl)) (by kernel_rfl) (W.tidepolelaw13_same y75.1 y83.1 y109 e110 nz wz S18 w16 ((G101, .row 35 cs103 (c102 * (kInt .u64).size) 0) :: (G93, .row 35 cs95 (c94 * (kInt .u64).size) 0) :: (G85, .row 35 cs87 (c86 * (kInt .u64).size) cs87.length) :: (G77, .row 35 cs79 (c78 * (kInt .u64).size) cs79.length) :: (G68, .row 35 cs70 (c69 * (kInt .u64).size) 0) :: (G60, .row 35 cs62 (c61 * (kInt .u64).size) 0) :: Lr) (Gp G77) c78 (Gp G85) c86 p18 (f107.ext z18) f108) ?_
      rintro _ w19 ⟨S19, rfl, z19, p19⟩
      have p19 := (p19.front 2 _ rfl).drop
      have p19 := (p19.front 2 _ rfl).drop
      refine Goes.runs 2 [(96, .bool (!y109)), (97, .bool (!y109))] [.inRegion (opsOf (sub [1, 1, 1, 1, 1, 1, 1, 1, 1, 0, 0] B5)) [5, 6, 7, 8, 9, 10, 11, 12, 13, 14, 15, 16, 17, 18, 19, 20, 21, 22, 23, 24, 25, 26], .code (sub [1, 1, 1, 1, 1, 1, 1, 1, 1, 0, 1] B5), .code (sub [1, 1, 1, 1, 1, 1, 1, 1, 1, 1] B5)] (by kernel_rfl) ?_
      by_cases h111 : y109 = true
      · rw [if_pos h111] at h
        rw [h111]
        refine Goes.runs 5 [(98, .int .i64 y75.2), (99, .int .i64 y83.2), (100, .bool (!(decide (y75.2 = y83.2)))), (101, .bool (!(decide (y75.2 = y83.2)))), (102, .bool (!(decide (y75.2 = y83.2))))] [.inRegion (opsOf (sub [1, 1, 1, 1, 1, 1, 1, 1, 1, 0, 0] B5)) [10, 11, 12, 13, 14, 15, 16, 17, 18, 19, 20, 21, 22, 23, 24, 25, 26], .code (sub [1, 1, 1, 1, 1, 1, 1, 1, 1, 0, 1] B5), .code (sub [1, 1, 1, 1, 1, 1, 1, 1, 1, 1] B5)] (by kernel_rfl) ?_
        by_cases h112 : y75.2 = y83.2
        · rw [if_pos h112] at h
          rw [decide_eq_true h112]
          refine Goes.runs 2 [(103, .slice (Gp G93) y91.1.length c94), (104, .slice (Gp G101) y99.1.length c102)] [.inRegion (opsOf (sub [1, 1, 1, 1, 1, 1, 1, 1, 1, 0, 0] B5)) [12, 13, 14, 15, 16, 17, 18, 19, 20, 21, 22, 23, 24, 25, 26], .code (sub [1, 1, 1, 1, 1, 1, 1, 1, 1, 0, 1] B5), .code (sub [1, 1, 1, 1, 1, 1, 1, 1, 1, 1] B5)] (by kernel_rfl) ?_
          obtain ⟨S20, z20, p20, f113⟩ := p19.freezeRd 1 rfl ((((f97.ext z16).ext z17).ext z18).ext z19) (by decide)
          obtain ⟨S21, z21, p21, f114⟩ := p20.freezeRd 0 rfl ((((f105.ext z17).ext z18).ext z19).ext z20) (by decide)
          obtain ⟨y115, e116, h⟩ := bind_some h
          try dsimp only at h
          refine Op_.call (.call { callee := .value (.func 11), args := #[(.tmp 103), (.tmp 104)], argTypes := #[22, 22] }) 105 4 11 #[.slice (Gp G93) y91.1.length c94, .slice (Gp G101) y99.1.length c102] (Goes.cs (by kernel_rfl)) (by kernel_rfl) (W.tidepolelaw13_same y91.1 y99.1 y115 e116 nz wz S21 w19 ((G101, .row 35 cs103 (c102 * (kInt .u64).size) cs103.length) :: (G93, .row 35 cs95 (c94 * (kInt .u64).size) cs95.length) :: (G68, .row 35 cs70 (c69 * (kInt .u64).size) 0) :: (G60, .row 35 cs62 (c61 * (kInt .u64).size) 0) :: Lr) (Gp G93) c94 (Gp G101) c102 p21 (f113.ext z21) f114) ?_
          rintro _ w22 ⟨S22, rfl, z22, p22⟩
          have p22 := (p22.front 0 _ rfl).drop
          have p22 := (p22.front 0 _ rfl).drop
          refine Goes.runs 3 [(106, .bool (!y115)), (107, .bool (!y115)), (108, .bool (!y115))] [.inRegion (opsOf (sub [1, 1, 1, 1, 1, 1, 1, 1, 1, 0, 0] B5)) [16, 17, 18, 19, 20, 21, 22, 23, 24, 25, 26], .code (sub [1, 1, 1, 1, 1, 1, 1, 1, 1, 0, 1] B5), .code (sub [1, 1, 1, 1, 1, 1, 1, 1, 1, 1] B5)] (by kernel_rfl) ?_
          by_cases h117 : y115 = true
          · rw [if_pos h117] at h
            rw [h117]
            refine Goes.runs 5 [(109, .int .i64 y91.2), (110, .int .i64 y99.2), (111, .bool (!(decide (y91.2 = y99.2)))), (112, .bool (!(decide (y91.2 = y99.2)))), (113, .bool (!(decide (y91.2 = y99.2))))] [.inRegion (opsOf (sub [1, 1, 1, 1, 1, 1, 1, 1, 1, 0, 0] B5)) [21, 22, 23, 24, 25, 26], .code (sub [1, 1, 1, 1, 1, 1, 1, 1, 1, 0, 1] B5), .code (sub [1, 1, 1, 1, 1, 1, 1, 1, 1, 1] B5)] (by kernel_rfl) ?_
            by_cases h118 : y91.2 = y99.2
            · rw [if_pos h118] at h
              rw [decide_eq_true h118]
              refine Goes.runs 1 [(114, .slice (Gp G60) y58.length c61)] [.inRegion (opsOf (sub [1, 1, 1, 1, 1, 1, 1, 1, 1, 0, 0] B5)) [22, 23, 24, 25, 26], .code (sub [1, 1, 1, 1, 1, 1, 1, 1, 1, 0, 1] B5), .code (sub [1, 1, 1, 1, 1, 1, 1, 1, 1, 1] B5)] (by kernel_rfl) ?_
              obtain ⟨S23, z23, p23, f119⟩ := p22.freezeRd 1 rfl ((((((((((((f64.ext z11).ext z12).ext z13).ext z14).ext z15).ext z16).ext z17).ext z18).ext z19).ext z20).ext z21).ext z22) (by decide)
              obtain ⟨y120, e121, h⟩ := bind_some h
              try dsimp only at h
              refine Op_.call (.call { callee := .value (.func 23), args := #[(.tmp 114)], argTypes := #[22] }) 115 25 23 #[.slice (Gp G60) y58.length c61] (Goes.cs (by kernel_rfl)) (by kernel_rfl) (W.post_Check y58 y120 e121 nz wz S23 w22 ((G68, .row 35 cs70 (c69 * (kInt .u64).size) 0) :: (G60, .row 35 cs62 (c61 * (kInt .u64).size) cs62.length) :: Lr) (Gp G60) c61 p23 f119) ?_
              rintro _ w24 ⟨S24, rfl, z24, p24⟩
              refine Goes.runs 1 [(116, .slice (Gp G60) y58.length c61)] [.inRegion (opsOf (sub [1, 1, 1, 1, 1, 1, 1, 1, 1, 0, 0] B5)) [24, 25, 26], .code (sub [1, 1, 1, 1, 1, 1, 1, 1, 1, 0, 1] B5), .code (sub [1, 1, 1, 1, 1, 1, 1, 1, 1, 1] B5)] (by kernel_rfl) ?_
              obtain ⟨y122, e123, h⟩ := bind_some h
              try dsimp only at h
              refine Op_.call (.call { callee := .value (.func 24), args := #[(.tmp 116)], argTypes := #[22] }) 117 25 24 #[.slice (Gp G60) y58.length c61] (Goes.cs (by kernel_rfl)) (by kernel_rfl) (W.tidepoleref13_Check y58 y122 e123 nz wz S24 w24 ((G68, .row 35 cs70 (c69 * (kInt .u64).size) 0) :: (G60, .row 35 cs62 (c61 * (kInt .u64).size) cs62.length) :: Lr) (Gp G60) c61 p24 (f119.ext z24)) ?_
              rintro _ w25 ⟨S25, rfl, z25, p25⟩
              refine Goes.runs 3 [(118, .bool (!(decide (y120 = y122)))), (119, .bool (!(decide (y120 = y122))))] [.code (sub [1, 1, 1, 1, 1, 1, 1, 1, 1, 0, 1] B5), .code (sub [1, 1, 1, 1, 1, 1, 1, 1, 1, 1] B5)] (by kernel_rfl) ?_
              have p25 := p25.front 0 _ rfl
              have p25 := p25.front 1 _ rfl
              exact Goes.jump 214 [(1, .slice (Gp G60) y58.length c61), (2, .slice (Gp G68) y66.length c69), (3, .int .u64 x3), (119, .bool (!(decide (y120 = y122))))] (by kernel_rfl) (W.tidepolelaw13_PostLists_l3 nz wz S0 w0 Lr _ _ h _ _ ((((((((((((((((hx.trans z10).trans z11).trans z12).trans z13).trans z14).trans z15).trans z16).trans z17).trans z18).trans z19).trans z20).trans z21).trans z22).trans z23).trans z24).trans z25) G60 c61 cs62 cs62.length G68 c69 cs70 p25 (((((((((((((((f64.ext z11).ext z12).ext z13).ext z14).ext z15).ext z16).ext z17).ext z18).ext z19).ext z20).ext z21).ext z22).ext z23).ext z24).ext z25) ((((((((((((((f72.ext z12).ext z13).ext z14).ext z15).ext z16).ext z17).ext z18).ext z19).ext z20).ext z21).ext z22).ext z23).ext z24).ext z25))
            · rw [if_neg h118] at h
              rw [decide_eq_false h118]
              refine Goes.runs 7 [(114, undef), (115, undef), (116, undef), (117, undef), (118, undef), (119, .bool true)] [.code (sub [1, 1, 1, 1, 1, 1, 1, 1, 1, 0, 1] B5), .code (sub [1, 1, 1, 1, 1, 1, 1, 1, 1, 1] B5)] (by kernel_rfl) ?_
              have p22 := p22.front 0 _ rfl
              have p22 := p22.front 1 _ rfl
              exact Goes.jump 214 [(1, .slice (Gp G60) y58.length c61), (2, .slice (Gp G68) y66.length c69), (3, .int .u64 x3), (119, .bool true)] (by kernel_rfl) (W.tidepolelaw13_PostLists_l3 nz wz S0 w0 Lr _ _ h _ _ (((((((((((((hx.trans z10).trans z11).trans z12).trans z13).trans z14).trans z15).trans z16).trans z17).trans z18).trans z19).trans z20).trans z21).trans z22) G60 c61 cs62 0 G68 c69 cs70 p22 ((((((((((((f64.ext z11).ext z12).ext z13).ext z14).ext z15).ext z16).ext z17).ext z18).ext z19).ext z20).ext z21).ext z22) (((((((((((f72.ext z12).ext z13).ext z14).ext z15).ext z16).ext z17).ext z18).ext z19).ext z20).ext z21).ext z22))
          · rw [if_neg h117] at h
            have h117' : y115 = false := by simpa using h117
            rw [h117']
            refine Goes.runs 12 [(109, undef), (110, undef), (111, undef), (112, .bool true), (113, .bool true), (114, undef), (115, undef), (116, undef), (117, undef), (118, undef), (119, .bool true)] [.code (sub [1, 1, 1, 1, 1, 1, 1, 1, 1, 0, 1] B5), .code (sub [1, 1, 1, 1, 1, 1, 1, 1, 1, 1] B5)] (by kernel_rfl) ?_
            have p22 := p22.front 0 _ rfl
            have p22 := p22.front 1 _ rfl
            exact Goes.jump 214 [(1, .slice (Gp G60) y58.length c61), (2, .slice (Gp G68) y66.length c69), (3, .int .u64 x3), (119, .bool true)] (by kernel_rfl) (W.tidepolelaw13_PostLists_l3 nz wz S0 w0 Lr _ _ h _ _ (((((((((((((hx.trans z10).trans z11).trans z12).trans z13).trans z14).trans z15).trans z16).trans z17).trans z18).trans z19).trans z20).trans z21).trans z22) G60 c61 cs62 0 G68 c69 cs70 p22 ((((((((((((f64.ext z11).ext z12).ext z13).ext z14).ext z15).ext z16).ext z17).ext z18).ext z19).ext z20).ext z21).ext z22) (((((((((((f72.ext z12).ext z13).ext z14).ext z15).ext z16).ext z17).ext z18).ext z19).ext z20).ext z21).ext z22))
        · rw [if_neg h112] at h
          rw [decide_eq_false h112]
          refine Goes.runs 14 [(103, undef), (104, undef), (105, undef), (106, undef), (107, .bool true), (108, .bool true), (109, undef), (110, undef), (111, undef), (112, .bool true), (113, .bool true), (114, undef), (115, undef), (116, undef)] [.inRegion (opsOf (sub [1, 1, 1, 1, 1, 1, 1, 1, 1, 0, 0] B5)) [24, 25, 26], .code (sub [1, 1, 1, 1, 1, 1, 1, 1, 1, 0, 1] B5), .code (sub [1, 1, 1, 1, 1, 1, 1, 1, 1, 1] B5)] (by kernel_rfl) ?_
          refine Goes.runs 4 [(117, undef), (118, undef), (119, .bool true)] [.code (sub [1, 1, 1, 1, 1, 1, 1, 1, 1, 0, 1] B5), .code (sub [1, 1, 1, 1, 1, 1, 1, 1, 1, 1] B5)] (by kernel_rfl) ?_
          have p19 := (p19.front 0 _ rfl).drop
          have p19 := (p19.front 0 _ rfl).drop
          have p19 := p19.front 0 _ rfl
          have p19 := p19.front 1 _ rfl
          exact Goes.jump 214 [(1, .slice (Gp G60) y58.length c61), (2, .slice (Gp G68) y66.length c69), (3, .int .u64 x3), (119, .bool true)] (by kernel_rfl) (W.tidepolelaw13_PostLists_l3 nz wz S0 w0 Lr _ _ h _ _ ((((((((((hx.trans z10).trans z11).trans z12).trans z13).trans z14).trans z15).trans z16).trans z17).trans z18).trans z19) G60 c61 cs62 0 G68 c69 cs70 p19 (((((((((f64.ext z11).ext z12).ext z13).ext z14).ext z15).ext z16).ext z17).ext z18).ext z19) ((((((((f72.ext z12).ext z13).ext z14).ext z15).ext z16).ext z17).ext z18).ext z19))
      · rw [if_neg h111] at h
        have h111' : y109 = false := by simpa using h111
        rw [h111']
        refine Goes.runs 14 [(98, undef), (99, undef), (100, undef), (101, .bool true), (102, .bool true), (103, undef), (104, undef), (105, undef), (106, undef), (107, .bool true), (108, .bool true), (109, undef), (110, undef), (111, undef)] [.inRegion (opsOf (sub [1, 1, 1, 1, 1, 1, 1, 1, 1, 0, 0] B5)) [19, 20, 21, 22, 23, 24, 25, 26], .code (sub [1, 1, 1, 1, 1, 1, 1, 1, 1, 0, 1] B5), .code (sub [1, 1, 1, 1, 1, 1, 1, 1, 1, 1] B5)] (by kernel_rfl) ?_
        refine Goes.runs 9 [(112, .bool true), (113, .bool true), (114, undef), (115, undef), (116, undef), (117, undef), (118, undef), (119, .bool true)] [.code (sub [1, 1, 1, 1, 1, 1, 1, 1, 1, 0, 1] B5), .code (sub [1, 1, 1, 1, 1, 1, 1, 1, 1, 1] B5)] (by kernel_rfl) ?_
        have p19 := (p19.front 0 _ rfl).drop
        have p19 := (p19.front 0 _ rfl).drop
        have p19 := p19.front 0 _ rfl
        have p19 := p19.front 1 _ rfl
        exact Goes.jump 214 [(1, .slice (Gp G60) y58.length c61), (2, .slice (Gp G68) y66.length c69), (3, .int .u64 x3), (119, .bool true)] (by kernel_rfl) (W.tidepolelaw13_PostLists_l3 nz wz S0 w0 Lr _ _ h _ _ ((((((((((hx.trans z10).trans z11).trans z12).trans z13).trans z14).trans z15).trans z16).trans z17).trans z18).trans z19) G60 c61 cs62 0 G68 c69 cs70 p19 (((((((((f64.ext z11).ext z12).ext z13).ext z14).ext z15).ext z16).ext z17).ext z18).ext z19) ((((((((f72.ext z12).ext z13).ext z14).ext z15).ext z16).ext z17).ext z18).ext z19))

theorem W.tidepolelaw13_PostLists_l1 (nz : Nat) (wz : World) (S0 : Fz) (w0 : World) (Lr : List Ent) : ∀ a r, M.tidepolelaw13_PostLists_l1 a = some r → L.tidepolelaw13_PostLists_l1 nz wz S0 w0 Lr a r := (W.tidepolelaw13_PostLists_l1_all nz wz S0 w0 Lr).1

theorem W.tidepolelaw13_PostLists_l2 (nz : Nat) (wz : World) (S0 : Fz) (w0 : World) (Lr : List Ent) : ∀ a r, M.tidepolelaw13_PostLists_l2 a = some r → L.tidepolelaw13_PostLists_l2 nz wz S0 w0 Lr a r := (W.tidepolelaw13_PostLists_l1_all nz wz S0 w0 Lr).2

theorem W.tidepolelaw13_PostLists (x0 : List (List Int)) (x1 : List Int) (x2 : List Int) (x3 : Int) (r : Bool) (h : M.tidepolelaw13_PostLists x0 x1 x2 x3 = some r) (nz : Nat) (wz : World) (S0 : Fz) (w0 : World) (Lr : List Ent) (Ax0 : Option Addr) (cx0 : Nat) (Ax1 : Option Addr) (cx1 : Nat) (Ax2 : Option Addr) (cx2 : Nat) (p0 : Hp nz wz S0 w0 (Lr)) (fx0 : Rd (kSl (kInt .u64)) S0 w0 Ax0 cx0 x0) (fx1 : Rd (kInt .u64) S0 w0 Ax1 cx1 x1) (fx2 : Rd (kInt .u64) S0 w0 Ax2 cx2 x2) :
    Calls Try.prog 5 #[.slice Ax0 x0.length cx0, .slice Ax1 x1.length cx1, .slice Ax2 x2.length cx2, .int .u64 x3] w0 (Rets (Post.tidepolelaw13_PostLists nz wz S0 w0 Lr r)) := by
  refine calls_of_goes (fn := Try.f5) (c := B5) (by kernel_rfl) (by kernel_rfl) 210 (by kernel_rfl) ?_
  refine Goes.jump 214 [(0, .slice Ax0 x0.length cx0), (1, .slice Ax1 x1.length cx1), (2, .slice Ax2 x2.length cx2), (3, .int .u64 x3)] (by kernel_rfl) (fun junk => ?_)
  delta M.tidepolelaw13_PostLists at h
  refine Goes.runs 11 [(8, .bool false), (25, .slice Ax0 x0.length cx0), (26, .int .i64 (x0.length : Int)), (27, .bool (decide ((x0.length : Int) > 4096)))] [.code (sub [1, 0, 1] B5), .code (sub [1, 1] B5)] (by kernel_rfl) ?_
  by_cases h1 : (x0.length : Int) > 4096
  · rw [if_pos h1] at h
    rw [decide_eq_true h1]
    refine Goes.runs 4 [(28, .slice Ax0 x0.length cx0)] [.inRegion (opsOf (sub [1, 0, 1, 0, 0] B5)) [1, 2], .code (sub [1, 0, 1, 0, 1] B5), .code (sub [1, 1] B5)] (by kernel_rfl) ?_
    obtain ⟨g2, h⟩ := guard_some h
    refine Op_.slR 38 (.tmp 28) none (some (.const (.int .i64 4097))) 29 38 22 0 4097 fx0 (Goes.vs (by kernel_rfl)) (by kernel_rfl) (by kernel_rfl) (by kernel_rfl) Bnd.no (Bnd.at_ .i64 (by kernel_rfl)) (by decide) (by decide) g2 ?_
    intro A3 c4 f5
    refine Goes.runs 5 [(0, .slice A3 (sl x0 0 4097).length c4), (31, .slice A3 (sl x0 0 4097).length c4)] [.inRegion (opsOf (sub [1, 0, 1, 0, 1, 0] B5)) [1, 2, 3, 4, 5, 6], .code (sub [1, 0, 1, 0, 1, 1] B5), .code (sub [1, 1] B5)] (by kernel_rfl) ?_
    obtain ⟨y6, e7, h⟩ := bind_some h
    try dsimp only at h
    refine Op_.call (.call { callee := .value (.func 19), args := #[(.tmp 31)], argTypes := #[38] }) 32 26 19 #[.slice A3 (sl x0 0 4097).length c4] (Goes.cs (by kernel_rfl)) (by kernel_rfl) (W.post_And (sl x0 0 4097) y6 e7 nz wz S0 w0 (Lr) A3 c4 p0 f5) ?_
    rintro _ w2 ⟨S2, G8, c9, cs10, rfl, z2, p2, f12⟩
    refine Goes.runs 9 [(30, .tuple #[.slice (Gp G8) y6.1.length c9, .int .i64 y6.2]), (33, .slice (Gp G8) y6.1.length c9), (34, .int .i64 y6.2), (9, .slice (Gp G8) y6.1.length c9), (10, .int .i64 y6.2), (36, .slice A3 (sl x0 0 4097).length c4)] [.inRegion (opsOf (sub [1, 0, 1, 0, 1, 1, 0] B5)) [1, 2, 3, 4, 5, 6], .code (sub [1, 0, 1, 0, 1, 1, 1] B5), .code (sub [1, 1] B5)] (by kernel_rfl) ?_
    obtain ⟨y14, e15, h⟩ := bind_some h
    try dsimp only at h
    refine Op_.call (.call { callee := .value (.func 20), args := #[(.tmp 36)], argTypes := #[38] }) 37 26 20 #[.slice A3 (sl x0 0 4097).length c4] (Goes.cs (by kernel_rfl)) (by kernel_rfl) (W.post_Or (sl x0 0 4097) y14 e15 nz wz S2 w2 ((G8, .row 35 cs10 (c9 * (kInt .u64).size) 0) :: Lr) A3 c4 p2 (f5.ext z2)) ?_
    rintro _ w3 ⟨S3, G16, c17, cs18, rfl, z3, p3, f20⟩
    have p3 := (p3.front 1 _ rfl).drop
    refine Goes.runs 11 [(35, .tuple #[.slice (Gp G16) y14.1.length c17, .int .i64 y14.2]), (38, .slice (Gp G16) y14.1.length c17), (39, .int .i64 y14.2), (11, .slice (Gp G16) y14.1.length c17), (12, .int .i64 y14.2), (40, .int .i64 y6.2), (41, .bool (decide (y6.2 = 3))), (42, .bool (decide (y6.2 = 3)))] [.inRegion (opsOf (sub [1, 0, 1, 0, 1, 1, 1, 0] B5)) [3, 4, 5, 6, 7, 8, 9, 10], .code (sub [1, 0, 1, 0, 1, 1, 1, 1] B5), .code (sub [1, 1] B5)] (by kernel_rfl) ?_
    by_cases h22 : y6.2 = 3
    · rw [if_pos h22] at h
      rw [decide_eq_true h22]
      refine Goes.runs 5 [(43, .int .i64 y14.2), (44, .int .i64 y6.2), (45, .bool (decide (y14.2 = y6.2))), (46, .bool (decide (y14.2 = y6.2))), (47, .bool (decide (y14.2 = y6.2)))] [.inRegion (opsOf (sub [1, 0, 1, 0, 1, 1, 1, 0] B5)) [8, 9, 10], .code (sub [1, 0, 1, 0, 1, 1, 1, 1] B5), .code (sub [1, 1] B5)] (by kernel_rfl) ?_
      by_cases h23 : y14.2 = y6.2
      · rw [if_pos h23] at h
        rw [decide_eq_true h23]
        obtain ⟨y24, e25, h⟩ := bind_some h
        try dsimp only at h
        refine Op_.call (.call { callee := .value (.func 8), args := #[], argTypes := #[] }) 48 4 8 #[] (Goes.cs (by kernel_rfl)) (by kernel_rfl) (W.tidepolelaw13_works  y24 e25 nz wz S3 w3 ((G16, .row 35 cs18 (c17 * (kInt .u64).size) 0) :: Lr)  p3 ) ?_
        rintro _ w4 ⟨S4, rfl, z4, p4⟩
        have p4 := (p4.front 0 _ rfl).drop
        refine Goes.runs 3 [(49, .bool y24), (8, .bool y24)] [.code (sub [1, 0, 1, 0, 1, 1, 1, 1] B5), .code (sub [1, 1] B5)] (by kernel_rfl) ?_
        exact Goes.jump 214 [(8, .bool y24)] (by kernel_rfl) (W.tidepolelaw13_PostLists_l0 nz wz S0 w0 Lr _ _ h _ _ ((((Ext.refl S0 w0).trans z2).trans z3).trans z4) p4)
      · rw [if_neg h23] at h
        rw [decide_eq_false h23]
        refine Goes.runs 4 [(48, undef), (49, .bool false), (8, .bool false)] [.code (sub [1, 0, 1, 0, 1, 1, 1, 1] B5), .code (sub [1, 1] B5)] (by kernel_rfl) ?_
        have p3 := (p3.front 0 _ rfl).drop
        exact Goes.jump 214 [(8, .bool false)] (by kernel_rfl) (W.tidepolelaw13_PostLists_l0 nz wz S0 w0 Lr _ _ h _ _ (((Ext.refl S0 w0).trans z2).trans z3) p3)
    · rw [if_neg h22] at h
      rw [decide_eq_false h22]
      refine Goes.runs 9 [(43, undef), (44, undef), (45, undef), (46, .bool false), (47, .bool false), (48, undef), (49, .bool false), (8, .bool false)] [.code (sub [1, 0, 1, 0, 1, 1, 1, 1] B5), .code (sub [1, 1] B5)] (by kernel_rfl) ?_
      have p3 := (p3.front 0 _ rfl).drop
      exact Goes.jump 214 [(8, .bool false)] (by kernel_rfl) (W.tidepolelaw13_PostLists_l0 nz wz S0 w0 Lr _ _ h _ _ (((Ext.refl S0 w0).trans z2).trans z3) p3)
  · rw [if_neg h1] at h
    rw [decide_eq_false h1]
    refine Goes.runs 4 [] [.inRegion (opsOf (sub [1, 1, 0] B5)) [0, 1], .code (sub [1, 1, 1] B5)] (by kernel_rfl) ?_
    have f27 : Els (kSl (kInt .u64)) S0 w0 ([] : List Value) ([] : List (List Int)) := Els.nil
    refine Op_.made (.buildSlice 38 0 #[]) 50 38 (fun b => .slice (Gp (some b)) 0 0) 22 ([] : List Value) p0 (Goes.vs (by kernel_rfl)) (by kernel_rfl) ?_
    intro b26 w5 z5 p5
    have p5 : Hp nz wz S0 w5 (((some b26), .row 22 ([] : List Value) (0 * (kSl (kInt .u64)).size) 0) :: Lr) := p5
    refine Goes.runs 9 [(13, .slice (Gp (some b26)) ([] : List (List Int)).length 0), (14, .int .i64 0)] [.code (sub [1, 1, 1, 0, 1, 0, 0] B5), .inLoop (sub [1, 1, 1, 0, 1, 0, 0] B5), .inBlock 0, .code (sub [1, 1, 1, 1] B5)] (by kernel_rfl) ?_
    exact Goes.jump 214 [(0, .slice Ax0 x0.length cx0), (1, .slice Ax1 x1.length cx1), (2, .slice Ax2 x2.length cx2), (3, .int .u64 x3), (13, .slice (Gp (some b26)) ([] : List (List Int)).length 0), (14, .int .i64 0)] (by kernel_rfl) (W.tidepolelaw13_PostLists_l1 nz wz S0 w0 Lr _ _ h _ _ ((Ext.refl S0 w0).trans z5) Ax0 cx0 Ax1 cx1 Ax2 cx2 (some b26) 0 ([] : List Value) p5 (fx0.ext z5) (fx1.ext z5) (fx2.ext z5) (f27.ext z5))

end Go.Gx
