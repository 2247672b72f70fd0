import Derived.Test.YtemokppdnkiejaaMSyn

import Derived.Test.YtemokppdnkiejaaGE

import Derived.Test.YtemokppdnkiejaaProg

set_option linter.unusedVariables false

set_option maxRecDepth 100000

set_option maxHeartbeats 4000000

namespace Go.Gx

open Go.RowKit Go.Proofs

def kT27_f (K : Kd T27) : Kd T27 := kMap (fun s => (s.Kind, s.Set, s.L, s.Min, s.Max)) (kProd (kInt .i64) (kProd (kArr 4 (kInt .u64)) (kProd (kSl K) (kProd (kInt .i64) (kInt .i64)))))

theorem kT27_c : Kc kT27_f := Kc.map _ (Kc.prod (Kc.const _) (Kc.prod (Kc.const _) (Kc.prod (Kc.sl Kc.id) (Kc.prod (Kc.const _) (Kc.const _)))))

def kT27 : Kd T27 := kFix kT27_f 8 kT27_c (fun _ => rfl)

theorem kT27_open {S w vs x} (h : kT27.rep S w vs x) : (kT27_f kT27).rep S w vs x := kFix_open kT27_c _ h

theorem kT27_close {S w vs x} (h : (kT27_f kT27).rep S w vs x) : kT27.rep S w vs x := kFix_close kT27_c _ h

def kT52 : Kd T52 := kMap (fun s => s.at_) (kInt .i64)

def kT48 : Kd T48 := kMap (fun s => (s.s, s.at_, s.deep, s.bad)) (kProd kStr (kProd (kInt .i64) (kProd (kInt .i64) (kPtr kT52))))

def kT135 : Kd T135 := kMap (fun s => (s.set_, s.b, s.single)) (kProd (kArr 4 (kInt .u64)) (kProd (kInt .u8) kBool))

noncomputable def B3 : Code := (Try.f3.body).getD .skip

noncomputable def B7 : Code := (Try.f7.body).getD .skip

noncomputable def B8 : Code := (Try.f8.body).getD .skip

noncomputable def B9 : Code := (Try.f9.body).getD .skip

noncomputable def B10 : Code := (Try.f10.body).getD .skip

noncomputable def B18 : Code := (Try.f18.body).getD .skip

noncomputable def B19 : Code := (Try.f19.body).getD .skip

noncomputable def B20 : Code := (Try.f20.body).getD .skip

noncomputable def B21 : Code := (Try.f21.body).getD .skip

noncomputable def B34 : Code := (Try.f34.body).getD .skip

noncomputable def B35 : Code := (Try.f35.body).getD .skip

noncomputable def B36 : Code := (Try.f36.body).getD .skip

noncomputable def B37 : Code := (Try.f37.body).getD .skip

noncomputable def B52 : Code := (Try.f52.body).getD .skip

noncomputable def B54 : Code := (Try.f54.body).getD .skip

noncomputable def B55 : Code := (Try.f55.body).getD .skip

noncomputable def B71 : Code := (Try.f71.body).getD .skip

noncomputable def B73 : Code := (Try.f73.body).getD .skip

noncomputable def B74 : Code := (Try.f74.body).getD .skip

noncomputable def B81 : Code := (Try.f81.body).getD .skip

noncomputable def B82 : Code := (Try.f82.body).getD .skip

noncomputable def B83 : Code := (Try.f83.body).getD .skip

noncomputable def B84 : Code := (Try.f84.body).getD .skip

noncomputable def B85 : Code := (Try.f85.body).getD .skip

noncomputable def B86 : Code := (Try.f86.body).getD .skip

noncomputable def B87 : Code := (Try.f87.body).getD .skip

noncomputable def B91 : Code := (Try.f91.body).getD .skip

noncomputable def B92 : Code := (Try.f92.body).getD .skip

noncomputable def B93 : Code := (Try.f93.body).getD .skip

noncomputable def B94 : Code := (Try.f94.body).getD .skip

noncomputable def B95 : Code := (Try.f95.body).getD .skip

noncomputable def B96 : Code := (Try.f96.body).getD .skip

noncomputable def B97 : Code := (Try.f97.body).getD .skip

noncomputable def B98 : Code := (Try.f98.body).getD .skip

noncomputable def B99 : Code := (Try.f99.body).getD .skip

noncomputable def B100 : Code := (Try.f100.body).getD .skip

noncomputable def B101 : Code := (Try.f101.body).getD .skip

noncomputable def B102 : Code := (Try.f102.body).getD .skip

/-! (*tidepole/syntax.parser).peek -/
def Post.syntax_parser_peek (nz : Nat) (wz : World) (S0 : Fz) (w0 : World) (Lr : List Ent) (gx0 : Nat) (r : Int × T48) (v : Value) (w' : World) : Prop :=
  ∃ (S' : Fz) (ve0v_3 : Value), v = .int .u8 r.1 ∧ Ext S0 w0 S' w' ∧ Hp nz wz S' w' ((some gx0, .row 49 [.string r.2.s, .int .i64 r.2.at_, .int .i64 r.2.deep, ve0v_3] 4 0) :: Lr) ∧ PtO kT52 S' w' ve0v_3 r.2.bad

def L.syntax_parser_peek_l0 (nz : Nat) (wz : World) (S0 : Fz) (w0 : World) (Lr : List Ent) (gx0 : Nat) : Bool × T48 → (Int × T48) → Prop := fun ⟨x19, e0v⟩ r => ∀ S1 w1, Ext S0 w0 S1 w1 → ∀ (ve0v_3 : Value) (_ : Hp nz wz S1 w1 ((some gx0, .row 49 [.string e0v.s, .int .i64 e0v.at_, .int .i64 e0v.deep, ve0v_3] 4 0) :: Lr)) (_ : PtO kT52 S1 w1 ve0v_3 e0v.bad) (junk : Nat → Value),
  Goes Try.prog (base 54) [.code (sub [1, 0, 1] B54), .code (sub [1, 1] B54)] ⟨lfr 29 [(0, .pointer (some ⟨gx0, 0, none⟩)), (19, .bool x19)] junk, []⟩ w1 (Done Try.prog 54 (Rets (Post.syntax_parser_peek nz wz S0 w0 Lr gx0 r)))

theorem W.syntax_parser_peek_l0 (nz : Nat) (wz : World) (S0 : Fz) (w0 : World) (Lr : List Ent) (gx0 : Nat) : ∀ a r, M.syntax_parser_peek_l0 a = some r → L.syntax_parser_peek_l0 nz wz S0 w0 Lr gx0 a r := by
  intro ⟨x19, e0v⟩ r h S1 w1 hx ve0v_3 p1 fe0v_3 junk
  rw [M.syntax_parser_peek_l0] at h
  try dsimp only at h
  refine ite_some h (fun h9 h => ?_) (fun h9 h => ?_)
  · rw [h9]
    refine Goes.runs 5 [(2, .int .u8 0)] [.code (sub [1, 0, 1, 0, 1] B54), .code (sub [1, 1] B54)] (by kernel_rfl) ?_
    obtain rfl := Option.some.inj h
    exact Goes.ret (fn := Try.f54) (by kernel_rfl) (v := .int .u8 0) (by kernel_rfl) ⟨S1, ve0v_3, rfl, hx, p1, fe0v_3⟩
  · have h9' : x19 = false := by simpa using h9
    rw [h9']
    refine Goes.runs 3 [] [.code (sub [1, 1, 0] B54), .code (sub [1, 1, 1] B54)] (by kernel_rfl) ?_
    have z3 : Ext S1 w1 S1 (w1).drew := Ext.draw
    have p3 := p1.draw
    refine Goes.drawn (s := []) (F := Fc S1 (w1).drew [(⟨gx0, 0, none⟩, .string e0v.s), (⟨gx0, 1, none⟩, .int .i64 e0v.at_)]) 3 10 (by kernel_rfl) (by kernel_rfl) (by kernel_rfl) (by kernel_rfl) ?_
    generalize (w1).drew = w3 at z3 p3 ⊢
    refine AnyG.pure (i := 0) (.move (.tmp 0)) 20 46 (.pointer (some ⟨gx0, 0, none⟩)) (by kernel_rfl) (by kernel_rfl) (by kernel_rfl) (Fc.here ⟨((p3.mem 0 rfl).cell 0 _ rfl), ((p3.mem 0 rfl).cell 1 _ rfl), trivial⟩) ?_
    refine AnyG.pure (i := 1) (.nilCheck (.tmp 20)) 21 0 (.pointer (some ⟨gx0, 0, none⟩)) (by kernel_rfl) (by kernel_rfl) (by kernel_rfl) (Fc.here ⟨((p3.mem 0 rfl).cell 0 _ rfl), ((p3.mem 0 rfl).cell 1 _ rfl), trivial⟩) ?_
    refine AnyG.pure (i := 2) (.fieldAddr 49 (.tmp 21) 0) 22 0 (.pointer (some ⟨gx0, 0, none⟩)) (by kernel_rfl) (by kernel_rfl) (by kernel_rfl) (Fc.here ⟨((p3.mem 0 rfl).cell 0 _ rfl), ((p3.mem 0 rfl).cell 1 _ rfl), trivial⟩) ?_
    refine AnyG.ld1 (i := 3) 9 (.tmp 22) 23 9 ⟨gx0, 0, none⟩ (.string e0v.s) (by kernel_rfl) (by kernel_rfl) (Fc.here ⟨((p3.mem 0 rfl).cell 0 _ rfl), ((p3.mem 0 rfl).cell 1 _ rfl), trivial⟩) (by kernel_rfl) (by kernel_rfl) (fun _ h => h.2.at_ 0 rfl) ?_
    refine AnyG.pure (i := 4) (.move (.tmp 0)) 24 46 (.pointer (some ⟨gx0, 0, none⟩)) (by kernel_rfl) (by kernel_rfl) (by kernel_rfl) (Fc.here ⟨((p3.mem 0 rfl).cell 0 _ rfl), ((p3.mem 0 rfl).cell 1 _ rfl), trivial⟩) ?_
    refine AnyG.pure (i := 5) (.nilCheck (.tmp 24)) 25 0 (.pointer (some ⟨gx0, 0, none⟩)) (by kernel_rfl) (by kernel_rfl) (by kernel_rfl) (Fc.here ⟨((p3.mem 0 rfl).cell 0 _ rfl), ((p3.mem 0 rfl).cell 1 _ rfl), trivial⟩) ?_
    refine AnyG.pure (i := 6) (.fieldAddr 49 (.tmp 25) 1) 26 0 (.pointer (some ⟨gx0, 1, none⟩)) (by kernel_rfl) (by kernel_rfl) (by kernel_rfl) (Fc.here ⟨((p3.mem 0 rfl).cell 0 _ rfl), ((p3.mem 0 rfl).cell 1 _ rfl), trivial⟩) ?_
    refine AnyG.ld1 (i := 7) 3 (.tmp 26) 27 3 ⟨gx0, 1, none⟩ (.int .i64 e0v.at_) (by kernel_rfl) (by kernel_rfl) (Fc.here ⟨((p3.mem 0 rfl).cell 0 _ rfl), ((p3.mem 0 rfl).cell 1 _ rfl), trivial⟩) (by kernel_rfl) (by kernel_rfl) (fun _ h => h.2.at_ 1 rfl) ?_
    refine guard_some' h fun g10 h => ?_
    refine guard_some' h fun g11 h => ?_
    refine AnyG.ixS (i := 8) 9 (.tmp 23) (.tmp 27) 28 5 .i64 e0v.s e0v.at_ (by kernel_rfl) (by kernel_rfl) (Fc.here ⟨((p3.mem 0 rfl).cell 0 _ rfl), ((p3.mem 0 rfl).cell 1 _ rfl), trivial⟩) (by kernel_rfl) (by kernel_rfl) (by kernel_rfl) g10 g11 ?_
    refine AnyG.pure (i := 9) (.assign (.tmp 28)) 2 5 (.int .u8 (bt e0v.s e0v.at_)) (by kernel_rfl) (by kernel_rfl) (by kernel_rfl) (Fc.here ⟨((p3.mem 0 rfl).cell 0 _ rfl), ((p3.mem 0 rfl).cell 1 _ rfl), trivial⟩) ?_
    refine AnyG.done (by kernel_rfl) ?_ _
    obtain rfl := Option.some.inj h
    exact Goes.ret (fn := Try.f54) (by kernel_rfl) (v := .int .u8 (bt e0v.s e0v.at_)) (by kernel_rfl) ⟨S1, ve0v_3, rfl, (hx.trans z3), p3, (fe0v_3.ext z3)⟩

/-! (*tidepole/syntax.parser).peek -/
theorem W.syntax_parser_peek (x0v : T48) (r : Int × T48) (h : M.syntax_parser_peek x0v = some r) (nz : Nat) (wz : World) (S0 : Fz) (w0 : World) (Lr : List Ent) (gx0 : Nat) (vx0v_3 : Value) (p0 : Hp nz wz S0 w0 ((some gx0, .row 49 [.string x0v.s, .int .i64 x0v.at_, .int .i64 x0v.deep, vx0v_3] 4 0) :: Lr)) (fx0v_3 : PtO kT52 S0 w0 vx0v_3 x0v.bad) :
    Calls Try.prog 54 #[.pointer (some ⟨gx0, 0, none⟩)] w0 (Rets (Post.syntax_parser_peek nz wz S0 w0 Lr gx0 r)) := by
  refine calls_of_goes (fn := Try.f54) (c := B54) (by kernel_rfl) (by kernel_rfl) 28 (by kernel_rfl) ?_
  refine Goes.jump 29 [(0, .pointer (some ⟨gx0, 0, none⟩))] (by kernel_rfl) (fun junk => ?_)
  delta M.syntax_parser_peek at h
  refine Goes.runs 6 [(2, .int .u8 0)] [.code (sub [1, 0, 0] B54), .code (sub [1, 0, 1] B54), .code (sub [1, 1] B54)] (by kernel_rfl) ?_
  have z2 : Ext S0 w0 S0 (w0).drew := Ext.draw
  have p2 := p0.draw
  refine Goes.drawn (s := []) (F := Fc S0 (w0).drew [(⟨gx0, 3, none⟩, vx0v_3), (⟨gx0, 1, none⟩, .int .i64 x0v.at_), (⟨gx0, 0, none⟩, .string x0v.s)]) 1 17 (by kernel_rfl) (by kernel_rfl) (by kernel_rfl) (by kernel_rfl) ?_
  generalize (w0).drew = w2 at z2 p2 ⊢
  refine AnyG.pure (i := 0) (.move (.tmp 0)) 3 46 (.pointer (some ⟨gx0, 0, none⟩)) (by kernel_rfl) (by kernel_rfl) (by kernel_rfl) (Fc.here ⟨((p2.mem 0 rfl).cell 3 _ rfl), ((p2.mem 0 rfl).cell 1 _ rfl), ((p2.mem 0 rfl).cell 0 _ rfl), trivial⟩) ?_
  refine AnyG.pure (i := 1) (.nilCheck (.tmp 3)) 4 0 (.pointer (some ⟨gx0, 0, none⟩)) (by kernel_rfl) (by kernel_rfl) (by kernel_rfl) (Fc.here ⟨((p2.mem 0 rfl).cell 3 _ rfl), ((p2.mem 0 rfl).cell 1 _ rfl), ((p2.mem 0 rfl).cell 0 _ rfl), trivial⟩) ?_
  refine AnyG.pure (i := 2) (.fieldAddr 49 (.tmp 4) 3) 5 0 (.pointer (some ⟨gx0, 3, none⟩)) (by kernel_rfl) (by kernel_rfl) (by kernel_rfl) (Fc.here ⟨((p2.mem 0 rfl).cell 3 _ rfl), ((p2.mem 0 rfl).cell 1 _ rfl), ((p2.mem 0 rfl).cell 0 _ rfl), trivial⟩) ?_
  refine AnyG.ld1 (i := 3) 47 (.tmp 5) 6 47 ⟨gx0, 3, none⟩ (vx0v_3) (by kernel_rfl) (by kernel_rfl) (Fc.here ⟨((p2.mem 0 rfl).cell 3 _ rfl), ((p2.mem 0 rfl).cell 1 _ rfl), ((p2.mem 0 rfl).cell 0 _ rfl), trivial⟩) (by kernel_rfl) (by kernel_rfl) (fun _ h => h.2.at_ 0 rfl) ?_
  refine let_some h fun v8 h2 h => ?_
  rcases v8 with _ | y3
  · try dsimp only at h
    obtain rfl := PtO.nil (fx0v_3.ext z2) h2
    refine AnyG.pure (i := 4) (.binOp .neq 47 (.tmp 6) (.const (.pointer none)) 47) 7 4 (.bool false) (by kernel_rfl) (by kernel_rfl) (by kernel_rfl) (Fc.here ⟨((p2.mem 0 rfl).cell 3 _ rfl), ((p2.mem 0 rfl).cell 1 _ rfl), ((p2.mem 0 rfl).cell 0 _ rfl), trivial⟩) ?_
    refine AnyG.pure (i := 5) (.move (.tmp 7)) 8 4 (.bool false) (by kernel_rfl) (by kernel_rfl) (by kernel_rfl) (Fc.here ⟨((p2.mem 0 rfl).cell 3 _ rfl), ((p2.mem 0 rfl).cell 1 _ rfl), ((p2.mem 0 rfl).cell 0 _ rfl), trivial⟩) ?_
    refine AnyG.pure (i := 6) (.move (.tmp 0)) 9 46 (.pointer (some ⟨gx0, 0, none⟩)) (by kernel_rfl) (by kernel_rfl) (by kernel_rfl) (Fc.here ⟨((p2.mem 0 rfl).cell 3 _ rfl), ((p2.mem 0 rfl).cell 1 _ rfl), ((p2.mem 0 rfl).cell 0 _ rfl), trivial⟩) ?_
    refine AnyG.pure (i := 7) (.nilCheck (.tmp 9)) 10 0 (.pointer (some ⟨gx0, 0, none⟩)) (by kernel_rfl) (by kernel_rfl) (by kernel_rfl) (Fc.here ⟨((p2.mem 0 rfl).cell 3 _ rfl), ((p2.mem 0 rfl).cell 1 _ rfl), ((p2.mem 0 rfl).cell 0 _ rfl), trivial⟩) ?_
    refine AnyG.pure (i := 8) (.fieldAddr 49 (.tmp 10) 1) 11 0 (.pointer (some ⟨gx0, 1, none⟩)) (by kernel_rfl) (by kernel_rfl) (by kernel_rfl) (Fc.here ⟨((p2.mem 0 rfl).cell 3 _ rfl), ((p2.mem 0 rfl).cell 1 _ rfl), ((p2.mem 0 rfl).cell 0 _ rfl), trivial⟩) ?_
    refine AnyG.ld1 (i := 9) 3 (.tmp 11) 12 3 ⟨gx0, 1, none⟩ (.int .i64 x0v.at_) (by kernel_rfl) (by kernel_rfl) (Fc.here ⟨((p2.mem 0 rfl).cell 3 _ rfl), ((p2.mem 0 rfl).cell 1 _ rfl), ((p2.mem 0 rfl).cell 0 _ rfl), trivial⟩) (by kernel_rfl) (by kernel_rfl) (fun _ h => h.2.at_ 1 rfl) ?_
    refine AnyG.pure (i := 10) (.move (.tmp 0)) 13 46 (.pointer (some ⟨gx0, 0, none⟩)) (by kernel_rfl) (by kernel_rfl) (by kernel_rfl) (Fc.here ⟨((p2.mem 0 rfl).cell 3 _ rfl), ((p2.mem 0 rfl).cell 1 _ rfl), ((p2.mem 0 rfl).cell 0 _ rfl), trivial⟩) ?_
    refine AnyG.pure (i := 11) (.nilCheck (.tmp 13)) 14 0 (.pointer (some ⟨gx0, 0, none⟩)) (by kernel_rfl) (by kernel_rfl) (by kernel_rfl) (Fc.here ⟨((p2.mem 0 rfl).cell 3 _ rfl), ((p2.mem 0 rfl).cell 1 _ rfl), ((p2.mem 0 rfl).cell 0 _ rfl), trivial⟩) ?_
    refine AnyG.pure (i := 12) (.fieldAddr 49 (.tmp 14) 0) 15 0 (.pointer (some ⟨gx0, 0, none⟩)) (by kernel_rfl) (by kernel_rfl) (by kernel_rfl) (Fc.here ⟨((p2.mem 0 rfl).cell 3 _ rfl), ((p2.mem 0 rfl).cell 1 _ rfl), ((p2.mem 0 rfl).cell 0 _ rfl), trivial⟩) ?_
    refine AnyG.ld1 (i := 13) 9 (.tmp 15) 16 9 ⟨gx0, 0, none⟩ (.string x0v.s) (by kernel_rfl) (by kernel_rfl) (Fc.here ⟨((p2.mem 0 rfl).cell 3 _ rfl), ((p2.mem 0 rfl).cell 1 _ rfl), ((p2.mem 0 rfl).cell 0 _ rfl), trivial⟩) (by kernel_rfl) (by kernel_rfl) (fun _ h => h.2.at_ 2 rfl) ?_
    refine AnyG.pure (i := 14) (.call { callee := .builtin .len, args := #[(.tmp 16)], argTypes := #[9] }) 17 3 (.int .i64 (x0v.s.size : Int)) (by kernel_rfl) (by kernel_rfl) (by kernel_rfl) (Fc.here ⟨((p2.mem 0 rfl).cell 3 _ rfl), ((p2.mem 0 rfl).cell 1 _ rfl), ((p2.mem 0 rfl).cell 0 _ rfl), trivial⟩) ?_
    refine AnyG.pure (i := 15) (.binOp .geq 3 (.tmp 12) (.tmp 17) 3) 18 4 (.bool (decide (x0v.at_ ≥ (x0v.s.size : Int)))) (by kernel_rfl) (by kernel_rfl) (by kernel_rfl) (Fc.here ⟨((p2.mem 0 rfl).cell 3 _ rfl), ((p2.mem 0 rfl).cell 1 _ rfl), ((p2.mem 0 rfl).cell 0 _ rfl), trivial⟩) ?_
    refine AnyG.pure (i := 16) (.pick (.tmp 8) (.const (.bool true)) (.tmp 18)) 19 4 (.bool (decide (x0v.at_ ≥ (x0v.s.size : Int)))) (by kernel_rfl) (by kernel_rfl) (by kernel_rfl) (Fc.here ⟨((p2.mem 0 rfl).cell 3 _ rfl), ((p2.mem 0 rfl).cell 1 _ rfl), ((p2.mem 0 rfl).cell 0 _ rfl), trivial⟩) ?_
    refine AnyG.done (by kernel_rfl) ?_ _
    exact Goes.jump 29 [(0, .pointer (some ⟨gx0, 0, none⟩)), (19, .bool (decide (x0v.at_ ≥ (x0v.s.size : Int))))] (by kernel_rfl) (W.syntax_parser_peek_l0 nz wz S0 w0 Lr gx0 _ _ h _ _ ((Ext.refl S0 w0).trans z2) (.pointer none) p2 rfl)
  · try dsimp only at h
    obtain ⟨a5, _, rfl, -, f6, q7⟩ := PtO.got (fx0v_3.ext z2) h2
    obtain rfl := q7
    refine AnyG.pure (i := 4) (.binOp .neq 47 (.tmp 6) (.const (.pointer none)) 47) 7 4 (.bool true) (by kernel_rfl) (by kernel_rfl) (by kernel_rfl) (Fc.here ⟨((p2.mem 0 rfl).cell 3 _ rfl), ((p2.mem 0 rfl).cell 1 _ rfl), ((p2.mem 0 rfl).cell 0 _ rfl), trivial⟩) ?_
    refine AnyG.pure (i := 5) (.move (.tmp 7)) 8 4 (.bool true) (by kernel_rfl) (by kernel_rfl) (by kernel_rfl) (Fc.here ⟨((p2.mem 0 rfl).cell 3 _ rfl), ((p2.mem 0 rfl).cell 1 _ rfl), ((p2.mem 0 rfl).cell 0 _ rfl), trivial⟩) ?_
    refine AnyG.skip1 (i := 6) 9 (by kernel_rfl) (by kernel_rfl) (Fc.here ⟨((p2.mem 0 rfl).cell 3 _ rfl), ((p2.mem 0 rfl).cell 1 _ rfl), ((p2.mem 0 rfl).cell 0 _ rfl), trivial⟩) ?_
    refine AnyG.skip1 (i := 7) 10 (by kernel_rfl) (by kernel_rfl) (Fc.here ⟨((p2.mem 0 rfl).cell 3 _ rfl), ((p2.mem 0 rfl).cell 1 _ rfl), ((p2.mem 0 rfl).cell 0 _ rfl), trivial⟩) ?_
    refine AnyG.skip1 (i := 8) 11 (by kernel_rfl) (by kernel_rfl) (Fc.here ⟨((p2.mem 0 rfl).cell 3 _ rfl), ((p2.mem 0 rfl).cell 1 _ rfl), ((p2.mem 0 rfl).cell 0 _ rfl), trivial⟩) ?_
    refine AnyG.skip1 (i := 9) 12 (by kernel_rfl) (by kernel_rfl) (Fc.here ⟨((p2.mem 0 rfl).cell 3 _ rfl), ((p2.mem 0 rfl).cell 1 _ rfl), ((p2.mem 0 rfl).cell 0 _ rfl), trivial⟩) ?_
    refine AnyG.skip1 (i := 10) 13 (by kernel_rfl) (by kernel_rfl) (Fc.here ⟨((p2.mem 0 rfl).cell 3 _ rfl), ((p2.mem 0 rfl).cell 1 _ rfl), ((p2.mem 0 rfl).cell 0 _ rfl), trivial⟩) ?_
    refine AnyG.skip1 (i := 11) 14 (by kernel_rfl) (by kernel_rfl) (Fc.here ⟨((p2.mem 0 rfl).cell 3 _ rfl), ((p2.mem 0 rfl).cell 1 _ rfl), ((p2.mem 0 rfl).cell 0 _ rfl), trivial⟩) ?_
    refine AnyG.skip1 (i := 12) 15 (by kernel_rfl) (by kernel_rfl) (Fc.here ⟨((p2.mem 0 rfl).cell 3 _ rfl), ((p2.mem 0 rfl).cell 1 _ rfl), ((p2.mem 0 rfl).cell 0 _ rfl), trivial⟩) ?_
    refine AnyG.skip1 (i := 13) 16 (by kernel_rfl) (by kernel_rfl) (Fc.here ⟨((p2.mem 0 rfl).cell 3 _ rfl), ((p2.mem 0 rfl).cell 1 _ rfl), ((p2.mem 0 rfl).cell 0 _ rfl), trivial⟩) ?_
    refine AnyG.skip1 (i := 14) 17 (by kernel_rfl) (by kernel_rfl) (Fc.here ⟨((p2.mem 0 rfl).cell 3 _ rfl), ((p2.mem 0 rfl).cell 1 _ rfl), ((p2.mem 0 rfl).cell 0 _ rfl), trivial⟩) ?_
    refine AnyG.skip1 (i := 15) 18 (by kernel_rfl) (by kernel_rfl) (Fc.here ⟨((p2.mem 0 rfl).cell 3 _ rfl), ((p2.mem 0 rfl).cell 1 _ rfl), ((p2.mem 0 rfl).cell 0 _ rfl), trivial⟩) ?_
    refine AnyG.pure (i := 16) (.pick (.tmp 8) (.const (.bool true)) (.tmp 18)) 19 4 (.bool true) (by kernel_rfl) (by kernel_rfl) (by kernel_rfl) (Fc.here ⟨((p2.mem 0 rfl).cell 3 _ rfl), ((p2.mem 0 rfl).cell 1 _ rfl), ((p2.mem 0 rfl).cell 0 _ rfl), trivial⟩) ?_
    refine AnyG.done (by kernel_rfl) ?_ _
    exact Goes.jump 29 [(0, .pointer (some ⟨gx0, 0, none⟩)), (19, .bool true)] (by kernel_rfl) (W.syntax_parser_peek_l0 nz wz S0 w0 Lr gx0 _ _ h _ _ ((Ext.refl S0 w0).trans z2) (.pointer (some a5)) p2 ⟨_, _, rfl, List.cons_ne_nil _ _, f6, rfl⟩)

/-! (*tidepole/syntax.parser).fail -/
def Post.syntax_parser_fail (nz : Nat) (wz : World) (S0 : Fz) (w0 : World) (Lr : List Ent) (gx0 : Nat) (r : T27 × T48) (v : Value) (w' : World) : Prop :=
  ∃ (S' : Fz) (Aq_2 : Option Addr) (nq_2 : Nat) (cq_2 : Nat) (ve0v_3 : Value), v = .agg #[.int .i64 r.1.Kind, .int .u64 (gi r.1.Set 0), .int .u64 (gi r.1.Set 1), .int .u64 (gi r.1.Set 2), .int .u64 (gi r.1.Set 3), .slice Aq_2 nq_2 cq_2, .int .i64 r.1.Min, .int .i64 r.1.Max] ∧ Ext S0 w0 S' w' ∧ Hp nz wz S' w' ((some gx0, .row 49 [.string r.2.s, .int .i64 r.2.at_, .int .i64 r.2.deep, ve0v_3] 4 0) :: Lr) ∧ r.1.Set.length = 4 ∧ Rd kT27 S' w' Aq_2 cq_2 r.1.L ∧ r.1.L.length = nq_2 ∧ PtO kT52 S' w' ve0v_3 r.2.bad

theorem W.syntax_parser_fail (x0v : T48) (x1 : Int) (r : T27 × T48) (h : M.syntax_parser_fail x0v x1 = some r) (nz : Nat) (wz : World) (S0 : Fz) (w0 : World) (Lr : List Ent) (gx0 : Nat) (vx0v_3 : Value) (p0 : Hp nz wz S0 w0 ((some gx0, .row 49 [.string x0v.s, .int .i64 x0v.at_, .int .i64 x0v.deep, vx0v_3] 4 0) :: Lr)) (fx0v_3 : PtO kT52 S0 w0 vx0v_3 x0v.bad) :
    Calls Try.prog 19 #[.pointer (some ⟨gx0, 0, none⟩), .int .i64 x1] w0 (Rets (Post.syntax_parser_fail nz wz S0 w0 Lr gx0 r)) := by
  refine calls_of_goes (fn := Try.f19) (c := B19) (by kernel_rfl) (by kernel_rfl) 15 (by kernel_rfl) ?_
  refine Goes.jump 17 [(0, .pointer (some ⟨gx0, 0, none⟩)), (1, .int .i64 x1)] (by kernel_rfl) (fun junk => ?_)
  delta M.syntax_parser_fail at h
  refine Goes.runs 2 [] [.inRegion (opsOf (sub [0] B19)) [0], .code (sub [1] B19)] (by kernel_rfl) ?_
  refine Op_.alloc 28 4 0 (.agg #[.int .i64 0, .int .u64 0, .int .u64 0, .int .u64 0, .int .u64 0, .slice none 0 0, .int .i64 0, .int .i64 0]) [.int .i64 0, .int .u64 0, .int .u64 0, .int .u64 0, .int .u64 0, .slice none 0 0, .int .i64 0, .int .i64 0] p0 (Goes.vs (by kernel_rfl)) (by kernel_rfl) (by kernel_rfl) ?_
  intro b2 w2 z2 p2
  refine Goes.runs 7 [(5, .pointer (some ⟨gx0, 0, none⟩)), (6, .pointer (some ⟨gx0, 0, none⟩)), (7, .pointer (some ⟨gx0, 3, none⟩))] [.inRegion (opsOf (sub [1, 0, 0] B19)) [3, 4], .code (sub [1, 0, 1] B19), .code (sub [1, 1] B19)] (by kernel_rfl) ?_
  refine Op_.ld1 47 (.tmp 7) 8 47 ⟨gx0, 3, none⟩ (vx0v_3) (Goes.vs (by kernel_rfl)) (by kernel_rfl) (by kernel_rfl) ((p2.mem 1 rfl).cell 3 _ rfl) ?_
  refine let_some h fun v13 h4 h => ?_
  rcases v13 with _ | y5
  · try dsimp only at h
    obtain rfl := PtO.nil (fx0v_3.ext z2) h4
    refine Goes.runs 7 [(9, .bool true), (10, .pointer (some ⟨gx0, 0, none⟩)), (11, .int .i64 x1), (12, .agg #[.int .i64 x1])] [.inRegion (opsOf (sub [1, 0, 1, 0] B19)) [3, 4, 5, 6], .code (sub [1, 1] B19)] (by kernel_rfl) ?_
    refine Op_.box 53 (.tmp 12) 13 47 (.agg #[.int .i64 x1]) [.int .i64 x1] p2 (Goes.vs (by kernel_rfl)) (by kernel_rfl) (by kernel_rfl) ?_
    intro b10 w3 z3 p3
    refine Goes.runs 2 [(14, .pointer (some ⟨gx0, 0, none⟩)), (15, .pointer (some ⟨gx0, 3, none⟩))] [.inRegion (opsOf (sub [1, 0, 1, 0] B19)) [6], .code (sub [1, 1] B19)] (by kernel_rfl) ?_
    refine Op_.st 47 (.tmp 15) (.tmp 13) 0 2 gx0 3 (.pointer (some ⟨b10, 0, none⟩)) [.pointer (some ⟨b10, 0, none⟩)] p3 rfl (Goes.ss (by kernel_rfl)) (by kernel_rfl) (by kernel_rfl) (by kernel_rfl) (by kernel_rfl) (Nat.zero_le _) (by simp only [List.length_cons, List.length_nil]; omega) (by simp [Value.oneCell']) ?_
    intro w4 z4 p4
    refine Goes.runs 4 [(16, .agg #[.int .i64 0, .int .u64 0, .int .u64 0, .int .u64 0, .int .u64 0, .slice none 0 0, .int .i64 0, .int .i64 0])] [.inRegion (opsOf (sub [1, 1, 0] B19)) [1], .code (sub [1, 1, 1] B19)] (by kernel_rfl) ?_
    refine Op_.st 28 (.tmp 4) (.tmp 16) 0 1 b2 0 (.agg #[.int .i64 0, .int .u64 0, .int .u64 0, .int .u64 0, .int .u64 0, .slice none 0 0, .int .i64 0, .int .i64 0]) [.int .i64 0, .int .u64 0, .int .u64 0, .int .u64 0, .int .u64 0, .slice none 0 0, .int .i64 0, .int .i64 0] p4 rfl (Goes.ss (by kernel_rfl)) (by kernel_rfl) (by kernel_rfl) (by kernel_rfl) (by kernel_rfl) (Nat.zero_le _) (by simp only [List.length_cons, List.length_nil]; omega) (by simp [Value.oneCell']) ?_
    intro w5 z5 p5
    refine Goes.runs 1 [] [.code (sub [1, 1, 1] B19)] (by kernel_rfl) ?_
    obtain ⟨S6, z6, p6, f12⟩ := p5.freezeBlk 0 rfl
    obtain rfl := Option.some.inj h
    exact Goes.ret (fn := Try.f19) (by kernel_rfl) (v := .agg #[.int .i64 0, .int .u64 0, .int .u64 0, .int .u64 0, .int .u64 0, .slice none 0 0, .int .i64 0, .int .i64 0]) (results_n1 (fn := Try.f19) (a := .cell 4 28) (by kernel_rfl) (resV_cell ⟨b2, 0, none⟩ (by kernel_rfl) (run_loadN [.int .i64 0, .int .u64 0, .int .u64 0, .int .u64 0, .int .u64 0, .slice none 0 0, .int .i64 0, .int .i64 0] (by kernel_rfl) (by kernel_rfl) (At_part (us := []) (vs := [.int .i64 0, .int .u64 0, .int .u64 0, .int .u64 0, .int .u64 0, .slice none 0 0, .int .i64 0, .int .i64 0]) (ws := []) (p6.mem 0 rfl) 0 rfl)))) ⟨S6, none, 0, 0, .pointer (some ⟨b10, 0, none⟩), rfl, ((((((Ext.refl S0 w0).trans z2).trans z3).trans z4).trans z5).trans z6), p6.drop, rfl, Rd.none_, rfl, ⟨_, _, rfl, List.cons_ne_nil _ _, f12, rfl⟩⟩
  · try dsimp only at h
    obtain ⟨a7, _, rfl, -, f8, q9⟩ := PtO.got (fx0v_3.ext z2) h4
    obtain rfl := q9
    refine Goes.runs 7 [(9, .bool false), (16, .agg #[.int .i64 0, .int .u64 0, .int .u64 0, .int .u64 0, .int .u64 0, .slice none 0 0, .int .i64 0, .int .i64 0])] [.inRegion (opsOf (sub [1, 1, 0] B19)) [1], .code (sub [1, 1, 1] B19)] (by kernel_rfl) ?_
    refine Op_.st 28 (.tmp 4) (.tmp 16) 0 0 b2 0 (.agg #[.int .i64 0, .int .u64 0, .int .u64 0, .int .u64 0, .int .u64 0, .slice none 0 0, .int .i64 0, .int .i64 0]) [.int .i64 0, .int .u64 0, .int .u64 0, .int .u64 0, .int .u64 0, .slice none 0 0, .int .i64 0, .int .i64 0] p2 rfl (Goes.ss (by kernel_rfl)) (by kernel_rfl) (by kernel_rfl) (by kernel_rfl) (by kernel_rfl) (Nat.zero_le _) (by simp only [List.length_cons, List.length_nil]; omega) (by simp [Value.oneCell']) ?_
    intro w7 z7 p7
    refine Goes.runs 1 [] [.code (sub [1, 1, 1] B19)] (by kernel_rfl) ?_
    obtain rfl := Option.some.inj h
    exact Goes.ret (fn := Try.f19) (by kernel_rfl) (v := .agg #[.int .i64 0, .int .u64 0, .int .u64 0, .int .u64 0, .int .u64 0, .slice none 0 0, .int .i64 0, .int .i64 0]) (results_n1 (fn := Try.f19) (a := .cell 4 28) (by kernel_rfl) (resV_cell ⟨b2, 0, none⟩ (by kernel_rfl) (run_loadN [.int .i64 0, .int .u64 0, .int .u64 0, .int .u64 0, .int .u64 0, .slice none 0 0, .int .i64 0, .int .i64 0] (by kernel_rfl) (by kernel_rfl) (At_part (us := []) (vs := [.int .i64 0, .int .u64 0, .int .u64 0, .int .u64 0, .int .u64 0, .slice none 0 0, .int .i64 0, .int .i64 0]) (ws := []) (p7.mem 0 rfl) 0 rfl)))) ⟨S0, none, 0, 0, .pointer (some a7), rfl, (((Ext.refl S0 w0).trans z2).trans z7), p7.drop, rfl, Rd.none_, rfl, ⟨_, _, rfl, List.cons_ne_nil _ _, (f8.ext z7), rfl⟩⟩

/-! (*tidepole/syntax.parser).take -/
def Post.syntax_parser_take (nz : Nat) (wz : World) (S0 : Fz) (w0 : World) (Lr : List Ent) (gx0 : Nat) (r : Bool × T48) (v : Value) (w' : World) : Prop :=
  ∃ (S' : Fz) (ve0v_3 : Value), v = .bool r.1 ∧ Ext S0 w0 S' w' ∧ Hp nz wz S' w' ((some gx0, .row 49 [.string r.2.s, .int .i64 r.2.at_, .int .i64 r.2.deep, ve0v_3] 4 0) :: Lr) ∧ PtO kT52 S' w' ve0v_3 r.2.bad

def L.syntax_parser_take_l0 (nz : Nat) (wz : World) (S0 : Fz) (w0 : World) (Lr : List Ent) (gx0 : Nat) : Bool × T48 → (Bool × T48) → Prop := fun ⟨x12, e0v⟩ r => ∀ S1 w1, Ext S0 w0 S1 w1 → ∀ (ve0v_3 : Value) (_ : Hp nz wz S1 w1 ((some gx0, .row 49 [.string e0v.s, .int .i64 e0v.at_, .int .i64 e0v.deep, ve0v_3] 4 0) :: Lr)) (_ : PtO kT52 S1 w1 ve0v_3 e0v.bad) (junk : Nat → Value),
  Goes Try.prog (base 35) [.code (sub [1, 0, 1] B35), .code (sub [1, 1] B35)] ⟨lfr 20 [(0, .pointer (some ⟨gx0, 0, none⟩)), (12, .bool x12)] junk, []⟩ w1 (Done Try.prog 35 (Rets (Post.syntax_parser_take nz wz S0 w0 Lr gx0 r)))

theorem W.syntax_parser_take_l0 (nz : Nat) (wz : World) (S0 : Fz) (w0 : World) (Lr : List Ent) (gx0 : Nat) : ∀ a r, M.syntax_parser_take_l0 a = some r → L.syntax_parser_take_l0 nz wz S0 w0 Lr gx0 a r := by
  intro ⟨x12, e0v⟩ r h S1 w1 hx ve0v_3 p1 fe0v_3 junk
  rw [M.syntax_parser_take_l0] at h
  try dsimp only at h
  refine ite_some h (fun h5 h => ?_) (fun h5 h => ?_)
  · rw [h5]
    refine Goes.runs 5 [(4, .bool false)] [.code (sub [1, 0, 1, 0, 1] B35), .code (sub [1, 1] B35)] (by kernel_rfl) ?_
    obtain rfl := Option.some.inj h
    exact Goes.ret (fn := Try.f35) (by kernel_rfl) (v := .bool false) (by kernel_rfl) ⟨S1, ve0v_3, rfl, hx, p1, fe0v_3⟩
  · have h5' : x12 = false := by simpa using h5
    rw [h5']
    refine Goes.runs 7 [(13, .pointer (some ⟨gx0, 0, none⟩)), (14, .pointer (some ⟨gx0, 0, none⟩)), (15, .pointer (some ⟨gx0, 1, none⟩))] [.inRegion (opsOf (sub [1, 1, 0] B35)) [3, 4, 5, 6, 7], .code (sub [1, 1, 1] B35)] (by kernel_rfl) ?_
    refine Op_.ld1 3 (.tmp 15) 16 3 ⟨gx0, 1, none⟩ (.int .i64 e0v.at_) (Goes.vs (by kernel_rfl)) (by kernel_rfl) (by kernel_rfl) ((p1.mem 0 rfl).cell 1 _ rfl) ?_
    refine Goes.runs 3 [(17, .int .i64 (wr .i64 (e0v.at_ + 1))), (18, .pointer (some ⟨gx0, 0, none⟩)), (19, .pointer (some ⟨gx0, 1, none⟩))] [.inRegion (opsOf (sub [1, 1, 0] B35)) [7], .code (sub [1, 1, 1] B35)] (by kernel_rfl) ?_
    refine Op_.st 3 (.tmp 19) (.tmp 17) 0 0 gx0 1 (.int .i64 (wr .i64 (e0v.at_ + 1))) [.int .i64 (wr .i64 (e0v.at_ + 1))] p1 rfl (Goes.ss (by kernel_rfl)) (by kernel_rfl) (by kernel_rfl) (by kernel_rfl) (by kernel_rfl) (Nat.zero_le _) (by simp only [List.length_cons, List.length_nil]; omega) (by simp [Value.oneCell']) ?_
    intro w3 z3 p3
    refine Goes.runs 5 [(4, .bool true)] [.code (sub [1, 1, 1, 1] B35)] (by kernel_rfl) ?_
    obtain rfl := Option.some.inj h
    exact Goes.ret (fn := Try.f35) (by kernel_rfl) (v := .bool true) (by kernel_rfl) ⟨S1, ve0v_3, rfl, (hx.trans z3), p3, (fe0v_3.ext z3)⟩

/-! (*tidepole/syntax.parser).take -/
theorem W.syntax_parser_take (x0v : T48) (x1 : Int) (r : Bool × T48) (h : M.syntax_parser_take x0v x1 = some r) (nz : Nat) (wz : World) (S0 : Fz) (w0 : World) (Lr : List Ent) (gx0 : Nat) (vx0v_3 : Value) (p0 : Hp nz wz S0 w0 ((some gx0, .row 49 [.string x0v.s, .int .i64 x0v.at_, .int .i64 x0v.deep, vx0v_3] 4 0) :: Lr)) (fx0v_3 : PtO kT52 S0 w0 vx0v_3 x0v.bad) :
    Calls Try.prog 35 #[.pointer (some ⟨gx0, 0, none⟩), .int .u8 x1] w0 (Rets (Post.syntax_parser_take nz wz S0 w0 Lr gx0 r)) := by
  refine calls_of_goes (fn := Try.f35) (c := B35) (by kernel_rfl) (by kernel_rfl) 18 (by kernel_rfl) ?_
  refine Goes.jump 20 [(0, .pointer (some ⟨gx0, 0, none⟩)), (1, .int .u8 x1)] (by kernel_rfl) (fun junk => ?_)
  delta M.syntax_parser_take at h
  refine Goes.runs 10 [(4, .bool false), (5, .int .u8 x1), (6, .bool (decide (x1 = 0))), (7, .bool (decide (x1 = 0)))] [.inRegion (opsOf (sub [1, 0, 0] B35)) [3, 4, 5, 6, 7], .code (sub [1, 0, 1] B35), .code (sub [1, 1] B35)] (by kernel_rfl) ?_
  refine ite_some h (fun h2 h => ?_) (fun h2 h => ?_)
  · rw [decide_eq_true h2]
    refine Goes.runs 6 [(8, undef), (9, undef), (10, undef), (11, undef), (12, .bool true)] [.code (sub [1, 0, 1] B35), .code (sub [1, 1] B35)] (by kernel_rfl) ?_
    exact Goes.jump 20 [(0, .pointer (some ⟨gx0, 0, none⟩)), (12, .bool true)] (by kernel_rfl) (W.syntax_parser_take_l0 nz wz S0 w0 Lr gx0 _ _ h _ _ (Ext.refl S0 w0) vx0v_3 p0 fx0v_3)
  · rw [decide_eq_false h2]
    refine Goes.runs 1 [(8, .pointer (some ⟨gx0, 0, none⟩))] [.inRegion (opsOf (sub [1, 0, 0] B35)) [4, 5, 6, 7], .code (sub [1, 0, 1] B35), .code (sub [1, 1] B35)] (by kernel_rfl) ?_
    refine bind_some' h fun y3 e4 h => ?_
    refine Op_.call (.call { callee := .value (.func 54), args := #[(.tmp 8)], argTypes := #[46] }) 9 5 54 #[.pointer (some ⟨gx0, 0, none⟩)] (Goes.cs (by kernel_rfl)) (by kernel_rfl) (W.syntax_parser_peek x0v y3 e4 nz wz S0 w0 (Lr) gx0 vx0v_3 p0 fx0v_3) ?_
    rintro _ w2 ⟨S2, ve0_2v_3, rfl, z2, p2, fe0_2v_3⟩
    refine Goes.runs 4 [(10, .int .u8 x1), (11, .bool (!(decide (y3.1 = x1)))), (12, .bool (!(decide (y3.1 = x1))))] [.code (sub [1, 0, 1] B35), .code (sub [1, 1] B35)] (by kernel_rfl) ?_
    exact Goes.jump 20 [(0, .pointer (some ⟨gx0, 0, none⟩)), (12, .bool (!(decide (y3.1 = x1))))] (by kernel_rfl) (W.syntax_parser_take_l0 nz wz S0 w0 Lr gx0 _ _ h _ _ ((Ext.refl S0 w0).trans z2) ve0_2v_3 p2 fe0_2v_3)

/-! tidepole/syntax.one -/
def Post.syntax_one (nz : Nat) (wz : World) (S0 : Fz) (w0 : World) (Lr : List Ent) (r : List Int) (v : Value) (w' : World) : Prop :=
  ∃ (S' : Fz) (vsq : List Value), v = .agg vsq.toArray ∧ Ext S0 w0 S' w' ∧ Hp nz wz S' w' (Lr) ∧ Els (kInt .u64) S' w' vsq r ∧ vsq.length = 4

theorem W.syntax_one (x0 : Int) (r : List Int) (h : M.syntax_one x0 = some r) (nz : Nat) (wz : World) (S0 : Fz) (w0 : World) (Lr : List Ent) (p0 : Hp nz wz S0 w0 (Lr)) :
    Calls Try.prog 82 #[.int .u8 x0] w0 (Rets (Post.syntax_one nz wz S0 w0 Lr r)) := by
  refine calls_of_goes (fn := Try.f82) (c := B82) (by kernel_rfl) (by kernel_rfl) 10 (by kernel_rfl) ?_
  refine Goes.jump 11 [(0, .int .u8 x0)] (by kernel_rfl) (fun junk => ?_)
  delta M.syntax_one at h
  refine Goes.runs 2 [] [.inRegion (opsOf (sub [0] B82)) [0], .code (sub [1] B82)] (by kernel_rfl) ?_
  refine Op_.alloc 25 2 0 (.agg #[.int .u64 0, .int .u64 0, .int .u64 0, .int .u64 0]) [.int .u64 0, .int .u64 0, .int .u64 0, .int .u64 0] p0 (Goes.vs (by kernel_rfl)) (by kernel_rfl) (by kernel_rfl) ?_
  intro b1 w2 z2 p2
  refine Goes.runs 3 [] [.inRegion (opsOf (sub [1, 0] B82)) [0], .code (sub [1, 1] B82)] (by kernel_rfl) ?_
  refine Op_.alloc 25 3 0 (.agg #[.int .u64 0, .int .u64 0, .int .u64 0, .int .u64 0]) [.int .u64 0, .int .u64 0, .int .u64 0, .int .u64 0] p2 (Goes.vs (by kernel_rfl)) (by kernel_rfl) (by kernel_rfl) ?_
  intro b3 w3 z3 p3
  refine Goes.runs 7 [(4, .int .u8 x0), (5, .int .u8 (iquo .u8 x0 64)), (6, .int .u8 x0), (7, .int .u8 (irem .u8 x0 64))] [.inRegion (opsOf (sub [1, 1, 0] B82)) [4, 5, 6], .code (sub [1, 1, 1] B82)] (by kernel_rfl) ?_
  refine guard_some' h fun g5 h => ?_
  refine Op_.binshl 23 (.const (.int .u64 1)) (.tmp 7) 5 8 23 .u64 .u8 1 (irem .u8 x0 64) (Goes.vs (by kernel_rfl)) (by kernel_rfl) (by kernel_rfl) g5 ?_
  have f6 : Els (kInt .u64) S0 w3 ([.int .u64 0, .int .u64 0, .int .u64 0, .int .u64 0] : List Value) [0, 0, 0, 0] := (Els.cons (K := (kInt .u64)) (vs := [.int .u64 0]) (x := 0) rfl (Els.cons (K := (kInt .u64)) (vs := [.int .u64 0]) (x := 0) rfl (Els.cons (K := (kInt .u64)) (vs := [.int .u64 0]) (x := 0) rfl (Els.cons (K := (kInt .u64)) (vs := [.int .u64 0]) (x := 0) rfl Els.nil))))
  refine guard_some' h fun g7 h => ?_
  refine guard_some' h fun g8 h => ?_
  refine Op_.ixA_n (K := (kInt .u64)) 25 (.tmp 3) (.tmp 5) 9 0 23 4 .u8 (iquo .u8 x0 64) 0 (gi [0, 0, 0, 0] (iquo .u8 x0 64)) rfl p3 rfl f6 (Els.len1 f6 rfl rfl) (Goes.vs (by kernel_rfl)) (by kernel_rfl) (by kernel_rfl) (by kernel_rfl) (by kernel_rfl) g7 g8 ?_
  intro _ q10 f9
  obtain rfl := q10
  refine let_some h fun v11 e12 h => ?_
  refine Op_.stE_n (K := (kInt .u64)) 23 (.tmp 9) (.tmp 8) 0 0 (iquo .u8 x0 64) (.int .u64 (ishl .u64 1 (irem .u8 x0 64))) [.int .u64 (ishl .u64 1 (irem .u8 x0 64))] (ishl .u64 1 (irem .u8 x0 64)) v11 4 (Els.len1 f6 rfl rfl) e12 p3 rfl f6 (Goes.ss (by kernel_rfl)) (by kernel_rfl) (by kernel_rfl) (by kernel_rfl) rfl (by kernel_rfl) g7 g8 (Nat.zero_le _) ?_
  intro w4 cs13 z4 p4 f14 l15
  have l16 : cs13.length = 4 := by rw [f14.length, l15]; rfl
  refine Goes.runs 3 [] [.inRegion (opsOf (sub [1, 1, 1, 0] B82)) [0, 1], .code (sub [1, 1, 1, 1] B82)] (by kernel_rfl) ?_
  refine Op_.ldN 25 (.tmp 3) 10 25 ⟨b3, 0, none⟩ cs13 (Goes.vs (by kernel_rfl)) (by kernel_rfl) (by kernel_rfl) (by rw [l16]; kernel_rfl) (At_all (p4.mem 0 rfl)) ?_
  have f17 : Els (kInt .u64) S0 w4 ([.int .u64 0, .int .u64 0, .int .u64 0, .int .u64 0] : List Value) [0, 0, 0, 0] := (Els.cons (K := (kInt .u64)) (vs := [.int .u64 0]) (x := 0) rfl (Els.cons (K := (kInt .u64)) (vs := [.int .u64 0]) (x := 0) rfl (Els.cons (K := (kInt .u64)) (vs := [.int .u64 0]) (x := 0) rfl (Els.cons (K := (kInt .u64)) (vs := [.int .u64 0]) (x := 0) rfl Els.nil))))
  refine Op_.stA 25 (.tmp 2) (.tmp 10) 0 1 b1 4 cs13 p4 rfl rfl (Goes.ss (by kernel_rfl)) (by kernel_rfl) (by kernel_rfl) (by kernel_rfl) l16 (Els.one f14) ?_
  intro w5 z5 p5
  refine Goes.runs 1 [] [.code (sub [1, 1, 1, 1] B82)] (by kernel_rfl) ?_
  obtain rfl := Option.some.inj h
  have p5 := (p5.front 0 _ rfl).drop
  exact Goes.ret (fn := Try.f82) (by kernel_rfl) (v := .agg cs13.toArray) (results_n1 (fn := Try.f82) (a := .cell 2 25) (by kernel_rfl) (resV_cell ⟨b1, 0, none⟩ (by kernel_rfl) (run_loadN cs13 (by kernel_rfl) (by rw [l16]; kernel_rfl) (At_all (p5.mem 0 rfl))))) ⟨S0, cs13, rfl, (((((Ext.refl S0 w0).trans z2).trans z3).trans z4).trans z5), p5.drop, (f14.ext z5), l16⟩

/-! tidepole/syntax.not -/
def Post.syntax_not (nz : Nat) (wz : World) (S0 : Fz) (w0 : World) (Lr : List Ent) (r : List Int) (v : Value) (w' : World) : Prop :=
  ∃ (S' : Fz) (vsq : List Value), v = .agg vsq.toArray ∧ Ext S0 w0 S' w' ∧ Hp nz wz S' w' (Lr) ∧ Els (kInt .u64) S' w' vsq r ∧ vsq.length = 4

def L.syntax_not_l0 (nz : Nat) (wz : World) (S0 : Fz) (w0 : World) (Lr : List Ent) : (List Int) × (List Int) × Int → (List Int) → Prop := fun ⟨x1, x2v_0, x4⟩ r => ∀ S1 w1, Ext S0 w0 S1 w1 → ∀ (gx1 : Nat) (csx1 : List Value) (gx2 : Nat) (_ : Hp nz wz S1 w1 ((some gx1, .row 25 csx1 4 0) :: (some gx2, .row 25 [.int .u64 (gi x2v_0 0), .int .u64 (gi x2v_0 1), .int .u64 (gi x2v_0 2), .int .u64 (gi x2v_0 3)] 4 0) :: Lr)) (_ : Els (kInt .u64) S1 w1 csx1 x1) (_ : csx1.length = 4) (_ : x2v_0.length = 4) (junk : Nat → Value),
  Goes Try.prog (base 81) [.code (sub [1, 0, 1, 0, 0] B81), .inLoop (sub [1, 0, 1, 0, 0] B81), .inBlock 0, .code (sub [1, 1] B81)] ⟨lfr 15 [(1, .pointer (some ⟨gx1, 0, none⟩)), (2, .pointer (some ⟨gx2, 0, none⟩)), (4, .int .i64 x4)] junk, []⟩ w1 (Done Try.prog 81 (Rets (Post.syntax_not nz wz S0 w0 Lr r)))

theorem W.syntax_not_l0 (nz : Nat) (wz : World) (S0 : Fz) (w0 : World) (Lr : List Ent) : ∀ a r, M.syntax_not_l0 a = some r → (L.syntax_not_l0 nz wz S0 w0 Lr) a r := by
  refine M.syntax_not_l0.partial_correctness (motive := (L.syntax_not_l0 nz wz S0 w0 Lr)) ?_
  intro rec_syntax_not_l0 ih_syntax_not_l0 ⟨x1, x2v_0, x4⟩ r h S1 w1 hx gx1 csx1 gx2 p1 fx1 lx1 lx2v_0 junk
  try dsimp only at h
  refine Goes.runs 5 [(5, .bool (decide (x4 < 4)))] [.code (sub [1, 0, 1, 0, 0, 1, 0] B81), .code (sub [1, 0, 1, 0, 0, 1, 1] B81), .inLoop (sub [1, 0, 1, 0, 0] B81), .inBlock 0, .code (sub [1, 1] B81)] (by kernel_rfl) ?_
  refine ite_some h (fun h7 h => ?_) (fun h7 h => ?_)
  · rw [decide_eq_true h7]
    refine Goes.runs 12 [(6, .int .i64 x4), (3, .int .i64 x4), (7, .int .i64 x4), (8, .int .i64 x4)] [.inRegion (opsOf (sub [1, 0, 1, 0, 0, 1, 1, 0, 0, 1] B81)) [2, 3, 4, 5, 6], .inBlock 1, .code (sub [1, 0, 1, 0, 0, 1, 1, 1] B81), .inLoop (sub [1, 0, 1, 0, 0] B81), .inBlock 0, .code (sub [1, 1] B81)] (by kernel_rfl) ?_
    refine guard_some' h fun g8 h => ?_
    refine Op_.ixA_n (K := (kInt .u64)) 25 (.tmp 1) (.tmp 8) 9 0 23 4 .i64 x4 0 (gi x1 x4) rfl p1 rfl fx1 (Els.len1 fx1 lx1 rfl) (Goes.vs (by kernel_rfl)) (by kernel_rfl) (by kernel_rfl) (by kernel_rfl) (by kernel_rfl) g8 h7 ?_
    intro _ q10 f9
    obtain rfl := q10
    refine Op_.ld1 23 (.tmp 9) 10 23 ⟨gx1, (x4 : Int).toNat * (kInt .u64).size, none⟩ (.int .u64 (gi x1 x4)) (Goes.vs (by kernel_rfl)) (by kernel_rfl) (by kernel_rfl) (f9 0 _ rfl) ?_
    refine Goes.runs 1 [(11, .int .u64 (ixor .u64 18446744073709551615 (gi x1 x4)))] [.inRegion (opsOf (sub [1, 0, 1, 0, 0, 1, 1, 0, 0, 1] B81)) [5, 6], .inBlock 1, .code (sub [1, 0, 1, 0, 0, 1, 1, 1] B81), .inLoop (sub [1, 0, 1, 0, 0] B81), .inBlock 0, .code (sub [1, 1] B81)] (by kernel_rfl) ?_
    refine Op_.ixA_n (K := (kInt .u64)) 25 (.tmp 1) (.tmp 7) 12 0 23 4 .i64 x4 0 (gi x1 x4) rfl p1 rfl fx1 (Els.len1 fx1 lx1 rfl) (Goes.vs (by kernel_rfl)) (by kernel_rfl) (by kernel_rfl) (by kernel_rfl) (by kernel_rfl) g8 h7 ?_
    intro _ q12 f11
    obtain rfl := q12
    refine let_some h fun v13 e14 h => ?_
    refine Op_.stE_n (K := (kInt .u64)) 23 (.tmp 12) (.tmp 11) 0 0 x4 (.int .u64 (ixor .u64 18446744073709551615 (gi x1 x4))) [.int .u64 (ixor .u64 18446744073709551615 (gi x1 x4))] (ixor .u64 18446744073709551615 (gi x1 x4)) v13 4 (Els.len1 fx1 lx1 rfl) e14 p1 rfl fx1 (Goes.ss (by kernel_rfl)) (by kernel_rfl) (by kernel_rfl) (by kernel_rfl) rfl (by kernel_rfl) g8 h7 (Nat.zero_le _) ?_
    intro w4 cs15 z4 p4 f16 l17
    have l18 : cs15.length = 4 := by rw [f16.length, l17]; rfl
    refine Goes.runs 7 [(13, .int .i64 (wr .i64 (x4 + 1))), (4, .int .i64 (wr .i64 (x4 + 1)))] [.code (sub [1, 0, 1, 0, 0] B81), .inLoop (sub [1, 0, 1, 0, 0] B81), .inBlock 0, .code (sub [1, 1] B81)] (by kernel_rfl) ?_
    exact Goes.jump 15 [(1, .pointer (some ⟨gx1, 0, none⟩)), (2, .pointer (some ⟨gx2, 0, none⟩)), (4, .int .i64 (wr .i64 (x4 + 1)))] (by kernel_rfl) (ih_syntax_not_l0 _ _ h _ _ (hx.trans z4) gx1 cs15 gx2 p4 f16 l18 lx2v_0)
  · rw [decide_eq_false h7]
    refine Goes.runs 4 [] [.inRegion (opsOf (sub [1, 1, 0] B81)) [0, 1], .code (sub [1, 1, 1] B81)] (by kernel_rfl) ?_
    refine Op_.ldN 25 (.tmp 1) 14 25 ⟨gx1, 0, none⟩ csx1 (Goes.vs (by kernel_rfl)) (by kernel_rfl) (by kernel_rfl) (by rw [lx1]; kernel_rfl) (At_all (p1.mem 0 rfl)) ?_
    have f19 : Els (kInt .u64) S1 w1 ([.int .u64 (gi x2v_0 0), .int .u64 (gi x2v_0 1), .int .u64 (gi x2v_0 2), .int .u64 (gi x2v_0 3)] : List Value) x2v_0 := (els_mk4 (k := .u64) lx2v_0)
    refine Op_.stA 25 (.tmp 2) (.tmp 14) 0 1 gx2 4 csx1 p1 rfl rfl (Goes.ss (by kernel_rfl)) (by kernel_rfl) (by kernel_rfl) (by kernel_rfl) lx1 (Els.one fx1) ?_
    intro w5 z5 p5
    refine Goes.runs 1 [] [.code (sub [1, 1, 1] B81)] (by kernel_rfl) ?_
    obtain rfl := Option.some.inj h
    have p5 := (p5.front 0 _ rfl).drop
    exact Goes.ret (fn := Try.f81) (by kernel_rfl) (v := .agg csx1.toArray) (results_n1 (fn := Try.f81) (a := .cell 2 25) (by kernel_rfl) (resV_cell ⟨gx2, 0, none⟩ (by kernel_rfl) (run_loadN csx1 (by kernel_rfl) (by rw [lx1]; kernel_rfl) (At_all (p5.mem 0 rfl))))) ⟨S1, csx1, rfl, (hx.trans z5), p5.drop, (fx1.ext z5), lx1⟩

/-! tidepole/syntax.not -/
theorem W.syntax_not (x0 : List Int) (r : List Int) (h : M.syntax_not x0 = some r) (nz : Nat) (wz : World) (S0 : Fz) (w0 : World) (Lr : List Ent) (vsx0 : List Value) (p0 : Hp nz wz S0 w0 (Lr)) (fx0 : Els (kInt .u64) S0 w0 vsx0 x0) (lx0 : vsx0.length = 4) :
    Calls Try.prog 81 #[.agg vsx0.toArray] w0 (Rets (Post.syntax_not nz wz S0 w0 Lr r)) := by
  refine calls_of_goes (fn := Try.f81) (c := B81) (by kernel_rfl) (by kernel_rfl) 14 (by kernel_rfl) ?_
  refine Goes.jump 15 [(0, .agg vsx0.toArray)] (by kernel_rfl) (fun junk => ?_)
  delta M.syntax_not at h
  refine Goes.runs 2 [] [.inRegion (opsOf (sub [0] B81)) [0, 1], .code (sub [1] B81)] (by kernel_rfl) ?_
  refine Op_.box 25 (.tmp 0) 1 0 (.agg vsx0.toArray) vsx0 p0 (Goes.vs (by kernel_rfl)) (by kernel_rfl) rfl ?_
  intro b1 w2 z2 p2
  replace p2 : Hp nz wz S0 w2 ((some b1, .row 25 vsx0 4 0) :: Lr) := by rw [show (vsx0).length = 4 from lx0] at p2; exact p2
  refine Op_.alloc 25 2 0 (.agg #[.int .u64 0, .int .u64 0, .int .u64 0, .int .u64 0]) [.int .u64 0, .int .u64 0, .int .u64 0, .int .u64 0] p2 (Goes.vs (by kernel_rfl)) (by kernel_rfl) (by kernel_rfl) ?_
  intro b3 w3 z3 p3
  refine Goes.runs 8 [(4, .int .i64 0)] [.code (sub [1, 0, 1, 0, 0] B81), .inLoop (sub [1, 0, 1, 0, 0] B81), .inBlock 0, .code (sub [1, 1] B81)] (by kernel_rfl) ?_
  have p3 := p3.front 0 _ rfl
  have p3 := p3.front 1 _ rfl
  exact Goes.jump 15 [(1, .pointer (some ⟨b1, 0, none⟩)), (2, .pointer (some ⟨b3, 0, none⟩)), (4, .int .i64 0)] (by kernel_rfl) (W.syntax_not_l0 nz wz S0 w0 Lr _ _ h _ _ (((Ext.refl S0 w0).trans z2).trans z3) b1 vsx0 b3 p3 (fx0.ext (z2.trans z3)) lx0 rfl)

/-! (*tidepole/syntax.parser).items -/
def Post.syntax_parser_items (nz : Nat) (wz : World) (S0 : Fz) (w0 : World) (Lr : List Ent) (gx0 : Nat) (vx0v_3 : Value) (x0v : T48) (r : Unit) (v : Value) (w' : World) : Prop :=
  ∃ (S' : Fz) (gqb0 : Nat), v = .func (.func 97) #[] #[.pointer (some ⟨gqb0, 0, none⟩)] ∧ Ext S0 w0 S' w' ∧ Hp nz wz S' w' ((some gqb0, .row 46 [.pointer (some ⟨gx0, 0, none⟩)] 1 0) :: (some gx0, .row 49 [.string x0v.s, .int .i64 x0v.at_, .int .i64 x0v.deep, vx0v_3] 4 0) :: Lr)

theorem W.syntax_parser_items (x0v : T48) (r : Unit) (h : M.syntax_parser_items x0v = some r) (nz : Nat) (wz : World) (S0 : Fz) (w0 : World) (Lr : List Ent) (gx0 : Nat) (vx0v_3 : Value) (p0 : Hp nz wz S0 w0 ((some gx0, .row 49 [.string x0v.s, .int .i64 x0v.at_, .int .i64 x0v.deep, vx0v_3] 4 0) :: Lr)) (fx0v_3 : PtO kT52 S0 w0 vx0v_3 x0v.bad) :
    Calls Try.prog 91 #[.pointer (some ⟨gx0, 0, none⟩)] w0 (Rets (Post.syntax_parser_items nz wz S0 w0 Lr gx0 vx0v_3 x0v r)) := by
  refine calls_of_goes (fn := Try.f91) (c := B91) (by kernel_rfl) (by kernel_rfl) 3 (by kernel_rfl) ?_
  refine Goes.jump 4 [(0, .pointer (some ⟨gx0, 0, none⟩))] (by kernel_rfl) (fun junk => ?_)
  delta M.syntax_parser_items at h
  refine Goes.runs 2 [] [.inRegion (opsOf (sub [0] B91)) [0, 1], .code (sub [1] B91)] (by kernel_rfl) ?_
  refine Op_.box 46 (.tmp 0) 1 0 (.pointer (some ⟨gx0, 0, none⟩)) [.pointer (some ⟨gx0, 0, none⟩)] p0 (Goes.vs (by kernel_rfl)) (by kernel_rfl) (by kernel_rfl) ?_
  intro b2 w2 z2 p2
  refine Goes.runs 7 [(2, .func (.func 97) #[] #[.pointer (some ⟨b2, 0, none⟩)]), (3, .func (.func 97) #[] #[.pointer (some ⟨b2, 0, none⟩)])] [.code (sub [1, 1] B91)] (by kernel_rfl) ?_
  obtain rfl := Option.some.inj h
  exact Goes.ret (fn := Try.f91) (by kernel_rfl) (v := .func (.func 97) #[] #[.pointer (some ⟨b2, 0, none⟩)]) (by kernel_rfl) ⟨S0, b2, rfl, ((Ext.refl S0 w0).trans z2), p2⟩

/-! tidepole/syntax.span -/
def Post.syntax_span (nz : Nat) (wz : World) (S0 : Fz) (w0 : World) (Lr : List Ent) (r : List Int) (v : Value) (w' : World) : Prop :=
  ∃ (S' : Fz) (vsq : List Value), v = .agg vsq.toArray ∧ Ext S0 w0 S' w' ∧ Hp nz wz S' w' (Lr) ∧ Els (kInt .u64) S' w' vsq r ∧ vsq.length = 4

def L.syntax_span_l0 (nz : Nat) (wz : World) (S0 : Fz) (w0 : World) (Lr : List Ent) : Int × (List Int) × (List Int) × Int → (List Int) → Prop := fun ⟨x1, x4v_0, x5, x6⟩ r => ∀ S1 w1, Ext S0 w0 S1 w1 → ∀ (gx4 : Nat) (gx5 : Nat) (csx5 : List Value) (_ : Hp nz wz S1 w1 ((some gx4, .row 25 [.int .u64 (gi x4v_0 0), .int .u64 (gi x4v_0 1), .int .u64 (gi x4v_0 2), .int .u64 (gi x4v_0 3)] 4 0) :: (some gx5, .row 25 csx5 4 0) :: Lr)) (_ : x4v_0.length = 4) (_ : Els (kInt .u64) S1 w1 csx5 x5) (_ : csx5.length = 4) (junk : Nat → Value),
  Goes Try.prog (base 99) [.code (sub [1, 1, 0, 1, 0, 0] B99), .inLoop (sub [1, 1, 0, 1, 0, 0] B99), .inBlock 0, .code (sub [1, 1, 1] B99)] ⟨lfr 25 [(1, .int .u8 x1), (4, .pointer (some ⟨gx4, 0, none⟩)), (5, .pointer (some ⟨gx5, 0, none⟩)), (6, .int .i64 x6)] junk, []⟩ w1 (Done Try.prog 99 (Rets (Post.syntax_span nz wz S0 w0 Lr r)))

theorem W.syntax_span_l0 (nz : Nat) (wz : World) (S0 : Fz) (w0 : World) (Lr : List Ent) : ∀ a r, M.syntax_span_l0 a = some r → (L.syntax_span_l0 nz wz S0 w0 Lr) a r := by
  refine M.syntax_span_l0.partial_correctness (motive := (L.syntax_span_l0 nz wz S0 w0 Lr)) ?_
  intro rec_syntax_span_l0 ih_syntax_span_l0 ⟨x1, x4v_0, x5, x6⟩ r h S1 w1 hx gx4 gx5 csx5 p1 lx4v_0 fx5 lx5 junk
  try dsimp only at h
  refine Goes.runs 8 [(9, .int .i64 x6), (10, .int .u8 x1), (11, .int .i64 (wr .i64 x1)), (12, .bool (decide (x6 ≤ wr .i64 x1)))] [.code (sub [1, 1, 0, 1, 0, 0, 0, 1] B99), .code (sub [1, 1, 0, 1, 0, 0, 1] B99), .inLoop (sub [1, 1, 0, 1, 0, 0] B99), .inBlock 0, .code (sub [1, 1, 1] B99)] (by kernel_rfl) ?_
  refine ite_some h (fun h8 h => ?_) (fun h8 h => ?_)
  · rw [decide_eq_true h8]
    refine Goes.runs 4 [] [.code (sub [1, 1, 0, 1, 0, 0, 1, 0, 0] B99), .inBlock 1, .code (sub [1, 1, 0, 1, 0, 0, 1, 1] B99), .inLoop (sub [1, 1, 0, 1, 0, 0] B99), .inBlock 0, .code (sub [1, 1, 1] B99)] (by kernel_rfl) ?_
    have z4 : Ext S1 w1 S1 (w1).drew := Ext.draw
    have p4 := p1.draw
    refine Goes.drawn (s := [9]) (F := Fc S1 (w1).drew ([] ++ (rowCells gx5 csx5 ++ []))) 5 10 (by kernel_rfl) (by kernel_rfl) (by kernel_rfl) (by kernel_rfl) ?_
    generalize (w1).drew = w4 at z4 p4 ⊢
    refine AnyG.pure (i := 0) (.move (.tmp 6)) 15 3 (.int .i64 x6) (by kernel_rfl) (by kernel_rfl) (by kernel_rfl) (Fc.here (Cells.app trivial (Cells.app (Cells.row (p4.mem 1 rfl).cell) trivial))) ?_
    refine AnyG.pure (i := 1) (.binOp .quo 3 (.tmp 15) (.const (.int .i64 64)) 3) 16 3 (.int .i64 (iquo .i64 x6 64)) (by kernel_rfl) (by kernel_rfl) (by kernel_rfl) (Fc.here (Cells.app trivial (Cells.app (Cells.row (p4.mem 1 rfl).cell) trivial))) ?_
    refine guard_some' h fun g9 h => ?_
    refine guard_some' h fun g10 h => ?_
    refine AnyG.ixA_n (i := 2) (K := (kInt .u64)) 25 (.tmp 5) (.tmp 16) 17 0 23 4 .i64 (iquo .i64 x6 64) 1 (gi x5 (iquo .i64 x6 64)) rfl p4 rfl (fx5.ext z4) (Els.len1 (fx5.ext z4) lx5 rfl) (by kernel_rfl) (by kernel_rfl) (Fc.here (Cells.app trivial (Cells.app (Cells.row (p4.mem 1 rfl).cell) trivial))) (by kernel_rfl) (by kernel_rfl) (by kernel_rfl) (by kernel_rfl) g9 g10 ?_
    intro _ q12 f13 f11
    obtain rfl := q12
    refine AnyG.ld1 (i := 3) 23 (.tmp 17) 18 23 ⟨gx5, (iquo .i64 x6 64 : Int).toNat * (kInt .u64).size, none⟩ (.int .u64 (gi x5 (iquo .i64 x6 64))) (by kernel_rfl) (by kernel_rfl) (Fc.here (Cells.app trivial (Cells.app (Cells.row (p4.mem 1 rfl).cell) trivial))) (by kernel_rfl) (by kernel_rfl) (fun _ h => h.2.right.left.rowAt (f13 0 _ rfl)) ?_
    refine AnyG.pure (i := 4) (.move (.tmp 6)) 19 3 (.int .i64 x6) (by kernel_rfl) (by kernel_rfl) (by kernel_rfl) (Fc.here (Cells.app trivial (Cells.app (Cells.row (p4.mem 1 rfl).cell) trivial))) ?_
    refine AnyG.pure (i := 5) (.binOp .rem 3 (.tmp 19) (.const (.int .i64 64)) 3) 20 3 (.int .i64 (irem .i64 x6 64)) (by kernel_rfl) (by kernel_rfl) (by kernel_rfl) (Fc.here (Cells.app trivial (Cells.app (Cells.row (p4.mem 1 rfl).cell) trivial))) ?_
    refine guard_some' h fun g14 h => ?_
    refine AnyG.binshl (i := 6) 23 (.const (.int .u64 1)) (.tmp 20) 3 21 23 .u64 .i64 1 (irem .i64 x6 64) (by kernel_rfl) (by kernel_rfl) (Fc.here (Cells.app trivial (Cells.app (Cells.row (p4.mem 1 rfl).cell) trivial))) (by kernel_rfl) (by kernel_rfl) g14 ?_
    refine AnyG.pure (i := 7) (.binOp .or 23 (.tmp 18) (.tmp 21) 23) 22 23 (.int .u64 (ior .u64 (gi x5 (iquo .i64 x6 64)) (ishl .u64 1 (irem .i64 x6 64)))) (by kernel_rfl) (by kernel_rfl) (by kernel_rfl) (Fc.here (Cells.app trivial (Cells.app (Cells.row (p4.mem 1 rfl).cell) trivial))) ?_
    refine AnyG.ixA_n (i := 8) (K := (kInt .u64)) 25 (.tmp 5) (.tmp 16) 23 0 23 4 .i64 (iquo .i64 x6 64) 1 (gi x5 (iquo .i64 x6 64)) rfl p4 rfl (fx5.ext z4) (Els.len1 (fx5.ext z4) lx5 rfl) (by kernel_rfl) (by kernel_rfl) (Fc.here (Cells.app trivial (Cells.app (Cells.row (p4.mem 1 rfl).cell) trivial))) (by kernel_rfl) (by kernel_rfl) (by kernel_rfl) (by kernel_rfl) g9 g10 ?_
    intro _ q16 f17 f15
    obtain rfl := q16
    refine let_some h fun v18 e19 h => ?_
    refine Op_.stE_n (K := (kInt .u64)) 23 (.tmp 23) (.tmp 22) 0 1 (iquo .i64 x6 64) (.int .u64 (ior .u64 (gi x5 (iquo .i64 x6 64)) (ishl .u64 1 (irem .i64 x6 64)))) [.int .u64 (ior .u64 (gi x5 (iquo .i64 x6 64)) (ishl .u64 1 (irem .i64 x6 64)))] (ior .u64 (gi x5 (iquo .i64 x6 64)) (ishl .u64 1 (irem .i64 x6 64))) v18 4 (Els.len1 (fx5.ext z4) lx5 rfl) e19 p4 rfl (fx5.ext z4) (AnyG.ss (i := 9) (by kernel_rfl) (by kernel_rfl)) (by kernel_rfl) (by kernel_rfl) (by kernel_rfl) rfl (by kernel_rfl) g9 g10 (Nat.zero_le _) ?_
    intro w5 cs20 z5 p5 f21 l22
    have l23 : cs20.length = 4 := by rw [f21.length, l22]; rfl
    refine AnyG.last [] (Fc S1 w5 []) (by decide) ?_
    refine AnyG.done (by kernel_rfl) ?_ _
    refine Goes.runs 7 [(13, .int .i64 x6), (14, .int .i64 (wr .i64 (x6 + 1))), (6, .int .i64 (wr .i64 (x6 + 1)))] [.code (sub [1, 1, 0, 1, 0, 0] B99), .inLoop (sub [1, 1, 0, 1, 0, 0] B99), .inBlock 0, .code (sub [1, 1, 1] B99)] (by kernel_rfl) ?_
    exact Goes.jump 25 [(1, .int .u8 x1), (4, .pointer (some ⟨gx4, 0, none⟩)), (5, .pointer (some ⟨gx5, 0, none⟩)), (6, .int .i64 (wr .i64 (x6 + 1)))] (by kernel_rfl) (ih_syntax_span_l0 _ _ h _ _ ((hx.trans z4).trans z5) gx4 gx5 cs20 p5 lx4v_0 f21 l23)
  · rw [decide_eq_false h8]
    refine Goes.runs 4 [] [.inRegion (opsOf (sub [1, 1, 1, 0] B99)) [0, 1], .code (sub [1, 1, 1, 1] B99)] (by kernel_rfl) ?_
    refine Op_.ldN 25 (.tmp 5) 24 25 ⟨gx5, 0, none⟩ csx5 (Goes.vs (by kernel_rfl)) (by kernel_rfl) (by kernel_rfl) (by rw [lx5]; kernel_rfl) (At_all (p1.mem 1 rfl)) ?_
    have f24 : Els (kInt .u64) S1 w1 ([.int .u64 (gi x4v_0 0), .int .u64 (gi x4v_0 1), .int .u64 (gi x4v_0 2), .int .u64 (gi x4v_0 3)] : List Value) x4v_0 := (els_mk4 (k := .u64) lx4v_0)
    refine Op_.stA 25 (.tmp 4) (.tmp 24) 0 0 gx4 4 csx5 p1 rfl rfl (Goes.ss (by kernel_rfl)) (by kernel_rfl) (by kernel_rfl) (by kernel_rfl) lx5 (Els.one fx5) ?_
    intro w6 z6 p6
    refine Goes.runs 1 [] [.code (sub [1, 1, 1, 1] B99)] (by kernel_rfl) ?_
    obtain rfl := Option.some.inj h
    have p6 := (p6.front 1 _ rfl).drop
    exact Goes.ret (fn := Try.f99) (by kernel_rfl) (v := .agg csx5.toArray) (results_n1 (fn := Try.f99) (a := .cell 4 25) (by kernel_rfl) (resV_cell ⟨gx4, 0, none⟩ (by kernel_rfl) (run_loadN csx5 (by kernel_rfl) (by rw [lx5]; kernel_rfl) (At_all (p6.mem 0 rfl))))) ⟨S1, csx5, rfl, (hx.trans z6), p6.drop, (fx5.ext z6), lx5⟩

/-! tidepole/syntax.span -/
theorem W.syntax_span (x0 : Int) (x1 : Int) (r : List Int) (h : M.syntax_span x0 x1 = some r) (nz : Nat) (wz : World) (S0 : Fz) (w0 : World) (Lr : List Ent) (p0 : Hp nz wz S0 w0 (Lr)) :
    Calls Try.prog 99 #[.int .u8 x0, .int .u8 x1] w0 (Rets (Post.syntax_span nz wz S0 w0 Lr r)) := by
  refine calls_of_goes (fn := Try.f99) (c := B99) (by kernel_rfl) (by kernel_rfl) 23 (by kernel_rfl) ?_
  refine Goes.jump 25 [(0, .int .u8 x0), (1, .int .u8 x1)] (by kernel_rfl) (fun junk => ?_)
  delta M.syntax_span at h
  refine Goes.runs 2 [] [.inRegion (opsOf (sub [0] B99)) [0], .code (sub [1] B99)] (by kernel_rfl) ?_
  refine Op_.alloc 25 4 0 (.agg #[.int .u64 0, .int .u64 0, .int .u64 0, .int .u64 0]) [.int .u64 0, .int .u64 0, .int .u64 0, .int .u64 0] p0 (Goes.vs (by kernel_rfl)) (by kernel_rfl) (by kernel_rfl) ?_
  intro b1 w2 z2 p2
  refine Goes.runs 3 [] [.inRegion (opsOf (sub [1, 0] B99)) [0], .code (sub [1, 1] B99)] (by kernel_rfl) ?_
  refine Op_.alloc 25 5 0 (.agg #[.int .u64 0, .int .u64 0, .int .u64 0, .int .u64 0]) [.int .u64 0, .int .u64 0, .int .u64 0, .int .u64 0] p2 (Goes.vs (by kernel_rfl)) (by kernel_rfl) (by kernel_rfl) ?_
  intro b3 w3 z3 p3
  refine Goes.runs 10 [(7, .int .u8 x0), (8, .int .i64 (wr .i64 x0)), (6, .int .i64 (wr .i64 x0))] [.code (sub [1, 1, 0, 1, 0, 0] B99), .inLoop (sub [1, 1, 0, 1, 0, 0] B99), .inBlock 0, .code (sub [1, 1, 1] B99)] (by kernel_rfl) ?_
  have f7 : Els (kInt .u64) S0 w3 ([.int .u64 0, .int .u64 0, .int .u64 0, .int .u64 0] : List Value) [0, 0, 0, 0] := (Els.cons (K := (kInt .u64)) (vs := [.int .u64 0]) (x := 0) rfl (Els.cons (K := (kInt .u64)) (vs := [.int .u64 0]) (x := 0) rfl (Els.cons (K := (kInt .u64)) (vs := [.int .u64 0]) (x := 0) rfl (Els.cons (K := (kInt .u64)) (vs := [.int .u64 0]) (x := 0) rfl Els.nil))))
  have p3 := p3.front 0 _ rfl
  have p3 := p3.front 1 _ rfl
  exact Goes.jump 25 [(1, .int .u8 x1), (4, .pointer (some ⟨b1, 0, none⟩)), (5, .pointer (some ⟨b3, 0, none⟩)), (6, .int .i64 (wr .i64 x0))] (by kernel_rfl) (W.syntax_span_l0 nz wz S0 w0 Lr _ _ h _ _ (((Ext.refl S0 w0).trans z2).trans z3) b1 b3 ([.int .u64 0, .int .u64 0, .int .u64 0, .int .u64 0] : List Value) p3 rfl f7 rfl)

/-! tidepole/syntax.join -/
def Post.syntax_join (nz : Nat) (wz : World) (S0 : Fz) (w0 : World) (Lr : List Ent) (r : List Int) (v : Value) (w' : World) : Prop :=
  ∃ (S' : Fz) (vsq : List Value), v = .agg vsq.toArray ∧ Ext S0 w0 S' w' ∧ Hp nz wz S' w' (Lr) ∧ Els (kInt .u64) S' w' vsq r ∧ vsq.length = 4

def L.syntax_join_l0 (nz : Nat) (wz : World) (S0 : Fz) (w0 : World) (Lr : List Ent) : (List Int) × (List Int) × (List (List Int)) × Int × Int → (List Int) → Prop := fun ⟨x2v_0, x3, x7, x8, x9⟩ r => ∀ S1 w1, Ext S0 w0 S1 w1 → ∀ (gx2 : Nat) (gx3 : Nat) (csx3 : List Value) (Ax7 : Option Addr) (nx7 : Nat) (cx7 : Nat) (_ : Hp nz wz S1 w1 ((some gx2, .row 25 [.int .u64 (gi x2v_0 0), .int .u64 (gi x2v_0 1), .int .u64 (gi x2v_0 2), .int .u64 (gi x2v_0 3)] 4 0) :: (some gx3, .row 25 csx3 4 0) :: Lr)) (_ : x2v_0.length = 4) (_ : Els (kInt .u64) S1 w1 csx3 x3) (_ : csx3.length = 4) (_ : Rd (kArr 4 (kInt .u64)) S1 w1 Ax7 cx7 x7) (_ : x7.length = nx7) (junk : Nat → Value),
  Goes Try.prog (base 92) [.code (sub [1, 1, 0, 1, 0, 0] B92), .inLoop (sub [1, 1, 0, 1, 0, 0] B92), .inBlock 0, .code (sub [1, 1, 1] B92)] ⟨lfr 27 [(2, .pointer (some ⟨gx2, 0, none⟩)), (3, .pointer (some ⟨gx3, 0, none⟩)), (7, .slice Ax7 nx7 cx7), (8, .int .i64 x8), (9, .int .i64 x9)] junk, []⟩ w1 (Done Try.prog 92 (Rets (Post.syntax_join nz wz S0 w0 Lr r)))

def L.syntax_join_l1 (nz : Nat) (wz : World) (S0 : Fz) (w0 : World) (Lr : List Ent) : (List Int) × (List Int) × (List Int) × (List (List Int)) × Int × Int × Int → (List Int) → Prop := fun ⟨x2v_0, x3, x5, x7, x8, x9, x13⟩ r => ∀ S1 w1, Ext S0 w0 S1 w1 → ∀ (gx2 : Nat) (gx3 : Nat) (csx3 : List Value) (gx5 : Nat) (csx5 : List Value) (Ax7 : Option Addr) (nx7 : Nat) (cx7 : Nat) (_ : Hp nz wz S1 w1 ((some gx2, .row 25 [.int .u64 (gi x2v_0 0), .int .u64 (gi x2v_0 1), .int .u64 (gi x2v_0 2), .int .u64 (gi x2v_0 3)] 4 0) :: (some gx3, .row 25 csx3 4 0) :: (some gx5, .row 25 csx5 4 0) :: Lr)) (_ : x2v_0.length = 4) (_ : Els (kInt .u64) S1 w1 csx3 x3) (_ : csx3.length = 4) (_ : Els (kInt .u64) S1 w1 csx5 x5) (_ : csx5.length = 4) (_ : Rd (kArr 4 (kInt .u64)) S1 w1 Ax7 cx7 x7) (_ : x7.length = nx7) (junk : Nat → Value),
  Goes Try.prog (base 92) [.code (sub [1, 1, 0, 1, 0, 0, 1, 1, 0, 0, 1, 1, 0, 0] B92), .inLoop (sub [1, 1, 0, 1, 0, 0, 1, 1, 0, 0, 1, 1, 0, 0] B92), .inBlock 2, .inBlock 1, .code (sub [1, 1, 0, 1, 0, 0, 1, 1, 1] B92), .inLoop (sub [1, 1, 0, 1, 0, 0] B92), .inBlock 0, .code (sub [1, 1, 1] B92)] ⟨lfr 27 [(2, .pointer (some ⟨gx2, 0, none⟩)), (3, .pointer (some ⟨gx3, 0, none⟩)), (5, .pointer (some ⟨gx5, 0, none⟩)), (7, .slice Ax7 nx7 cx7), (8, .int .i64 x8), (9, .int .i64 x9), (13, .int .i64 x13)] junk, []⟩ w1 (Done Try.prog 92 (Rets (Post.syntax_join nz wz S0 w0 Lr r)))

theorem W.syntax_join_l0_all (nz : Nat) (wz : World) (S0 : Fz) (w0 : World) (Lr : List Ent) : (∀ a r, M.syntax_join_l0 a = some r → (L.syntax_join_l0 nz wz S0 w0 Lr) a r) ∧ (∀ a r, M.syntax_join_l1 a = some r → (L.syntax_join_l1 nz wz S0 w0 Lr) a r) := by
  refine M.syntax_join_l0.mutual_partial_correctness (L.syntax_join_l0 nz wz S0 w0 Lr) (L.syntax_join_l1 nz wz S0 w0 Lr) ?_ ?_
  · intro rec_syntax_join_l1 ih_syntax_join_l1 ⟨x2v_0, x3, x7, x8, x9⟩ r h S1 w1 hx gx2 gx3 csx3 Ax7 nx7 cx7 p1 lx2v_0 fx3 lx3 fx7 lx7 junk
    try dsimp only at h
    subst lx7
    refine Goes.runs 5 [(10, .bool (decide (x9 < x8)))] [.code (sub [1, 1, 0, 1, 0, 0, 1, 0] B92), .code (sub [1, 1, 0, 1, 0, 0, 1, 1] B92), .inLoop (sub [1, 1, 0, 1, 0, 0] B92), .inBlock 0, .code (sub [1, 1, 1] B92)] (by kernel_rfl) ?_
    refine ite_some h (fun h8 h => ?_) (fun h8 h => ?_)
    · rw [decide_eq_true h8]
      refine Goes.runs 6 [] [.inRegion (opsOf (sub [1, 1, 0, 1, 0, 0, 1, 1, 0, 0, 0] B92)) [0, 1, 2, 3], .code (sub [1, 1, 0, 1, 0, 0, 1, 1, 0, 0, 1] B92), .inBlock 1, .code (sub [1, 1, 0, 1, 0, 0, 1, 1, 1] B92), .inLoop (sub [1, 1, 0, 1, 0, 0] B92), .inBlock 0, .code (sub [1, 1, 1] B92)] (by kernel_rfl) ?_
      refine guard_some' h fun g9 h => ?_
      refine guard_some' h fun g10 h => ?_
      refine Op_.ixR_n 149 (.tmp 7) (.tmp 9) 11 0 25 .i64 x9 (gi x7 x9) rfl rfl fx7 (Goes.vs (by kernel_rfl)) (by kernel_rfl) (by kernel_rfl) (by kernel_rfl) (by kernel_rfl) g9 g10 ?_
      intro a11 _ f12 q13
      obtain ⟨l14, f15⟩ := q13
      obtain rfl := els_lit4' f15 l14
      refine Op_.ldN 25 (.tmp 11) 12 25 a11 [.int .u64 (gi (gi x7 x9) 0), .int .u64 (gi (gi x7 x9) 1), .int .u64 (gi (gi x7 x9) 2), .int .u64 (gi (gi x7 x9) 3)] (Goes.vs (by kernel_rfl)) (by kernel_rfl) (by kernel_rfl) (by kernel_rfl) (f12.cell) ?_
      refine Op_.alloc 25 5 0 (.agg #[.int .u64 0, .int .u64 0, .int .u64 0, .int .u64 0]) [.int .u64 0, .int .u64 0, .int .u64 0, .int .u64 0] p1 (Goes.vs (by kernel_rfl)) (by kernel_rfl) (by kernel_rfl) ?_
      intro b16 w4 z4 p4
      refine Op_.st 25 (.tmp 5) (.tmp 12) 0 0 b16 0 (.agg #[.int .u64 (gi (gi x7 x9) 0), .int .u64 (gi (gi x7 x9) 1), .int .u64 (gi (gi x7 x9) 2), .int .u64 (gi (gi x7 x9) 3)]) [.int .u64 (gi (gi x7 x9) 0), .int .u64 (gi (gi x7 x9) 1), .int .u64 (gi (gi x7 x9) 2), .int .u64 (gi (gi x7 x9) 3)] p4 rfl (Goes.ss (by kernel_rfl)) (by kernel_rfl) (by kernel_rfl) (by kernel_rfl) (by kernel_rfl) (Nat.zero_le _) (by simp only [List.length_cons, List.length_nil]; omega) (by simp [Value.oneCell']) ?_
      intro w5 z5 p5
      refine Goes.runs 7 [(13, .int .i64 0)] [.code (sub [1, 1, 0, 1, 0, 0, 1, 1, 0, 0, 1, 1, 0, 0] B92), .inLoop (sub [1, 1, 0, 1, 0, 0, 1, 1, 0, 0, 1, 1, 0, 0] B92), .inBlock 2, .inBlock 1, .code (sub [1, 1, 0, 1, 0, 0, 1, 1, 1] B92), .inLoop (sub [1, 1, 0, 1, 0, 0] B92), .inBlock 0, .code (sub [1, 1, 1] B92)] (by kernel_rfl) ?_
      have f21 : Els (kInt .u64) S1 w5 ([.int .u64 (gi (gi x7 x9) 0), .int .u64 (gi (gi x7 x9) 1), .int .u64 (gi (gi x7 x9) 2), .int .u64 (gi (gi x7 x9) 3)] : List Value) (gi x7 x9) := (els_mk4 (k := .u64) l14)
      have p5 := p5.front 0 _ rfl
      have p5 := p5.front 2 _ rfl
      have p5 := p5.front 2 _ rfl
      exact Goes.jump 27 [(2, .pointer (some ⟨gx2, 0, none⟩)), (3, .pointer (some ⟨gx3, 0, none⟩)), (5, .pointer (some ⟨b16, 0, none⟩)), (7, .slice Ax7 x7.length cx7), (8, .int .i64 x8), (9, .int .i64 x9), (13, .int .i64 0)] (by kernel_rfl) (ih_syntax_join_l1 _ _ h _ _ ((hx.trans z4).trans z5) gx2 gx3 csx3 b16 ([.int .u64 (gi (gi x7 x9) 0), .int .u64 (gi (gi x7 x9) 1), .int .u64 (gi (gi x7 x9) 2), .int .u64 (gi (gi x7 x9) 3)] : List Value) Ax7 x7.length cx7 p5 lx2v_0 (fx3.ext (z4.trans z5)) lx3 f21 rfl (fx7.ext (z4.trans z5)) rfl)
    · rw [decide_eq_false h8]
      refine Goes.runs 4 [] [.inRegion (opsOf (sub [1, 1, 1, 0] B92)) [0, 1], .code (sub [1, 1, 1, 1] B92)] (by kernel_rfl) ?_
      refine Op_.ldN 25 (.tmp 3) 26 25 ⟨gx3, 0, none⟩ csx3 (Goes.vs (by kernel_rfl)) (by kernel_rfl) (by kernel_rfl) (by rw [lx3]; kernel_rfl) (At_all (p1.mem 1 rfl)) ?_
      have f22 : Els (kInt .u64) S1 w1 ([.int .u64 (gi x2v_0 0), .int .u64 (gi x2v_0 1), .int .u64 (gi x2v_0 2), .int .u64 (gi x2v_0 3)] : List Value) x2v_0 := (els_mk4 (k := .u64) lx2v_0)
      refine Op_.stA 25 (.tmp 2) (.tmp 26) 0 0 gx2 4 csx3 p1 rfl rfl (Goes.ss (by kernel_rfl)) (by kernel_rfl) (by kernel_rfl) (by kernel_rfl) lx3 (Els.one fx3) ?_
      intro w6 z6 p6
      refine Goes.runs 1 [] [.code (sub [1, 1, 1, 1] B92)] (by kernel_rfl) ?_
      obtain rfl := Option.some.inj h
      have p6 := (p6.front 1 _ rfl).drop
      exact Goes.ret (fn := Try.f92) (by kernel_rfl) (v := .agg csx3.toArray) (results_n1 (fn := Try.f92) (a := .cell 2 25) (by kernel_rfl) (resV_cell ⟨gx2, 0, none⟩ (by kernel_rfl) (run_loadN csx3 (by kernel_rfl) (by rw [lx3]; kernel_rfl) (At_all (p6.mem 0 rfl))))) ⟨S1, csx3, rfl, (hx.trans z6), p6.drop, (fx3.ext z6), lx3⟩
  · intro rec_syntax_join_l0 rec_syntax_join_l1 ih_syntax_join_l0 ih_syntax_join_l1 ⟨x2v_0, x3, x5, x7, x8, x9, x13⟩ r h S1 w1 hx gx2 gx3 csx3 gx5 csx5 Ax7 nx7 cx7 p1 lx2v_0 fx3 lx3 fx5 lx5 fx7 lx7 junk
    try dsimp only at h
    subst lx7
    refine Goes.runs 5 [(14, .bool (decide (x13 < 4)))] [.code (sub [1, 1, 0, 1, 0, 0, 1, 1, 0, 0, 1, 1, 0, 0, 1, 0] B92), .code (sub [1, 1, 0, 1, 0, 0, 1, 1, 0, 0, 1, 1, 0, 0, 1, 1] B92), .inLoop (sub [1, 1, 0, 1, 0, 0, 1, 1, 0, 0, 1, 1, 0, 0] B92), .inBlock 2, .inBlock 1, .code (sub [1, 1, 0, 1, 0, 0, 1, 1, 1] B92), .inLoop (sub [1, 1, 0, 1, 0, 0] B92), .inBlock 0, .code (sub [1, 1, 1] B92)] (by kernel_rfl) ?_
    refine ite_some h (fun h23 h => ?_) (fun h23 h => ?_)
    · rw [decide_eq_true h23]
      refine Goes.runs 9 [(15, .int .i64 x13), (6, .int .i64 x13)] [.code (sub [1, 1, 0, 1, 0, 0, 1, 1, 0, 0, 1, 1, 0, 0, 1, 1, 0, 0, 1] B92), .inBlock 3, .code (sub [1, 1, 0, 1, 0, 0, 1, 1, 0, 0, 1, 1, 0, 0, 1, 1, 1] B92), .inLoop (sub [1, 1, 0, 1, 0, 0, 1, 1, 0, 0, 1, 1, 0, 0] B92), .inBlock 2, .inBlock 1, .code (sub [1, 1, 0, 1, 0, 0, 1, 1, 1] B92), .inLoop (sub [1, 1, 0, 1, 0, 0] B92), .inBlock 0, .code (sub [1, 1, 1] B92)] (by kernel_rfl) ?_
      have z7 : Ext S1 w1 S1 (w1).drew := Ext.draw
      have p7 := p1.draw
      refine Goes.drawn (s := [8]) (F := Fc S1 (w1).drew ([] ++ (rowCells gx3 csx3 ++ (rowCells gx5 csx5 ++ [])))) 8 9 (by kernel_rfl) (by kernel_rfl) (by kernel_rfl) (by kernel_rfl) ?_
      generalize (w1).drew = w7 at z7 p7 ⊢
      refine AnyG.pure (i := 0) (.move (.tmp 6)) 16 3 (.int .i64 x13) (by kernel_rfl) (by kernel_rfl) (by kernel_rfl) (Fc.here (Cells.app trivial (Cells.app (Cells.row (p7.mem 1 rfl).cell) (Cells.app (Cells.row (p7.mem 2 rfl).cell) trivial)))) ?_
      refine guard_some' h fun g24 h => ?_
      refine AnyG.ixA_n (i := 1) (K := (kInt .u64)) 25 (.tmp 3) (.tmp 16) 17 0 23 4 .i64 x13 1 (gi x3 x13) rfl p7 rfl (fx3.ext z7) (Els.len1 (fx3.ext z7) lx3 rfl) (by kernel_rfl) (by kernel_rfl) (Fc.here (Cells.app trivial (Cells.app (Cells.row (p7.mem 1 rfl).cell) (Cells.app (Cells.row (p7.mem 2 rfl).cell) trivial)))) (by kernel_rfl) (by kernel_rfl) (by kernel_rfl) (by kernel_rfl) g24 h23 ?_
      intro _ q26 f27 f25
      obtain rfl := q26
      refine AnyG.ld1 (i := 2) 23 (.tmp 17) 18 23 ⟨gx3, (x13 : Int).toNat * (kInt .u64).size, none⟩ (.int .u64 (gi x3 x13)) (by kernel_rfl) (by kernel_rfl) (Fc.here (Cells.app trivial (Cells.app (Cells.row (p7.mem 1 rfl).cell) (Cells.app (Cells.row (p7.mem 2 rfl).cell) trivial)))) (by kernel_rfl) (by kernel_rfl) (fun _ h => h.2.right.left.rowAt (f27 0 _ rfl)) ?_
      refine AnyG.pure (i := 3) (.move (.tmp 6)) 19 3 (.int .i64 x13) (by kernel_rfl) (by kernel_rfl) (by kernel_rfl) (Fc.here (Cells.app trivial (Cells.app (Cells.row (p7.mem 1 rfl).cell) (Cells.app (Cells.row (p7.mem 2 rfl).cell) trivial)))) ?_
      refine AnyG.ixA_n (i := 4) (K := (kInt .u64)) 25 (.tmp 5) (.tmp 19) 20 0 23 4 .i64 x13 2 (gi x5 x13) rfl p7 rfl (fx5.ext z7) (Els.len1 (fx5.ext z7) lx5 rfl) (by kernel_rfl) (by kernel_rfl) (Fc.here (Cells.app trivial (Cells.app (Cells.row (p7.mem 1 rfl).cell) (Cells.app (Cells.row (p7.mem 2 rfl).cell) trivial)))) (by kernel_rfl) (by kernel_rfl) (by kernel_rfl) (by kernel_rfl) g24 h23 ?_
      intro _ q29 f30 f28
      obtain rfl := q29
      refine AnyG.ld1 (i := 5) 23 (.tmp 20) 21 23 ⟨gx5, (x13 : Int).toNat * (kInt .u64).size, none⟩ (.int .u64 (gi x5 x13)) (by kernel_rfl) (by kernel_rfl) (Fc.here (Cells.app trivial (Cells.app (Cells.row (p7.mem 1 rfl).cell) (Cells.app (Cells.row (p7.mem 2 rfl).cell) trivial)))) (by kernel_rfl) (by kernel_rfl) (fun _ h => h.2.right.right.left.rowAt (f30 0 _ rfl)) ?_
      refine AnyG.pure (i := 6) (.binOp .or 23 (.tmp 18) (.tmp 21) 23) 22 23 (.int .u64 (ior .u64 (gi x3 x13) (gi x5 x13))) (by kernel_rfl) (by kernel_rfl) (by kernel_rfl) (Fc.here (Cells.app trivial (Cells.app (Cells.row (p7.mem 1 rfl).cell) (Cells.app (Cells.row (p7.mem 2 rfl).cell) trivial)))) ?_
      refine AnyG.ixA_n (i := 7) (K := (kInt .u64)) 25 (.tmp 3) (.tmp 16) 23 0 23 4 .i64 x13 1 (gi x3 x13) rfl p7 rfl (fx3.ext z7) (Els.len1 (fx3.ext z7) lx3 rfl) (by kernel_rfl) (by kernel_rfl) (Fc.here (Cells.app trivial (Cells.app (Cells.row (p7.mem 1 rfl).cell) (Cells.app (Cells.row (p7.mem 2 rfl).cell) trivial)))) (by kernel_rfl) (by kernel_rfl) (by kernel_rfl) (by kernel_rfl) g24 h23 ?_
      intro _ q32 f33 f31
      obtain rfl := q32
      refine let_some h fun v34 e35 h => ?_
      refine Op_.stE_n (K := (kInt .u64)) 23 (.tmp 23) (.tmp 22) 0 1 x13 (.int .u64 (ior .u64 (gi x3 x13) (gi x5 x13))) [.int .u64 (ior .u64 (gi x3 x13) (gi x5 x13))] (ior .u64 (gi x3 x13) (gi x5 x13)) v34 4 (Els.len1 (fx3.ext z7) lx3 rfl) e35 p7 rfl (fx3.ext z7) (AnyG.ss (i := 8) (by kernel_rfl) (by kernel_rfl)) (by kernel_rfl) (by kernel_rfl) (by kernel_rfl) rfl (by kernel_rfl) g24 h23 (Nat.zero_le _) ?_
      intro w8 cs36 z8 p8 f37 l38
      have l39 : cs36.length = 4 := by rw [f37.length, l38]; rfl
      refine AnyG.last [] (Fc S1 w8 []) (by decide) ?_
      refine AnyG.done (by kernel_rfl) ?_ _
      refine Goes.runs 6 [(24, .int .i64 (wr .i64 (x13 + 1))), (13, .int .i64 (wr .i64 (x13 + 1)))] [.code (sub [1, 1, 0, 1, 0, 0, 1, 1, 0, 0, 1, 1, 0, 0] B92), .inLoop (sub [1, 1, 0, 1, 0, 0, 1, 1, 0, 0, 1, 1, 0, 0] B92), .inBlock 2, .inBlock 1, .code (sub [1, 1, 0, 1, 0, 0, 1, 1, 1] B92), .inLoop (sub [1, 1, 0, 1, 0, 0] B92), .inBlock 0, .code (sub [1, 1, 1] B92)] (by kernel_rfl) ?_
      exact Goes.jump 27 [(2, .pointer (some ⟨gx2, 0, none⟩)), (3, .pointer (some ⟨gx3, 0, none⟩)), (5, .pointer (some ⟨gx5, 0, none⟩)), (7, .slice Ax7 x7.length cx7), (8, .int .i64 x8), (9, .int .i64 x9), (13, .int .i64 (wr .i64 (x13 + 1)))] (by kernel_rfl) (ih_syntax_join_l1 _ _ h _ _ ((hx.trans z7).trans z8) gx2 gx3 cs36 gx5 csx5 Ax7 x7.length cx7 p8 lx2v_0 f37 l39 (fx5.ext (z7.trans z8)) lx5 (fx7.ext (z7.trans z8)) rfl)
    · rw [decide_eq_false h23]
      refine Goes.runs 8 [(25, .int .i64 (wr .i64 (x9 + 1))), (9, .int .i64 (wr .i64 (x9 + 1)))] [.code (sub [1, 1, 0, 1, 0, 0] B92), .inLoop (sub [1, 1, 0, 1, 0, 0] B92), .inBlock 0, .code (sub [1, 1, 1] B92)] (by kernel_rfl) ?_
      have p1 := (p1.front 2 _ rfl).drop
      exact Goes.jump 27 [(2, .pointer (some ⟨gx2, 0, none⟩)), (3, .pointer (some ⟨gx3, 0, none⟩)), (7, .slice Ax7 x7.length cx7), (8, .int .i64 x8), (9, .int .i64 (wr .i64 (x9 + 1)))] (by kernel_rfl) (ih_syntax_join_l0 _ _ h _ _ hx gx2 gx3 csx3 Ax7 x7.length cx7 p1 lx2v_0 fx3 lx3 fx7 rfl)

theorem W.syntax_join_l0 (nz : Nat) (wz : World) (S0 : Fz) (w0 : World) (Lr : List Ent) : ∀ a r, M.syntax_join_l0 a = some r → (L.syntax_join_l0 nz wz S0 w0 Lr) a r := (W.syntax_join_l0_all nz wz S0 w0 Lr).1

theorem W.syntax_join_l1 (nz : Nat) (wz : World) (S0 : Fz) (w0 : World) (Lr : List Ent) : ∀ a r, M.syntax_join_l1 a = some r → (L.syntax_join_l1 nz wz S0 w0 Lr) a r := (W.syntax_join_l0_all nz wz S0 w0 Lr).2

/-! tidepole/syntax.join -/
theorem W.syntax_join (x0 : List (List Int)) (r : List Int) (h : M.syntax_join x0 = some r) (nz : Nat) (wz : World) (S0 : Fz) (w0 : World) (Lr : List Ent) (Ax0 : Option Addr) (nx0 : Nat) (cx0 : Nat) (p0 : Hp nz wz S0 w0 (Lr)) (fx0 : Rd (kArr 4 (kInt .u64)) S0 w0 Ax0 cx0 x0) (lx0 : x0.length = nx0) :
    Calls Try.prog 92 #[.slice Ax0 nx0 cx0] w0 (Rets (Post.syntax_join nz wz S0 w0 Lr r)) := by
  subst lx0
  refine calls_of_goes (fn := Try.f92) (c := B92) (by kernel_rfl) (by kernel_rfl) 26 (by kernel_rfl) ?_
  refine Goes.jump 27 [(0, .slice Ax0 x0.length cx0)] (by kernel_rfl) (fun junk => ?_)
  delta M.syntax_join at h
  refine Goes.runs 2 [] [.inRegion (opsOf (sub [0] B92)) [0], .code (sub [1] B92)] (by kernel_rfl) ?_
  refine Op_.alloc 25 2 0 (.agg #[.int .u64 0, .int .u64 0, .int .u64 0, .int .u64 0]) [.int .u64 0, .int .u64 0, .int .u64 0, .int .u64 0] p0 (Goes.vs (by kernel_rfl)) (by kernel_rfl) (by kernel_rfl) ?_
  intro b1 w2 z2 p2
  refine Goes.runs 3 [] [.inRegion (opsOf (sub [1, 0] B92)) [0], .code (sub [1, 1] B92)] (by kernel_rfl) ?_
  refine Op_.alloc 25 3 0 (.agg #[.int .u64 0, .int .u64 0, .int .u64 0, .int .u64 0]) [.int .u64 0, .int .u64 0, .int .u64 0, .int .u64 0] p2 (Goes.vs (by kernel_rfl)) (by kernel_rfl) (by kernel_rfl) ?_
  intro b3 w3 z3 p3
  refine Goes.runs 10 [(7, .slice Ax0 x0.length cx0), (8, .int .i64 (x0.length : Int)), (9, .int .i64 0)] [.code (sub [1, 1, 0, 1, 0, 0] B92), .inLoop (sub [1, 1, 0, 1, 0, 0] B92), .inBlock 0, .code (sub [1, 1, 1] B92)] (by kernel_rfl) ?_
  have f7 : Els (kInt .u64) S0 w3 ([.int .u64 0, .int .u64 0, .int .u64 0, .int .u64 0] : List Value) [0, 0, 0, 0] := (Els.cons (K := (kInt .u64)) (vs := [.int .u64 0]) (x := 0) rfl (Els.cons (K := (kInt .u64)) (vs := [.int .u64 0]) (x := 0) rfl (Els.cons (K := (kInt .u64)) (vs := [.int .u64 0]) (x := 0) rfl (Els.cons (K := (kInt .u64)) (vs := [.int .u64 0]) (x := 0) rfl Els.nil))))
  have p3 := p3.front 0 _ rfl
  have p3 := p3.front 1 _ rfl
  exact Goes.jump 27 [(2, .pointer (some ⟨b1, 0, none⟩)), (3, .pointer (some ⟨b3, 0, none⟩)), (7, .slice Ax0 x0.length cx0), (8, .int .i64 (x0.length : Int)), (9, .int .i64 0)] (by kernel_rfl) (W.syntax_join_l0 nz wz S0 w0 Lr _ _ h _ _ (((Ext.refl S0 w0).trans z2).trans z3) b1 b3 ([.int .u64 0, .int .u64 0, .int .u64 0, .int .u64 0] : List Value) Ax0 x0.length cx0 p3 rfl f7 rfl (fx0.ext (z2.trans z3)) rfl)

/-! tidepole/syntax.class -/
def Post.syntax_class (nz : Nat) (wz : World) (S0 : Fz) (w0 : World) (Lr : List Ent) (r : (List Int) × Bool) (v : Value) (w' : World) : Prop :=
  ∃ (S' : Fz) (vsq_0 : List Value), v = .tuple #[.agg vsq_0.toArray, .bool r.2] ∧ Ext S0 w0 S' w' ∧ Hp nz wz S' w' (Lr) ∧ Els (kInt .u64) S' w' vsq_0 r.1 ∧ vsq_0.length = 4

theorem W.syntax_class (x0 : Int) (r : (List Int) × Bool) (h : M.syntax_class x0 = some r) (nz : Nat) (wz : World) (S0 : Fz) (w0 : World) (Lr : List Ent) (p0 : Hp nz wz S0 w0 (Lr)) :
    Calls Try.prog 93 #[.int .u8 x0] w0 (Rets (Post.syntax_class nz wz S0 w0 Lr r)) := by
  refine calls_of_goes (fn := Try.f93) (c := B93) (by kernel_rfl) (by kernel_rfl) 34 (by kernel_rfl) ?_
  refine Goes.jump 35 [(0, .int .u8 x0)] (by kernel_rfl) (fun junk => ?_)
  delta M.syntax_class at h
  refine Goes.runs 2 [] [.inRegion (opsOf (sub [0] B93)) [0, 1], .code (sub [1] B93)] (by kernel_rfl) ?_
  refine Op_.alloc 25 2 0 (.agg #[.int .u64 0, .int .u64 0, .int .u64 0, .int .u64 0]) [.int .u64 0, .int .u64 0, .int .u64 0, .int .u64 0] p0 (Goes.vs (by kernel_rfl)) (by kernel_rfl) (by kernel_rfl) ?_
  intro b1 w2 z2 p2
  refine Goes.runs 4 [(3, .bool false)] [.inRegion (opsOf (sub [1, 0] B93)) [0], .code (sub [1, 1] B93)] (by kernel_rfl) ?_
  refine Op_.alloc 25 4 0 (.agg #[.int .u64 0, .int .u64 0, .int .u64 0, .int .u64 0]) [.int .u64 0, .int .u64 0, .int .u64 0, .int .u64 0] p2 (Goes.vs (by kernel_rfl)) (by kernel_rfl) (by kernel_rfl) ?_
  intro b3 w3 z3 p3
  refine Goes.runs 14 [(5, .int .u8 x0), (6, .int .u8 (ior .u8 x0 32))] [.code (sub [1, 1, 0, 1, 0, 0, 0, 0, 0, 0, 0] B93), .inBlock 2, .code (sub [1, 1, 0, 1, 0, 0, 0, 0, 0, 1] B93), .inBlock 3, .code (sub [1, 1, 0, 1, 0, 0, 0, 1] B93), .inBlock 4, .code (sub [1, 1, 0, 1, 0, 1] B93), .inBlock 0, .code (sub [1, 1, 1] B93)] (by kernel_rfl) ?_
  refine Goes.runs 9 [(8, .bool (decide (ior .u8 x0 32 = 119))), (7, .bool (decide (ior .u8 x0 32 = 119)))] [.code (sub [1, 1, 0, 1, 0, 0, 0, 0, 0, 0, 0, 0, 0, 0, 0, 1] B93), .code (sub [1, 1, 0, 1, 0, 0, 0, 0, 0, 0, 0, 0, 0, 0, 1] B93), .code (sub [1, 1, 0, 1, 0, 0, 0, 0, 0, 0, 0, 0, 0, 1] B93), .inBlock 1, .code (sub [1, 1, 0, 1, 0, 0, 0, 0, 0, 0, 0, 1] B93), .inBlock 2, .code (sub [1, 1, 0, 1, 0, 0, 0, 0, 0, 1] B93), .inBlock 3, .code (sub [1, 1, 0, 1, 0, 0, 0, 1] B93), .inBlock 4, .code (sub [1, 1, 0, 1, 0, 1] B93), .inBlock 0, .code (sub [1, 1, 1] B93)] (by kernel_rfl) ?_
  refine ite_some h (fun h5 h => ?_) (fun h5 h => ?_)
  · rw [decide_eq_true h5]
    refine Goes.runs 2 [] [.code (sub [1, 1, 0, 1, 0, 0, 0, 0, 0, 0, 0, 1] B93), .inBlock 2, .code (sub [1, 1, 0, 1, 0, 0, 0, 0, 0, 1] B93), .inBlock 3, .code (sub [1, 1, 0, 1, 0, 0, 0, 1] B93), .inBlock 4, .code (sub [1, 1, 0, 1, 0, 1] B93), .inBlock 0, .code (sub [1, 1, 1] B93)] (by kernel_rfl) ?_
    have z4 : Ext S0 w3 S0 (w3).drew := Ext.draw
    have p4 := p3.draw
    refine Goes.drawn (s := [4, 5, 6]) (F := Fc S0 (w3).drew [(⟨b3, 0, none⟩, .int .u64 0), (⟨b3, 1, none⟩, .int .u64 0), (⟨b3, 2, none⟩, .int .u64 0), (⟨b3, 3, none⟩, .int .u64 0)]) 6 7 (by kernel_rfl) (by kernel_rfl) (by kernel_rfl) (by kernel_rfl) ?_
    generalize (w3).drew = w4 at z4 p4 ⊢
    refine AnyG.ldN (i := 0) 25 (.tmp 4) 13 25 ⟨b3, 0, none⟩ [.int .u64 0, .int .u64 0, .int .u64 0, .int .u64 0] (by kernel_rfl) (by kernel_rfl) (Fc.here ⟨((p4.mem 0 rfl).cell 0 _ rfl), ((p4.mem 0 rfl).cell 1 _ rfl), ((p4.mem 0 rfl).cell 2 _ rfl), ((p4.mem 0 rfl).cell 3 _ rfl), trivial⟩) (by kernel_rfl) (by kernel_rfl) (by kernel_rfl) (fun _ h j v hj => by match j, hj with | 0, rfl => exact h.2.at_ 0 rfl | 1, rfl => exact h.2.at_ 1 rfl | 2, rfl => exact h.2.at_ 2 rfl | 3, rfl => exact h.2.at_ 3 rfl | (j + 4), hj => simp at hj) ?_
    refine bind_some' h fun y6 e7 h => ?_
    refine Op_.call (.call { callee := .value (.func 99), args := #[(.const (.int .u8 97)), (.const (.int .u8 122))], argTypes := #[5, 5] }) 14 25 99 #[.int .u8 97, .int .u8 122] (AnyG.cs (i := 1) (by kernel_rfl) (by kernel_rfl)) (by kernel_rfl) (W.syntax_span 97 122 y6 e7 nz wz S0 w4 ((some b3, .row 25 [.int .u64 0, .int .u64 0, .int .u64 0, .int .u64 0] 4 0) :: (some b1, .row 25 [.int .u64 0, .int .u64 0, .int .u64 0, .int .u64 0] 4 0) :: Lr)  p4 ) ?_
    rintro _ w5 ⟨S5, vsr_5, rfl, z5, p5, fr_5, lr_5⟩
    refine AnyG.next z5 ⟨((p5.mem 0 rfl).cell 0 _ rfl), ((p5.mem 0 rfl).cell 1 _ rfl), ((p5.mem 0 rfl).cell 2 _ rfl), ((p5.mem 0 rfl).cell 3 _ rfl), trivial⟩ ?_
    refine bind_some' h fun y8 e9 h => ?_
    refine Op_.call (.call { callee := .value (.func 99), args := #[(.const (.int .u8 65)), (.const (.int .u8 90))], argTypes := #[5, 5] }) 15 25 99 #[.int .u8 65, .int .u8 90] (AnyG.cs (i := 2) (by kernel_rfl) (by kernel_rfl)) (by kernel_rfl) (W.syntax_span 65 90 y8 e9 nz wz S5 w5 ((some b3, .row 25 [.int .u64 0, .int .u64 0, .int .u64 0, .int .u64 0] 4 0) :: (some b1, .row 25 [.int .u64 0, .int .u64 0, .int .u64 0, .int .u64 0] 4 0) :: Lr)  p5 ) ?_
    rintro _ w6 ⟨S6, vsr_6, rfl, z6, p6, fr_6, lr_6⟩
    refine AnyG.next z6 ⟨((p6.mem 0 rfl).cell 0 _ rfl), ((p6.mem 0 rfl).cell 1 _ rfl), ((p6.mem 0 rfl).cell 2 _ rfl), ((p6.mem 0 rfl).cell 3 _ rfl), trivial⟩ ?_
    refine bind_some' h fun y10 e11 h => ?_
    refine Op_.call (.call { callee := .value (.func 82), args := #[(.const (.int .u8 95))], argTypes := #[5] }) 16 25 82 #[.int .u8 95] (AnyG.cs (i := 3) (by kernel_rfl) (by kernel_rfl)) (by kernel_rfl) (W.syntax_one 95 y10 e11 nz wz S6 w6 ((some b3, .row 25 [.int .u64 0, .int .u64 0, .int .u64 0, .int .u64 0] 4 0) :: (some b1, .row 25 [.int .u64 0, .int .u64 0, .int .u64 0, .int .u64 0] 4 0) :: Lr)  p6 ) ?_
    rintro _ w7 ⟨S7, vsr_7, rfl, z7, p7, fr_7, lr_7⟩
    refine AnyG.next z7 ⟨((p7.mem 0 rfl).cell 0 _ rfl), ((p7.mem 0 rfl).cell 1 _ rfl), ((p7.mem 0 rfl).cell 2 _ rfl), ((p7.mem 0 rfl).cell 3 _ rfl), trivial⟩ ?_
    have l12 := Els.len1 (fr_5.ext (z6.trans z7)) lr_5 rfl
    obtain rfl := els_lit4 (fr_5.ext (z6.trans z7)) lr_5
    have l13 := Els.len1 (fr_6.ext z7) lr_6 rfl
    obtain rfl := els_lit4 (fr_6.ext z7) lr_6
    have l14 := Els.len1 fr_7 lr_7 rfl
    obtain rfl := els_lit4 fr_7 lr_7
    have f16 : Els (kArr 4 (kInt .u64)) S7 w7 ([.int .u64 0, .int .u64 0, .int .u64 0, .int .u64 0, .int .u64 (gi y6 0), .int .u64 (gi y6 1), .int .u64 (gi y6 2), .int .u64 (gi y6 3), .int .u64 (gi y8 0), .int .u64 (gi y8 1), .int .u64 (gi y8 2), .int .u64 (gi y8 3), .int .u64 (gi y10 0), .int .u64 (gi y10 1), .int .u64 (gi y10 2), .int .u64 (gi y10 3)] : List Value) [[0, 0, 0, 0], y6, y8, y10] := by exact (Els.cons (K := (kArr 4 (kInt .u64))) (vs := [.int .u64 0, .int .u64 0, .int .u64 0, .int .u64 0]) (x := [0, 0, 0, 0]) ⟨rfl, (Els.cons (K := (kInt .u64)) (vs := [.int .u64 0]) (x := 0) rfl (Els.cons (K := (kInt .u64)) (vs := [.int .u64 0]) (x := 0) rfl (Els.cons (K := (kInt .u64)) (vs := [.int .u64 0]) (x := 0) rfl (Els.cons (K := (kInt .u64)) (vs := [.int .u64 0]) (x := 0) rfl Els.nil))))⟩ (Els.cons (K := (kArr 4 (kInt .u64))) (vs := [.int .u64 (gi y6 0), .int .u64 (gi y6 1), .int .u64 (gi y6 2), .int .u64 (gi y6 3)]) (x := y6) ⟨l12, els_mk4 l12⟩ (Els.cons (K := (kArr 4 (kInt .u64))) (vs := [.int .u64 (gi y8 0), .int .u64 (gi y8 1), .int .u64 (gi y8 2), .int .u64 (gi y8 3)]) (x := y8) ⟨l13, els_mk4 l13⟩ (Els.cons (K := (kArr 4 (kInt .u64))) (vs := [.int .u64 (gi y10 0), .int .u64 (gi y10 1), .int .u64 (gi y10 2), .int .u64 (gi y10 3)]) (x := y10) ⟨l14, els_mk4 l14⟩ Els.nil))))
    refine Op_.made (.buildSlice 149 4 #[(0, (.tmp 13)), (1, (.tmp 14)), (2, (.tmp 15)), (3, (.tmp 16))]) 17 149 (fun b => .slice (Gp (some b)) 4 4) 25 ([.int .u64 0, .int .u64 0, .int .u64 0, .int .u64 0, .int .u64 (gi y6 0), .int .u64 (gi y6 1), .int .u64 (gi y6 2), .int .u64 (gi y6 3), .int .u64 (gi y8 0), .int .u64 (gi y8 1), .int .u64 (gi y8 2), .int .u64 (gi y8 3), .int .u64 (gi y10 0), .int .u64 (gi y10 1), .int .u64 (gi y10 2), .int .u64 (gi y10 3)] : List Value) p7 (AnyG.vs (i := 4) (by kernel_rfl) (by kernel_rfl)) (by kernel_rfl) ?_
    intro b15 w8 z8 p8
    have p8 : Hp nz wz S7 w8 (((some b15), .row 25 ([.int .u64 0, .int .u64 0, .int .u64 0, .int .u64 0, .int .u64 (gi y6 0), .int .u64 (gi y6 1), .int .u64 (gi y6 2), .int .u64 (gi y6 3), .int .u64 (gi y8 0), .int .u64 (gi y8 1), .int .u64 (gi y8 2), .int .u64 (gi y8 3), .int .u64 (gi y10 0), .int .u64 (gi y10 1), .int .u64 (gi y10 2), .int .u64 (gi y10 3)] : List Value) (4 * (kArr 4 (kInt .u64)).size) 0) :: (some b3, .row 25 [.int .u64 0, .int .u64 0, .int .u64 0, .int .u64 0] 4 0) :: (some b1, .row 25 [.int .u64 0, .int .u64 0, .int .u64 0, .int .u64 0] 4 0) :: Lr) := p8
    refine AnyG.last [5, 6] (Fc S7 w8 []) (by decide) ?_
    obtain ⟨S9, z9, p9, f18⟩ := p8.freezeRd 0 rfl (f16.ext z8) (by decide)
    refine AnyG.refz z9 ?_
    refine bind_some' h fun y19 e20 h => ?_
    refine Op_.call (.call { callee := .value (.func 92), args := #[(.tmp 17)], argTypes := #[149] }) 18 25 92 #[.slice (Gp (some b15)) 4 4] (AnyG.cs (i := 5) (by kernel_rfl) (by kernel_rfl)) (by kernel_rfl) (W.syntax_join [[0, 0, 0, 0], y6, y8, y10] y19 e20 nz wz S9 w8 (((some b15), .row 25 ([.int .u64 0, .int .u64 0, .int .u64 0, .int .u64 0, .int .u64 (gi y6 0), .int .u64 (gi y6 1), .int .u64 (gi y6 2), .int .u64 (gi y6 3), .int .u64 (gi y8 0), .int .u64 (gi y8 1), .int .u64 (gi y8 2), .int .u64 (gi y8 3), .int .u64 (gi y10 0), .int .u64 (gi y10 1), .int .u64 (gi y10 2), .int .u64 (gi y10 3)] : List Value) (4 * (kArr 4 (kInt .u64)).size) (([.int .u64 0, .int .u64 0, .int .u64 0, .int .u64 0, .int .u64 (gi y6 0), .int .u64 (gi y6 1), .int .u64 (gi y6 2), .int .u64 (gi y6 3), .int .u64 (gi y8 0), .int .u64 (gi y8 1), .int .u64 (gi y8 2), .int .u64 (gi y8 3), .int .u64 (gi y10 0), .int .u64 (gi y10 1), .int .u64 (gi y10 2), .int .u64 (gi y10 3)] : List Value).length)) :: (some b3, .row 25 [.int .u64 0, .int .u64 0, .int .u64 0, .int .u64 0] 4 0) :: (some b1, .row 25 [.int .u64 0, .int .u64 0, .int .u64 0, .int .u64 0] 4 0) :: Lr) (Gp (some b15)) 4 4 p9 f18 rfl) ?_
    rintro _ w10 ⟨S10, vsr_10, rfl, z10, p10, fr_10, lr_10⟩
    refine AnyG.last [6] (Fc S10 w10 []) (by decide) ?_
    have f21 : Els (kInt .u64) S10 w10 ([.int .u64 0, .int .u64 0, .int .u64 0, .int .u64 0] : List Value) [0, 0, 0, 0] := (Els.cons (K := (kInt .u64)) (vs := [.int .u64 0]) (x := 0) rfl (Els.cons (K := (kInt .u64)) (vs := [.int .u64 0]) (x := 0) rfl (Els.cons (K := (kInt .u64)) (vs := [.int .u64 0]) (x := 0) rfl (Els.cons (K := (kInt .u64)) (vs := [.int .u64 0]) (x := 0) rfl Els.nil))))
    refine Op_.stA 25 (.tmp 4) (.tmp 18) 0 1 b3 4 vsr_10 p10 rfl rfl (AnyG.ss (i := 6) (by kernel_rfl) (by kernel_rfl)) (by kernel_rfl) (by kernel_rfl) (by kernel_rfl) lr_10 (Els.one fr_10) ?_
    intro w11 z11 p11
    refine AnyG.last [] (Fc S10 w11 []) (by decide) ?_
    refine AnyG.done (by kernel_rfl) ?_ _
    have p11 := (p11.front 0 _ rfl).drop
    refine Goes.runs 2 [] [.code (sub [1, 1, 0, 1, 0, 0, 0, 0, 0, 1, 0] B93), .code (sub [1, 1, 0, 1, 0, 0, 0, 0, 0, 1, 1] B93), .inBlock 3, .code (sub [1, 1, 0, 1, 0, 0, 0, 1] B93), .inBlock 4, .code (sub [1, 1, 0, 1, 0, 1] B93), .inBlock 0, .code (sub [1, 1, 1] B93)] (by kernel_rfl) ?_
    have z12 : Ext S10 w11 S10 (w11).drew := Ext.draw
    have p12 := p11.draw
    refine Goes.drawn (s := [2, 3, 4]) (F := Fc S10 (w11).drew ([] ++ (rowCells b3 vsr_10 ++ []))) 7 5 (by kernel_rfl) (by kernel_rfl) (by kernel_rfl) (by kernel_rfl) ?_
    generalize (w11).drew = w12 at z12 p12 ⊢
    refine AnyG.ldN (i := 0) 25 (.tmp 4) 19 25 ⟨b3, 0, none⟩ vsr_10 (by kernel_rfl) (by kernel_rfl) (Fc.here (Cells.app trivial (Cells.app (Cells.row (p12.mem 0 rfl).cell) trivial))) (by kernel_rfl) (by kernel_rfl) (by rw [lr_10]; kernel_rfl) (fun _ h => h.2.right.left.rowsAt (fun q v hq => by rw [Nat.zero_add]; exact hq)) ?_
    refine bind_some' h fun y22 e23 h => ?_
    refine Op_.call (.call { callee := .value (.func 99), args := #[(.const (.int .u8 48)), (.const (.int .u8 57))], argTypes := #[5, 5] }) 20 25 99 #[.int .u8 48, .int .u8 57] (AnyG.cs (i := 1) (by kernel_rfl) (by kernel_rfl)) (by kernel_rfl) (W.syntax_span 48 57 y22 e23 nz wz S10 w12 ((some b3, .row 25 vsr_10 4 0) :: (some b1, .row 25 [.int .u64 0, .int .u64 0, .int .u64 0, .int .u64 0] 4 0) :: Lr)  p12 ) ?_
    rintro _ w13 ⟨S13, vsr_13, rfl, z13, p13, fr_13, lr_13⟩
    refine AnyG.next z13 (Cells.app trivial (Cells.app (Cells.row (p13.mem 0 rfl).cell) trivial)) ?_
    have l24 := Els.len1 (fr_10.ext ((z11.trans z12).trans z13)) lr_10 rfl
    obtain rfl := els_lit4 (fr_10.ext ((z11.trans z12).trans z13)) lr_10
    have l25 := Els.len1 fr_13 lr_13 rfl
    obtain rfl := els_lit4 fr_13 lr_13
    have f27 : Els (kArr 4 (kInt .u64)) S13 w13 ([.int .u64 (gi y19 0), .int .u64 (gi y19 1), .int .u64 (gi y19 2), .int .u64 (gi y19 3), .int .u64 (gi y22 0), .int .u64 (gi y22 1), .int .u64 (gi y22 2), .int .u64 (gi y22 3)] : List Value) [y19, y22] := by exact (Els.cons (K := (kArr 4 (kInt .u64))) (vs := [.int .u64 (gi y19 0), .int .u64 (gi y19 1), .int .u64 (gi y19 2), .int .u64 (gi y19 3)]) (x := y19) ⟨l24, els_mk4 l24⟩ (Els.cons (K := (kArr 4 (kInt .u64))) (vs := [.int .u64 (gi y22 0), .int .u64 (gi y22 1), .int .u64 (gi y22 2), .int .u64 (gi y22 3)]) (x := y22) ⟨l25, els_mk4 l25⟩ Els.nil))
    refine Op_.made (.buildSlice 149 2 #[(0, (.tmp 19)), (1, (.tmp 20))]) 21 149 (fun b => .slice (Gp (some b)) 2 2) 25 ([.int .u64 (gi y19 0), .int .u64 (gi y19 1), .int .u64 (gi y19 2), .int .u64 (gi y19 3), .int .u64 (gi y22 0), .int .u64 (gi y22 1), .int .u64 (gi y22 2), .int .u64 (gi y22 3)] : List Value) p13 (AnyG.vs (i := 2) (by kernel_rfl) (by kernel_rfl)) (by kernel_rfl) ?_
    intro b26 w14 z14 p14
    have p14 : Hp nz wz S13 w14 (((some b26), .row 25 ([.int .u64 (gi y19 0), .int .u64 (gi y19 1), .int .u64 (gi y19 2), .int .u64 (gi y19 3), .int .u64 (gi y22 0), .int .u64 (gi y22 1), .int .u64 (gi y22 2), .int .u64 (gi y22 3)] : List Value) (2 * (kArr 4 (kInt .u64)).size) 0) :: (some b3, .row 25 ([.int .u64 (gi y19 0), .int .u64 (gi y19 1), .int .u64 (gi y19 2), .int .u64 (gi y19 3)] : List Value) 4 0) :: (some b1, .row 25 [.int .u64 0, .int .u64 0, .int .u64 0, .int .u64 0] 4 0) :: Lr) := p14
    refine AnyG.last [3, 4] (Fc S13 w14 []) (by decide) ?_
    obtain ⟨S15, z15, p15, f29⟩ := p14.freezeRd 0 rfl (f27.ext z14) (by decide)
    refine AnyG.refz z15 ?_
    refine bind_some' h fun y30 e31 h => ?_
    refine Op_.call (.call { callee := .value (.func 92), args := #[(.tmp 21)], argTypes := #[149] }) 22 25 92 #[.slice (Gp (some b26)) 2 2] (AnyG.cs (i := 3) (by kernel_rfl) (by kernel_rfl)) (by kernel_rfl) (W.syntax_join [y19, y22] y30 e31 nz wz S15 w14 (((some b26), .row 25 ([.int .u64 (gi y19 0), .int .u64 (gi y19 1), .int .u64 (gi y19 2), .int .u64 (gi y19 3), .int .u64 (gi y22 0), .int .u64 (gi y22 1), .int .u64 (gi y22 2), .int .u64 (gi y22 3)] : List Value) (2 * (kArr 4 (kInt .u64)).size) (([.int .u64 (gi y19 0), .int .u64 (gi y19 1), .int .u64 (gi y19 2), .int .u64 (gi y19 3), .int .u64 (gi y22 0), .int .u64 (gi y22 1), .int .u64 (gi y22 2), .int .u64 (gi y22 3)] : List Value).length)) :: (some b3, .row 25 ([.int .u64 (gi y19 0), .int .u64 (gi y19 1), .int .u64 (gi y19 2), .int .u64 (gi y19 3)] : List Value) 4 0) :: (some b1, .row 25 [.int .u64 0, .int .u64 0, .int .u64 0, .int .u64 0] 4 0) :: Lr) (Gp (some b26)) 2 2 p15 f29 rfl) ?_
    rintro _ w16 ⟨S16, vsr_16, rfl, z16, p16, fr_16, lr_16⟩
    refine AnyG.last [4] (Fc S16 w16 []) (by decide) ?_
    refine Op_.stA 25 (.tmp 4) (.tmp 22) 0 1 b3 4 vsr_16 p16 rfl lr_10 (AnyG.ss (i := 4) (by kernel_rfl) (by kernel_rfl)) (by kernel_rfl) (by kernel_rfl) (by kernel_rfl) lr_16 (Els.one fr_16) ?_
    intro w17 z17 p17
    refine AnyG.last [] (Fc S16 w17 []) (by decide) ?_
    refine AnyG.done (by kernel_rfl) ?_ _
    have p17 := (p17.front 0 _ rfl).drop
    refine Goes.runs 8 [(29, .int .u8 x0), (30, .int .u8 (iand .u8 x0 32)), (31, .bool (decide (iand .u8 x0 32 = 0)))] [.code (sub [1, 1, 1, 0, 1] B93), .code (sub [1, 1, 1, 1] B93)] (by kernel_rfl) ?_
    refine ite_some h (fun h32 h => ?_) (fun h32 h => ?_)
    · rw [decide_eq_true h32]
      refine Goes.runs 2 [] [.inRegion (opsOf (sub [1, 1, 1, 0, 1, 0] B93)) [0, 1, 2], .code (sub [1, 1, 1, 1] B93)] (by kernel_rfl) ?_
      refine Op_.ldN 25 (.tmp 4) 32 25 ⟨b3, 0, none⟩ vsr_16 (Goes.vs (by kernel_rfl)) (by kernel_rfl) (by kernel_rfl) (by rw [lr_16]; kernel_rfl) (At_all (p17.mem 0 rfl)) ?_
      refine bind_some' h fun y33 e34 h => ?_
      refine Op_.call (.call { callee := .value (.func 81), args := #[(.tmp 32)], argTypes := #[25] }) 33 25 81 #[.agg vsr_16.toArray] (Goes.cs (by kernel_rfl)) (by kernel_rfl) (W.syntax_not y30 y33 e34 nz wz S16 w17 ((some b3, .row 25 vsr_16 4 0) :: (some b1, .row 25 [.int .u64 0, .int .u64 0, .int .u64 0, .int .u64 0] 4 0) :: Lr) vsr_16 p17 (fr_16.ext z17) lr_16) ?_
      rintro _ w18 ⟨S18, vsr_18, rfl, z18, p18, fr_18, lr_18⟩
      refine Op_.stA 25 (.tmp 4) (.tmp 33) 0 0 b3 4 vsr_18 p18 rfl lr_16 (Goes.ss (by kernel_rfl)) (by kernel_rfl) (by kernel_rfl) (by kernel_rfl) lr_18 (Els.one fr_18) ?_
      intro w19 z19 p19
      refine Goes.runs 3 [] [.inRegion (opsOf (sub [1, 1, 1, 1, 0] B93)) [0, 1, 2], .code (sub [1, 1, 1, 1, 1] B93)] (by kernel_rfl) ?_
      refine Op_.ldN 25 (.tmp 4) 34 25 ⟨b3, 0, none⟩ vsr_18 (Goes.vs (by kernel_rfl)) (by kernel_rfl) (by kernel_rfl) (by rw [lr_18]; kernel_rfl) (At_all (p19.mem 0 rfl)) ?_
      have f35 : Els (kInt .u64) S18 w19 ([.int .u64 0, .int .u64 0, .int .u64 0, .int .u64 0] : List Value) [0, 0, 0, 0] := (Els.cons (K := (kInt .u64)) (vs := [.int .u64 0]) (x := 0) rfl (Els.cons (K := (kInt .u64)) (vs := [.int .u64 0]) (x := 0) rfl (Els.cons (K := (kInt .u64)) (vs := [.int .u64 0]) (x := 0) rfl (Els.cons (K := (kInt .u64)) (vs := [.int .u64 0]) (x := 0) rfl Els.nil))))
      refine Op_.stA 25 (.tmp 2) (.tmp 34) 0 1 b1 4 vsr_18 p19 rfl rfl (Goes.ss (by kernel_rfl)) (by kernel_rfl) (by kernel_rfl) (by kernel_rfl) lr_18 (Els.one (fr_18.ext z19)) ?_
      intro w20 z20 p20
      refine Goes.runs 2 [(3, .bool true)] [.code (sub [1, 1, 1, 1, 1] B93)] (by kernel_rfl) ?_
      obtain rfl := Option.some.inj h
      have p20 := (p20.front 0 _ rfl).drop
      exact Goes.ret (fn := Try.f93) (by kernel_rfl) (v := .tuple #[.agg vsr_18.toArray, .bool true]) (results_n2 (fn := Try.f93) (a := .cell 2 25) (b := .tmp 3) (by kernel_rfl) (resV_cell ⟨b1, 0, none⟩ (by kernel_rfl) (run_loadN vsr_18 (by kernel_rfl) (by rw [lr_18]; kernel_rfl) (At_all (p20.mem 0 rfl)))) (resV_tmp (by kernel_rfl))) ⟨S18, vsr_18, rfl, ((((((((((((((((((((Ext.refl S0 w0).trans z2).trans z3).trans z4).trans z5).trans z6).trans z7).trans z8).trans z9).trans z10).trans z11).trans z12).trans z13).trans z14).trans z15).trans z16).trans z17).trans z18).trans z19).trans z20), p20.drop, (fr_18.ext (z19.trans z20)), lr_18⟩
    · rw [decide_eq_false h32]
      refine Goes.runs 4 [] [.inRegion (opsOf (sub [1, 1, 1, 1, 0] B93)) [0, 1, 2], .code (sub [1, 1, 1, 1, 1] B93)] (by kernel_rfl) ?_
      refine Op_.ldN 25 (.tmp 4) 34 25 ⟨b3, 0, none⟩ vsr_16 (Goes.vs (by kernel_rfl)) (by kernel_rfl) (by kernel_rfl) (by rw [lr_16]; kernel_rfl) (At_all (p17.mem 0 rfl)) ?_
      have f36 : Els (kInt .u64) S16 w17 ([.int .u64 0, .int .u64 0, .int .u64 0, .int .u64 0] : List Value) [0, 0, 0, 0] := (Els.cons (K := (kInt .u64)) (vs := [.int .u64 0]) (x := 0) rfl (Els.cons (K := (kInt .u64)) (vs := [.int .u64 0]) (x := 0) rfl (Els.cons (K := (kInt .u64)) (vs := [.int .u64 0]) (x := 0) rfl (Els.cons (K := (kInt .u64)) (vs := [.int .u64 0]) (x := 0) rfl Els.nil))))
      refine Op_.stA 25 (.tmp 2) (.tmp 34) 0 1 b1 4 vsr_16 p17 rfl rfl (Goes.ss (by kernel_rfl)) (by kernel_rfl) (by kernel_rfl) (by kernel_rfl) lr_16 (Els.one (fr_16.ext z17)) ?_
      intro w21 z21 p21
      refine Goes.runs 2 [(3, .bool true)] [.code (sub [1, 1, 1, 1, 1] B93)] (by kernel_rfl) ?_
      obtain rfl := Option.some.inj h
      have p21 := (p21.front 0 _ rfl).drop
      exact Goes.ret (fn := Try.f93) (by kernel_rfl) (v := .tuple #[.agg vsr_16.toArray, .bool true]) (results_n2 (fn := Try.f93) (a := .cell 2 25) (b := .tmp 3) (by kernel_rfl) (resV_cell ⟨b1, 0, none⟩ (by kernel_rfl) (run_loadN vsr_16 (by kernel_rfl) (by rw [lr_16]; kernel_rfl) (At_all (p21.mem 0 rfl)))) (resV_tmp (by kernel_rfl))) ⟨S16, vsr_16, rfl, ((((((((((((((((((Ext.refl S0 w0).trans z2).trans z3).trans z4).trans z5).trans z6).trans z7).trans z8).trans z9).trans z10).trans z11).trans z12).trans z13).trans z14).trans z15).trans z16).trans z17).trans z21), p21.drop, (fr_16.ext (z17.trans z21)), lr_16⟩
  · rw [decide_eq_false h5]
    refine Goes.runs 8 [(10, .bool (decide (ior .u8 x0 32 = 100))), (9, .bool (decide (ior .u8 x0 32 = 100)))] [.code (sub [1, 1, 0, 1, 0, 0, 0, 0, 0, 0, 0, 0, 0, 0, 1, 0, 1] B93), .code (sub [1, 1, 0, 1, 0, 0, 0, 0, 0, 0, 0, 0, 0, 0, 1, 1] B93), .code (sub [1, 1, 0, 1, 0, 0, 0, 0, 0, 0, 0, 0, 0, 1] B93), .inBlock 1, .code (sub [1, 1, 0, 1, 0, 0, 0, 0, 0, 0, 0, 1] B93), .inBlock 2, .code (sub [1, 1, 0, 1, 0, 0, 0, 0, 0, 1] B93), .inBlock 3, .code (sub [1, 1, 0, 1, 0, 0, 0, 1] B93), .inBlock 4, .code (sub [1, 1, 0, 1, 0, 1] B93), .inBlock 0, .code (sub [1, 1, 1] B93)] (by kernel_rfl) ?_
    refine ite_some h (fun h37 h => ?_) (fun h37 h => ?_)
    · rw [decide_eq_true h37]
      refine Goes.runs 3 [] [.code (sub [1, 1, 0, 1, 0, 0, 0, 0, 0, 1, 0] B93), .code (sub [1, 1, 0, 1, 0, 0, 0, 0, 0, 1, 1] B93), .inBlock 3, .code (sub [1, 1, 0, 1, 0, 0, 0, 1] B93), .inBlock 4, .code (sub [1, 1, 0, 1, 0, 1] B93), .inBlock 0, .code (sub [1, 1, 1] B93)] (by kernel_rfl) ?_
      have z22 : Ext S0 w3 S0 (w3).drew := Ext.draw
      have p22 := p3.draw
      refine Goes.drawn (s := [2, 3, 4]) (F := Fc S0 (w3).drew [(⟨b3, 0, none⟩, .int .u64 0), (⟨b3, 1, none⟩, .int .u64 0), (⟨b3, 2, none⟩, .int .u64 0), (⟨b3, 3, none⟩, .int .u64 0)]) 7 5 (by kernel_rfl) (by kernel_rfl) (by kernel_rfl) (by kernel_rfl) ?_
      generalize (w3).drew = w22 at z22 p22 ⊢
      refine AnyG.ldN (i := 0) 25 (.tmp 4) 19 25 ⟨b3, 0, none⟩ [.int .u64 0, .int .u64 0, .int .u64 0, .int .u64 0] (by kernel_rfl) (by kernel_rfl) (Fc.here ⟨((p22.mem 0 rfl).cell 0 _ rfl), ((p22.mem 0 rfl).cell 1 _ rfl), ((p22.mem 0 rfl).cell 2 _ rfl), ((p22.mem 0 rfl).cell 3 _ rfl), trivial⟩) (by kernel_rfl) (by kernel_rfl) (by kernel_rfl) (fun _ h j v hj => by match j, hj with | 0, rfl => exact h.2.at_ 0 rfl | 1, rfl => exact h.2.at_ 1 rfl | 2, rfl => exact h.2.at_ 2 rfl | 3, rfl => exact h.2.at_ 3 rfl | (j + 4), hj => simp at hj) ?_
      refine bind_some' h fun y38 e39 h => ?_
      refine Op_.call (.call { callee := .value (.func 99), args := #[(.const (.int .u8 48)), (.const (.int .u8 57))], argTypes := #[5, 5] }) 20 25 99 #[.int .u8 48, .int .u8 57] (AnyG.cs (i := 1) (by kernel_rfl) (by kernel_rfl)) (by kernel_rfl) (W.syntax_span 48 57 y38 e39 nz wz S0 w22 ((some b3, .row 25 [.int .u64 0, .int .u64 0, .int .u64 0, .int .u64 0] 4 0) :: (some b1, .row 25 [.int .u64 0, .int .u64 0, .int .u64 0, .int .u64 0] 4 0) :: Lr)  p22 ) ?_
      rintro _ w23 ⟨S23, vsr_23, rfl, z23, p23, fr_23, lr_23⟩
      refine AnyG.next z23 ⟨((p23.mem 0 rfl).cell 0 _ rfl), ((p23.mem 0 rfl).cell 1 _ rfl), ((p23.mem 0 rfl).cell 2 _ rfl), ((p23.mem 0 rfl).cell 3 _ rfl), trivial⟩ ?_
      have l40 := Els.len1 fr_23 lr_23 rfl
      obtain rfl := els_lit4 fr_23 lr_23
      have f42 : Els (kArr 4 (kInt .u64)) S23 w23 ([.int .u64 0, .int .u64 0, .int .u64 0, .int .u64 0, .int .u64 (gi y38 0), .int .u64 (gi y38 1), .int .u64 (gi y38 2), .int .u64 (gi y38 3)] : List Value) [[0, 0, 0, 0], y38] := by exact (Els.cons (K := (kArr 4 (kInt .u64))) (vs := [.int .u64 0, .int .u64 0, .int .u64 0, .int .u64 0]) (x := [0, 0, 0, 0]) ⟨rfl, (Els.cons (K := (kInt .u64)) (vs := [.int .u64 0]) (x := 0) rfl (Els.cons (K := (kInt .u64)) (vs := [.int .u64 0]) (x := 0) rfl (Els.cons (K := (kInt .u64)) (vs := [.int .u64 0]) (x := 0) rfl (Els.cons (K := (kInt .u64)) (vs := [.int .u64 0]) (x := 0) rfl Els.nil))))⟩ (Els.cons (K := (kArr 4 (kInt .u64))) (vs := [.int .u64 (gi y38 0), .int .u64 (gi y38 1), .int .u64 (gi y38 2), .int .u64 (gi y38 3)]) (x := y38) ⟨l40, els_mk4 l40⟩ Els.nil))
      refine Op_.made (.buildSlice 149 2 #[(0, (.tmp 19)), (1, (.tmp 20))]) 21 149 (fun b => .slice (Gp (some b)) 2 2) 25 ([.int .u64 0, .int .u64 0, .int .u64 0, .int .u64 0, .int .u64 (gi y38 0), .int .u64 (gi y38 1), .int .u64 (gi y38 2), .int .u64 (gi y38 3)] : List Value) p23 (AnyG.vs (i := 2) (by kernel_rfl) (by kernel_rfl)) (by kernel_rfl) ?_
      intro b41 w24 z24 p24
      have p24 : Hp nz wz S23 w24 (((some b41), .row 25 ([.int .u64 0, .int .u64 0, .int .u64 0, .int .u64 0, .int .u64 (gi y38 0), .int .u64 (gi y38 1), .int .u64 (gi y38 2), .int .u64 (gi y38 3)] : List Value) (2 * (kArr 4 (kInt .u64)).size) 0) :: (some b3, .row 25 [.int .u64 0, .int .u64 0, .int .u64 0, .int .u64 0] 4 0) :: (some b1, .row 25 [.int .u64 0, .int .u64 0, .int .u64 0, .int .u64 0] 4 0) :: Lr) := p24
      refine AnyG.last [3, 4] (Fc S23 w24 []) (by decide) ?_
      obtain ⟨S25, z25, p25, f44⟩ := p24.freezeRd 0 rfl (f42.ext z24) (by decide)
      refine AnyG.refz z25 ?_
      refine bind_some' h fun y45 e46 h => ?_
      refine Op_.call (.call { callee := .value (.func 92), args := #[(.tmp 21)], argTypes := #[149] }) 22 25 92 #[.slice (Gp (some b41)) 2 2] (AnyG.cs (i := 3) (by kernel_rfl) (by kernel_rfl)) (by kernel_rfl) (W.syntax_join [[0, 0, 0, 0], y38] y45 e46 nz wz S25 w24 (((some b41), .row 25 ([.int .u64 0, .int .u64 0, .int .u64 0, .int .u64 0, .int .u64 (gi y38 0), .int .u64 (gi y38 1), .int .u64 (gi y38 2), .int .u64 (gi y38 3)] : List Value) (2 * (kArr 4 (kInt .u64)).size) (([.int .u64 0, .int .u64 0, .int .u64 0, .int .u64 0, .int .u64 (gi y38 0), .int .u64 (gi y38 1), .int .u64 (gi y38 2), .int .u64 (gi y38 3)] : List Value).length)) :: (some b3, .row 25 [.int .u64 0, .int .u64 0, .int .u64 0, .int .u64 0] 4 0) :: (some b1, .row 25 [.int .u64 0, .int .u64 0, .int .u64 0, .int .u64 0] 4 0) :: Lr) (Gp (some b41)) 2 2 p25 f44 rfl) ?_
      rintro _ w26 ⟨S26, vsr_26, rfl, z26, p26, fr_26, lr_26⟩
      refine AnyG.last [4] (Fc S26 w26 []) (by decide) ?_
      have f47 : Els (kInt .u64) S26 w26 ([.int .u64 0, .int .u64 0, .int .u64 0, .int .u64 0] : List Value) [0, 0, 0, 0] := (Els.cons (K := (kInt .u64)) (vs := [.int .u64 0]) (x := 0) rfl (Els.cons (K := (kInt .u64)) (vs := [.int .u64 0]) (x := 0) rfl (Els.cons (K := (kInt .u64)) (vs := [.int .u64 0]) (x := 0) rfl (Els.cons (K := (kInt .u64)) (vs := [.int .u64 0]) (x := 0) rfl Els.nil))))
      refine Op_.stA 25 (.tmp 4) (.tmp 22) 0 1 b3 4 vsr_26 p26 rfl rfl (AnyG.ss (i := 4) (by kernel_rfl) (by kernel_rfl)) (by kernel_rfl) (by kernel_rfl) (by kernel_rfl) lr_26 (Els.one fr_26) ?_
      intro w27 z27 p27
      refine AnyG.last [] (Fc S26 w27 []) (by decide) ?_
      refine AnyG.done (by kernel_rfl) ?_ _
      have p27 := (p27.front 0 _ rfl).drop
      refine Goes.runs 8 [(29, .int .u8 x0), (30, .int .u8 (iand .u8 x0 32)), (31, .bool (decide (iand .u8 x0 32 = 0)))] [.code (sub [1, 1, 1, 0, 1] B93), .code (sub [1, 1, 1, 1] B93)] (by kernel_rfl) ?_
      refine ite_some h (fun h48 h => ?_) (fun h48 h => ?_)
      · rw [decide_eq_true h48]
        refine Goes.runs 2 [] [.inRegion (opsOf (sub [1, 1, 1, 0, 1, 0] B93)) [0, 1, 2], .code (sub [1, 1, 1, 1] B93)] (by kernel_rfl) ?_
        refine Op_.ldN 25 (.tmp 4) 32 25 ⟨b3, 0, none⟩ vsr_26 (Goes.vs (by kernel_rfl)) (by kernel_rfl) (by kernel_rfl) (by rw [lr_26]; kernel_rfl) (At_all (p27.mem 0 rfl)) ?_
        refine bind_some' h fun y49 e50 h => ?_
        refine Op_.call (.call { callee := .value (.func 81), args := #[(.tmp 32)], argTypes := #[25] }) 33 25 81 #[.agg vsr_26.toArray] (Goes.cs (by kernel_rfl)) (by kernel_rfl) (W.syntax_not y45 y49 e50 nz wz S26 w27 ((some b3, .row 25 vsr_26 4 0) :: (some b1, .row 25 [.int .u64 0, .int .u64 0, .int .u64 0, .int .u64 0] 4 0) :: Lr) vsr_26 p27 (fr_26.ext z27) lr_26) ?_
        rintro _ w28 ⟨S28, vsr_28, rfl, z28, p28, fr_28, lr_28⟩
        refine Op_.stA 25 (.tmp 4) (.tmp 33) 0 0 b3 4 vsr_28 p28 rfl lr_26 (Goes.ss (by kernel_rfl)) (by kernel_rfl) (by kernel_rfl) (by kernel_rfl) lr_28 (Els.one fr_28) ?_
        intro w29 z29 p29
        refine Goes.runs 3 [] [.inRegion (opsOf (sub [1, 1, 1, 1, 0] B93)) [0, 1, 2], .code (sub [1, 1, 1, 1, 1] B93)] (by kernel_rfl) ?_
        refine Op_.ldN 25 (.tmp 4) 34 25 ⟨b3, 0, none⟩ vsr_28 (Goes.vs (by kernel_rfl)) (by kernel_rfl) (by kernel_rfl) (by rw [lr_28]; kernel_rfl) (At_all (p29.mem 0 rfl)) ?_
        have f51 : Els (kInt .u64) S28 w29 ([.int .u64 0, .int .u64 0, .int .u64 0, .int .u64 0] : List Value) [0, 0, 0, 0] := (Els.cons (K := (kInt .u64)) (vs := [.int .u64 0]) (x := 0) rfl (Els.cons (K := (kInt .u64)) (vs := [.int .u64 0]) (x := 0) rfl (Els.cons (K := (kInt .u64)) (vs := [.int .u64 0]) (x := 0) rfl (Els.cons (K := (kInt .u64)) (vs := [.int .u64 0]) (x := 0) rfl Els.nil))))
        refine Op_.stA 25 (.tmp 2) (.tmp 34) 0 1 b1 4 vsr_28 p29 rfl rfl (Goes.ss (by kernel_rfl)) (by kernel_rfl) (by kernel_rfl) (by kernel_rfl) lr_28 (Els.one (fr_28.ext z29)) ?_
        intro w30 z30 p30
        refine Goes.runs 2 [(3, .bool true)] [.code (sub [1, 1, 1, 1, 1] B93)] (by kernel_rfl) ?_
        obtain rfl := Option.some.inj h
        have p30 := (p30.front 0 _ rfl).drop
        exact Goes.ret (fn := Try.f93) (by kernel_rfl) (v := .tuple #[.agg vsr_28.toArray, .bool true]) (results_n2 (fn := Try.f93) (a := .cell 2 25) (b := .tmp 3) (by kernel_rfl) (resV_cell ⟨b1, 0, none⟩ (by kernel_rfl) (run_loadN vsr_28 (by kernel_rfl) (by rw [lr_28]; kernel_rfl) (At_all (p30.mem 0 rfl)))) (resV_tmp (by kernel_rfl))) ⟨S28, vsr_28, rfl, ((((((((((((Ext.refl S0 w0).trans z2).trans z3).trans z22).trans z23).trans z24).trans z25).trans z26).trans z27).trans z28).trans z29).trans z30), p30.drop, (fr_28.ext (z29.trans z30)), lr_28⟩
      · rw [decide_eq_false h48]
        refine Goes.runs 4 [] [.inRegion (opsOf (sub [1, 1, 1, 1, 0] B93)) [0, 1, 2], .code (sub [1, 1, 1, 1, 1] B93)] (by kernel_rfl) ?_
        refine Op_.ldN 25 (.tmp 4) 34 25 ⟨b3, 0, none⟩ vsr_26 (Goes.vs (by kernel_rfl)) (by kernel_rfl) (by kernel_rfl) (by rw [lr_26]; kernel_rfl) (At_all (p27.mem 0 rfl)) ?_
        have f52 : Els (kInt .u64) S26 w27 ([.int .u64 0, .int .u64 0, .int .u64 0, .int .u64 0] : List Value) [0, 0, 0, 0] := (Els.cons (K := (kInt .u64)) (vs := [.int .u64 0]) (x := 0) rfl (Els.cons (K := (kInt .u64)) (vs := [.int .u64 0]) (x := 0) rfl (Els.cons (K := (kInt .u64)) (vs := [.int .u64 0]) (x := 0) rfl (Els.cons (K := (kInt .u64)) (vs := [.int .u64 0]) (x := 0) rfl Els.nil))))
        refine Op_.stA 25 (.tmp 2) (.tmp 34) 0 1 b1 4 vsr_26 p27 rfl rfl (Goes.ss (by kernel_rfl)) (by kernel_rfl) (by kernel_rfl) (by kernel_rfl) lr_26 (Els.one (fr_26.ext z27)) ?_
        intro w31 z31 p31
        refine Goes.runs 2 [(3, .bool true)] [.code (sub [1, 1, 1, 1, 1] B93)] (by kernel_rfl) ?_
        obtain rfl := Option.some.inj h
        have p31 := (p31.front 0 _ rfl).drop
        exact Goes.ret (fn := Try.f93) (by kernel_rfl) (v := .tuple #[.agg vsr_26.toArray, .bool true]) (results_n2 (fn := Try.f93) (a := .cell 2 25) (b := .tmp 3) (by kernel_rfl) (resV_cell ⟨b1, 0, none⟩ (by kernel_rfl) (run_loadN vsr_26 (by kernel_rfl) (by rw [lr_26]; kernel_rfl) (At_all (p31.mem 0 rfl)))) (resV_tmp (by kernel_rfl))) ⟨S26, vsr_26, rfl, ((((((((((Ext.refl S0 w0).trans z2).trans z3).trans z22).trans z23).trans z24).trans z25).trans z26).trans z27).trans z31), p31.drop, (fr_26.ext (z27.trans z31)), lr_26⟩
    · rw [decide_eq_false h37]
      refine Goes.runs 7 [(12, .bool (decide (ior .u8 x0 32 = 115))), (11, .bool (decide (ior .u8 x0 32 = 115)))] [.code (sub [1, 1, 0, 1, 0, 0, 0, 0, 0, 0, 0, 0, 0, 0, 1, 1, 1] B93), .code (sub [1, 1, 0, 1, 0, 0, 0, 0, 0, 0, 0, 0, 0, 1] B93), .inBlock 1, .code (sub [1, 1, 0, 1, 0, 0, 0, 0, 0, 0, 0, 1] B93), .inBlock 2, .code (sub [1, 1, 0, 1, 0, 0, 0, 0, 0, 1] B93), .inBlock 3, .code (sub [1, 1, 0, 1, 0, 0, 0, 1] B93), .inBlock 4, .code (sub [1, 1, 0, 1, 0, 1] B93), .inBlock 0, .code (sub [1, 1, 1] B93)] (by kernel_rfl) ?_
      refine ite_some h (fun h53 h => ?_) (fun h53 h => ?_)
      · rw [decide_eq_true h53]
        refine Goes.runs 4 [] [.inRegion (opsOf (sub [1, 1, 0, 1, 0, 0, 0, 1, 0] B93)) [0, 1, 2, 3, 4, 5], .code (sub [1, 1, 0, 1, 0, 0, 0, 1, 1] B93), .inBlock 4, .code (sub [1, 1, 0, 1, 0, 1] B93), .inBlock 0, .code (sub [1, 1, 1] B93)] (by kernel_rfl) ?_
        refine bind_some' h fun y54 e55 h => ?_
        refine Op_.call (.call { callee := .value (.func 99), args := #[(.const (.int .u8 9)), (.const (.int .u8 10))], argTypes := #[5, 5] }) 23 25 99 #[.int .u8 9, .int .u8 10] (Goes.cs (by kernel_rfl)) (by kernel_rfl) (W.syntax_span 9 10 y54 e55 nz wz S0 w3 ((some b3, .row 25 [.int .u64 0, .int .u64 0, .int .u64 0, .int .u64 0] 4 0) :: (some b1, .row 25 [.int .u64 0, .int .u64 0, .int .u64 0, .int .u64 0] 4 0) :: Lr)  p3 ) ?_
        rintro _ w32 ⟨S32, vsr_32, rfl, z32, p32, fr_32, lr_32⟩
        refine bind_some' h fun y56 e57 h => ?_
        refine Op_.call (.call { callee := .value (.func 99), args := #[(.const (.int .u8 12)), (.const (.int .u8 13))], argTypes := #[5, 5] }) 24 25 99 #[.int .u8 12, .int .u8 13] (Goes.cs (by kernel_rfl)) (by kernel_rfl) (W.syntax_span 12 13 y56 e57 nz wz S32 w32 ((some b3, .row 25 [.int .u64 0, .int .u64 0, .int .u64 0, .int .u64 0] 4 0) :: (some b1, .row 25 [.int .u64 0, .int .u64 0, .int .u64 0, .int .u64 0] 4 0) :: Lr)  p32 ) ?_
        rintro _ w33 ⟨S33, vsr_33, rfl, z33, p33, fr_33, lr_33⟩
        refine bind_some' h fun y58 e59 h => ?_
        refine Op_.call (.call { callee := .value (.func 82), args := #[(.const (.int .u8 32))], argTypes := #[5] }) 25 25 82 #[.int .u8 32] (Goes.cs (by kernel_rfl)) (by kernel_rfl) (W.syntax_one 32 y58 e59 nz wz S33 w33 ((some b3, .row 25 [.int .u64 0, .int .u64 0, .int .u64 0, .int .u64 0] 4 0) :: (some b1, .row 25 [.int .u64 0, .int .u64 0, .int .u64 0, .int .u64 0] 4 0) :: Lr)  p33 ) ?_
        rintro _ w34 ⟨S34, vsr_34, rfl, z34, p34, fr_34, lr_34⟩
        have l60 := Els.len1 (fr_32.ext (z33.trans z34)) lr_32 rfl
        obtain rfl := els_lit4 (fr_32.ext (z33.trans z34)) lr_32
        have l61 := Els.len1 (fr_33.ext z34) lr_33 rfl
        obtain rfl := els_lit4 (fr_33.ext z34) lr_33
        have l62 := Els.len1 fr_34 lr_34 rfl
        obtain rfl := els_lit4 fr_34 lr_34
        have f64 : Els (kArr 4 (kInt .u64)) S34 w34 ([.int .u64 (gi y54 0), .int .u64 (gi y54 1), .int .u64 (gi y54 2), .int .u64 (gi y54 3), .int .u64 (gi y56 0), .int .u64 (gi y56 1), .int .u64 (gi y56 2), .int .u64 (gi y56 3), .int .u64 (gi y58 0), .int .u64 (gi y58 1), .int .u64 (gi y58 2), .int .u64 (gi y58 3)] : List Value) [y54, y56, y58] := by exact (Els.cons (K := (kArr 4 (kInt .u64))) (vs := [.int .u64 (gi y54 0), .int .u64 (gi y54 1), .int .u64 (gi y54 2), .int .u64 (gi y54 3)]) (x := y54) ⟨l60, els_mk4 l60⟩ (Els.cons (K := (kArr 4 (kInt .u64))) (vs := [.int .u64 (gi y56 0), .int .u64 (gi y56 1), .int .u64 (gi y56 2), .int .u64 (gi y56 3)]) (x := y56) ⟨l61, els_mk4 l61⟩ (Els.cons (K := (kArr 4 (kInt .u64))) (vs := [.int .u64 (gi y58 0), .int .u64 (gi y58 1), .int .u64 (gi y58 2), .int .u64 (gi y58 3)]) (x := y58) ⟨l62, els_mk4 l62⟩ Els.nil)))
        refine Op_.made (.buildSlice 149 3 #[(0, (.tmp 23)), (1, (.tmp 24)), (2, (.tmp 25))]) 26 149 (fun b => .slice (Gp (some b)) 3 3) 25 ([.int .u64 (gi y54 0), .int .u64 (gi y54 1), .int .u64 (gi y54 2), .int .u64 (gi y54 3), .int .u64 (gi y56 0), .int .u64 (gi y56 1), .int .u64 (gi y56 2), .int .u64 (gi y56 3), .int .u64 (gi y58 0), .int .u64 (gi y58 1), .int .u64 (gi y58 2), .int .u64 (gi y58 3)] : List Value) p34 (Goes.vs (by kernel_rfl)) (by kernel_rfl) ?_
        intro b63 w35 z35 p35
        have p35 : Hp nz wz S34 w35 (((some b63), .row 25 ([.int .u64 (gi y54 0), .int .u64 (gi y54 1), .int .u64 (gi y54 2), .int .u64 (gi y54 3), .int .u64 (gi y56 0), .int .u64 (gi y56 1), .int .u64 (gi y56 2), .int .u64 (gi y56 3), .int .u64 (gi y58 0), .int .u64 (gi y58 1), .int .u64 (gi y58 2), .int .u64 (gi y58 3)] : List Value) (3 * (kArr 4 (kInt .u64)).size) 0) :: (some b3, .row 25 [.int .u64 0, .int .u64 0, .int .u64 0, .int .u64 0] 4 0) :: (some b1, .row 25 [.int .u64 0, .int .u64 0, .int .u64 0, .int .u64 0] 4 0) :: Lr) := p35
        obtain ⟨S36, z36, p36, f66⟩ := p35.freezeRd 0 rfl (f64.ext z35) (by decide)
        refine bind_some' h fun y67 e68 h => ?_
        refine Op_.call (.call { callee := .value (.func 92), args := #[(.tmp 26)], argTypes := #[149] }) 27 25 92 #[.slice (Gp (some b63)) 3 3] (Goes.cs (by kernel_rfl)) (by kernel_rfl) (W.syntax_join [y54, y56, y58] y67 e68 nz wz S36 w35 (((some b63), .row 25 ([.int .u64 (gi y54 0), .int .u64 (gi y54 1), .int .u64 (gi y54 2), .int .u64 (gi y54 3), .int .u64 (gi y56 0), .int .u64 (gi y56 1), .int .u64 (gi y56 2), .int .u64 (gi y56 3), .int .u64 (gi y58 0), .int .u64 (gi y58 1), .int .u64 (gi y58 2), .int .u64 (gi y58 3)] : List Value) (3 * (kArr 4 (kInt .u64)).size) (([.int .u64 (gi y54 0), .int .u64 (gi y54 1), .int .u64 (gi y54 2), .int .u64 (gi y54 3), .int .u64 (gi y56 0), .int .u64 (gi y56 1), .int .u64 (gi y56 2), .int .u64 (gi y56 3), .int .u64 (gi y58 0), .int .u64 (gi y58 1), .int .u64 (gi y58 2), .int .u64 (gi y58 3)] : List Value).length)) :: (some b3, .row 25 [.int .u64 0, .int .u64 0, .int .u64 0, .int .u64 0] 4 0) :: (some b1, .row 25 [.int .u64 0, .int .u64 0, .int .u64 0, .int .u64 0] 4 0) :: Lr) (Gp (some b63)) 3 3 p36 f66 rfl) ?_
        rintro _ w37 ⟨S37, vsr_37, rfl, z37, p37, fr_37, lr_37⟩
        have p37 := (p37.front 0 _ rfl).drop
        have f69 : Els (kInt .u64) S37 w37 ([.int .u64 0, .int .u64 0, .int .u64 0, .int .u64 0] : List Value) [0, 0, 0, 0] := (Els.cons (K := (kInt .u64)) (vs := [.int .u64 0]) (x := 0) rfl (Els.cons (K := (kInt .u64)) (vs := [.int .u64 0]) (x := 0) rfl (Els.cons (K := (kInt .u64)) (vs := [.int .u64 0]) (x := 0) rfl (Els.cons (K := (kInt .u64)) (vs := [.int .u64 0]) (x := 0) rfl Els.nil))))
        refine Op_.stA 25 (.tmp 4) (.tmp 27) 0 0 b3 4 vsr_37 p37 rfl rfl (Goes.ss (by kernel_rfl)) (by kernel_rfl) (by kernel_rfl) (by kernel_rfl) lr_37 (Els.one fr_37) ?_
        intro w38 z38 p38
        refine Goes.runs 9 [(29, .int .u8 x0), (30, .int .u8 (iand .u8 x0 32)), (31, .bool (decide (iand .u8 x0 32 = 0)))] [.code (sub [1, 1, 1, 0, 1] B93), .code (sub [1, 1, 1, 1] B93)] (by kernel_rfl) ?_
        refine ite_some h (fun h70 h => ?_) (fun h70 h => ?_)
        · rw [decide_eq_true h70]
          refine Goes.runs 2 [] [.inRegion (opsOf (sub [1, 1, 1, 0, 1, 0] B93)) [0, 1, 2], .code (sub [1, 1, 1, 1] B93)] (by kernel_rfl) ?_
          refine Op_.ldN 25 (.tmp 4) 32 25 ⟨b3, 0, none⟩ vsr_37 (Goes.vs (by kernel_rfl)) (by kernel_rfl) (by kernel_rfl) (by rw [lr_37]; kernel_rfl) (At_all (p38.mem 0 rfl)) ?_
          refine bind_some' h fun y71 e72 h => ?_
          refine Op_.call (.call { callee := .value (.func 81), args := #[(.tmp 32)], argTypes := #[25] }) 33 25 81 #[.agg vsr_37.toArray] (Goes.cs (by kernel_rfl)) (by kernel_rfl) (W.syntax_not y67 y71 e72 nz wz S37 w38 ((some b3, .row 25 vsr_37 4 0) :: (some b1, .row 25 [.int .u64 0, .int .u64 0, .int .u64 0, .int .u64 0] 4 0) :: Lr) vsr_37 p38 (fr_37.ext z38) lr_37) ?_
          rintro _ w39 ⟨S39, vsr_39, rfl, z39, p39, fr_39, lr_39⟩
          refine Op_.stA 25 (.tmp 4) (.tmp 33) 0 0 b3 4 vsr_39 p39 rfl lr_37 (Goes.ss (by kernel_rfl)) (by kernel_rfl) (by kernel_rfl) (by kernel_rfl) lr_39 (Els.one fr_39) ?_
          intro w40 z40 p40
          refine Goes.runs 3 [] [.inRegion (opsOf (sub [1, 1, 1, 1, 0] B93)) [0, 1, 2], .code (sub [1, 1, 1, 1, 1] B93)] (by kernel_rfl) ?_
          refine Op_.ldN 25 (.tmp 4) 34 25 ⟨b3, 0, none⟩ vsr_39 (Goes.vs (by kernel_rfl)) (by kernel_rfl) (by kernel_rfl) (by rw [lr_39]; kernel_rfl) (At_all (p40.mem 0 rfl)) ?_
          have f73 : Els (kInt .u64) S39 w40 ([.int .u64 0, .int .u64 0, .int .u64 0, .int .u64 0] : List Value) [0, 0, 0, 0] := (Els.cons (K := (kInt .u64)) (vs := [.int .u64 0]) (x := 0) rfl (Els.cons (K := (kInt .u64)) (vs := [.int .u64 0]) (x := 0) rfl (Els.cons (K := (kInt .u64)) (vs := [.int .u64 0]) (x := 0) rfl (Els.cons (K := (kInt .u64)) (vs := [.int .u64 0]) (x := 0) rfl Els.nil))))
          refine Op_.stA 25 (.tmp 2) (.tmp 34) 0 1 b1 4 vsr_39 p40 rfl rfl (Goes.ss (by kernel_rfl)) (by kernel_rfl) (by kernel_rfl) (by kernel_rfl) lr_39 (Els.one (fr_39.ext z40)) ?_
          intro w41 z41 p41
          refine Goes.runs 2 [(3, .bool true)] [.code (sub [1, 1, 1, 1, 1] B93)] (by kernel_rfl) ?_
          obtain rfl := Option.some.inj h
          have p41 := (p41.front 0 _ rfl).drop
          exact Goes.ret (fn := Try.f93) (by kernel_rfl) (v := .tuple #[.agg vsr_39.toArray, .bool true]) (results_n2 (fn := Try.f93) (a := .cell 2 25) (b := .tmp 3) (by kernel_rfl) (resV_cell ⟨b1, 0, none⟩ (by kernel_rfl) (run_loadN vsr_39 (by kernel_rfl) (by rw [lr_39]; kernel_rfl) (At_all (p41.mem 0 rfl)))) (resV_tmp (by kernel_rfl))) ⟨S39, vsr_39, rfl, (((((((((((((Ext.refl S0 w0).trans z2).trans z3).trans z32).trans z33).trans z34).trans z35).trans z36).trans z37).trans z38).trans z39).trans z40).trans z41), p41.drop, (fr_39.ext (z40.trans z41)), lr_39⟩
        · rw [decide_eq_false h70]
          refine Goes.runs 4 [] [.inRegion (opsOf (sub [1, 1, 1, 1, 0] B93)) [0, 1, 2], .code (sub [1, 1, 1, 1, 1] B93)] (by kernel_rfl) ?_
          refine Op_.ldN 25 (.tmp 4) 34 25 ⟨b3, 0, none⟩ vsr_37 (Goes.vs (by kernel_rfl)) (by kernel_rfl) (by kernel_rfl) (by rw [lr_37]; kernel_rfl) (At_all (p38.mem 0 rfl)) ?_
          have f74 : Els (kInt .u64) S37 w38 ([.int .u64 0, .int .u64 0, .int .u64 0, .int .u64 0] : List Value) [0, 0, 0, 0] := (Els.cons (K := (kInt .u64)) (vs := [.int .u64 0]) (x := 0) rfl (Els.cons (K := (kInt .u64)) (vs := [.int .u64 0]) (x := 0) rfl (Els.cons (K := (kInt .u64)) (vs := [.int .u64 0]) (x := 0) rfl (Els.cons (K := (kInt .u64)) (vs := [.int .u64 0]) (x := 0) rfl Els.nil))))
          refine Op_.stA 25 (.tmp 2) (.tmp 34) 0 1 b1 4 vsr_37 p38 rfl rfl (Goes.ss (by kernel_rfl)) (by kernel_rfl) (by kernel_rfl) (by kernel_rfl) lr_37 (Els.one (fr_37.ext z38)) ?_
          intro w42 z42 p42
          refine Goes.runs 2 [(3, .bool true)] [.code (sub [1, 1, 1, 1, 1] B93)] (by kernel_rfl) ?_
          obtain rfl := Option.some.inj h
          have p42 := (p42.front 0 _ rfl).drop
          exact Goes.ret (fn := Try.f93) (by kernel_rfl) (v := .tuple #[.agg vsr_37.toArray, .bool true]) (results_n2 (fn := Try.f93) (a := .cell 2 25) (b := .tmp 3) (by kernel_rfl) (resV_cell ⟨b1, 0, none⟩ (by kernel_rfl) (run_loadN vsr_37 (by kernel_rfl) (by rw [lr_37]; kernel_rfl) (At_all (p42.mem 0 rfl)))) (resV_tmp (by kernel_rfl))) ⟨S37, vsr_37, rfl, (((((((((((Ext.refl S0 w0).trans z2).trans z3).trans z32).trans z33).trans z34).trans z35).trans z36).trans z37).trans z38).trans z42), p42.drop, (fr_37.ext (z38.trans z42)), lr_37⟩
      · rw [decide_eq_false h53]
        refine Goes.runs 6 [] [.inRegion (opsOf (sub [1, 1, 0, 1, 0, 1, 0, 0] B93)) [0, 1, 2], .code (sub [1, 1, 0, 1, 0, 1, 0, 1] B93), .code (sub [1, 1, 0, 1, 0, 1, 1] B93), .inBlock 0, .code (sub [1, 1, 1] B93)] (by kernel_rfl) ?_
        refine Op_.ldN 25 (.tmp 4) 28 25 ⟨b3, 0, none⟩ [.int .u64 0, .int .u64 0, .int .u64 0, .int .u64 0] (Goes.vs (by kernel_rfl)) (by kernel_rfl) (by kernel_rfl) (by kernel_rfl) (At_part (us := []) (vs := [.int .u64 0, .int .u64 0, .int .u64 0, .int .u64 0]) (ws := []) (p3.mem 0 rfl) 0 rfl) ?_
        refine Op_.st 25 (.tmp 2) (.tmp 28) 0 1 b1 0 (.agg #[.int .u64 0, .int .u64 0, .int .u64 0, .int .u64 0]) [.int .u64 0, .int .u64 0, .int .u64 0, .int .u64 0] p3 rfl (Goes.ss (by kernel_rfl)) (by kernel_rfl) (by kernel_rfl) (by kernel_rfl) (by kernel_rfl) (Nat.zero_le _) (by simp only [List.length_cons, List.length_nil]; omega) (by simp [Value.oneCell']) ?_
        intro w43 z43 p43
        refine Goes.runs 2 [(3, .bool false)] [.code (sub [1, 1, 0, 1, 0, 1, 0, 1] B93), .code (sub [1, 1, 0, 1, 0, 1, 1] B93), .inBlock 0, .code (sub [1, 1, 1] B93)] (by kernel_rfl) ?_
        obtain rfl := Option.some.inj h
        have p43 := (p43.front 0 _ rfl).drop
        exact Goes.ret (fn := Try.f93) (by kernel_rfl) (v := .tuple #[.agg #[.int .u64 0, .int .u64 0, .int .u64 0, .int .u64 0], .bool false]) (results_n2 (fn := Try.f93) (a := .cell 2 25) (b := .tmp 3) (by kernel_rfl) (resV_cell ⟨b1, 0, none⟩ (by kernel_rfl) (run_loadN [.int .u64 0, .int .u64 0, .int .u64 0, .int .u64 0] (by kernel_rfl) (by kernel_rfl) (At_part (us := []) (vs := [.int .u64 0, .int .u64 0, .int .u64 0, .int .u64 0]) (ws := []) (p43.mem 0 rfl) 0 rfl))) (resV_tmp (by kernel_rfl))) ⟨S0, ([.int .u64 0, .int .u64 0, .int .u64 0, .int .u64 0] : List Value), rfl, ((((Ext.refl S0 w0).trans z2).trans z3).trans z43), p43.drop, (show Els (kInt .u64) S0 w43 ([.int .u64 0, .int .u64 0, .int .u64 0, .int .u64 0] : List Value) _ from (Els.cons (K := (kInt .u64)) (vs := [.int .u64 0]) (x := 0) rfl (Els.cons (K := (kInt .u64)) (vs := [.int .u64 0]) (x := 0) rfl (Els.cons (K := (kInt .u64)) (vs := [.int .u64 0]) (x := 0) rfl (Els.cons (K := (kInt .u64)) (vs := [.int .u64 0]) (x := 0) rfl Els.nil))))), rfl⟩

/-! tidepole/syntax.lower -/
def Post.syntax_lower (nz : Nat) (wz : World) (S0 : Fz) (w0 : World) (Lr : List Ent) (r : Int) (v : Value) (w' : World) : Prop :=
  ∃ (S' : Fz), v = .int .u8 r ∧ Ext S0 w0 S' w' ∧ Hp nz wz S' w' (Lr)

theorem W.syntax_lower (x0 : Int) (r : Int) (h : M.syntax_lower x0 = some r) (nz : Nat) (wz : World) (S0 : Fz) (w0 : World) (Lr : List Ent) (p0 : Hp nz wz S0 w0 (Lr)) :
    Calls Try.prog 102 #[.int .u8 x0] w0 (Rets (Post.syntax_lower nz wz S0 w0 Lr r)) := by
  refine calls_of_goes (fn := Try.f102) (c := B102) (by kernel_rfl) (by kernel_rfl) 12 (by kernel_rfl) ?_
  refine Goes.jump 13 [(0, .int .u8 x0)] (by kernel_rfl) (fun junk => ?_)
  delta M.syntax_lower at h
  refine Goes.runs 10 [(2, .int .u8 0), (3, .int .u8 x0), (4, .bool (decide (x0 ≥ 65))), (5, .bool (decide (x0 ≥ 65)))] [.inRegion (opsOf (sub [1, 0, 0] B102)) [3, 4, 5], .code (sub [1, 0, 1] B102), .code (sub [1, 1] B102)] (by kernel_rfl) ?_
  refine ite_some h (fun h1 h => ?_) (fun h1 h => ?_)
  · rw [decide_eq_true h1]
    refine Goes.runs 4 [(6, .int .u8 x0), (7, .bool (decide (x0 ≤ 70))), (8, .bool (decide (x0 ≤ 70)))] [.code (sub [1, 0, 1] B102), .code (sub [1, 1] B102)] (by kernel_rfl) ?_
    refine ite_some h (fun h2 h => ?_) (fun h2 h => ?_)
    · rw [decide_eq_true h2]
      refine Goes.runs 8 [(9, .int .u8 x0), (10, .int .u8 (wr .u8 (x0 + 97))), (11, .int .u8 (wr .u8 ((wr .u8 (x0 + 97)) - 65))), (2, .int .u8 (wr .u8 ((wr .u8 (x0 + 97)) - 65)))] [.code (sub [1, 0, 1, 0, 1] B102), .code (sub [1, 1] B102)] (by kernel_rfl) ?_
      obtain rfl := Option.some.inj h
      exact Goes.ret (fn := Try.f102) (by kernel_rfl) (v := .int .u8 (wr .u8 ((wr .u8 (x0 + 97)) - 65))) (by kernel_rfl) ⟨S0, rfl, (Ext.refl S0 w0), p0⟩
    · rw [decide_eq_false h2]
      refine Goes.runs 7 [(12, .int .u8 x0), (2, .int .u8 x0)] [.code (sub [1, 1, 1] B102)] (by kernel_rfl) ?_
      obtain rfl := Option.some.inj h
      exact Goes.ret (fn := Try.f102) (by kernel_rfl) (v := .int .u8 x0) (by kernel_rfl) ⟨S0, rfl, (Ext.refl S0 w0), p0⟩
  · rw [decide_eq_false h1]
    refine Goes.runs 11 [(6, undef), (7, undef), (8, .bool false), (12, .int .u8 x0), (2, .int .u8 x0)] [.code (sub [1, 1, 1] B102)] (by kernel_rfl) ?_
    obtain rfl := Option.some.inj h
    exact Goes.ret (fn := Try.f102) (by kernel_rfl) (v := .int .u8 x0) (by kernel_rfl) ⟨S0, rfl, (Ext.refl S0 w0), p0⟩

/-! internal/stringslite.IndexByte -/
def Post.stringslite_IndexByte (nz : Nat) (wz : World) (S0 : Fz) (w0 : World) (Lr : List Ent) (r : Int) (v : Value) (w' : World) : Prop :=
  ∃ (S' : Fz), v = .int .i64 r ∧ Ext S0 w0 S' w' ∧ Hp nz wz S' w' (Lr)

theorem W.stringslite_IndexByte (x0 : ByteArray) (x1 : Int) (r : Int) (h : M.stringslite_IndexByte x0 x1 = some r) (nz : Nat) (wz : World) (S0 : Fz) (w0 : World) (Lr : List Ent) (p0 : Hp nz wz S0 w0 (Lr)) :
    Calls Try.prog 71 #[.string x0, .int .u8 x1] w0 (Rets (Post.stringslite_IndexByte nz wz S0 w0 Lr r)) := by
  refine calls_of_goes (fn := Try.f71) (c := B71) (by kernel_rfl) (by kernel_rfl) 6 (by kernel_rfl) ?_
  refine Goes.jump 8 [(0, .string x0), (1, .int .u8 x1)] (by kernel_rfl) (fun junk => ?_)
  delta M.stringslite_IndexByte at h
  refine Goes.runs 8 [(4, .int .i64 0), (5, .string x0), (6, .int .u8 x1)] [.inRegion (opsOf (sub [1, 0] B71)) [2, 3], .code (sub [1, 1] B71)] (by kernel_rfl) ?_
  refine Op_.ext { callee := .value (.func 80), args := #[(.tmp 5), (.tmp 6)], argTypes := #[9, 5] } 7 3 80 #[.string x0, .int .u8 x1] Try.f80 Extern.BytealgIndexByte.indexByte (.int .i64 (ixB x0 x1)) (Goes.vs (by kernel_rfl)) (by kernel_rfl) (by kernel_rfl) (by kernel_rfl) (by kernel_rfl) (by kernel_rfl) (by kernel_rfl) (ixB_run _ _) ?_
  refine Goes.runs 2 [(4, .int .i64 (ixB x0 x1))] [.code (sub [1, 1] B71)] (by kernel_rfl) ?_
  obtain rfl := Option.some.inj h
  exact Goes.ret (fn := Try.f71) (by kernel_rfl) (v := .int .i64 (ixB x0 x1)) (by kernel_rfl) ⟨S0, rfl, (Ext.refl S0 w0), p0⟩

/-! strings.IndexByte -/
def Post.strings_IndexByte (nz : Nat) (wz : World) (S0 : Fz) (w0 : World) (Lr : List Ent) (r : Int) (v : Value) (w' : World) : Prop :=
  ∃ (S' : Fz), v = .int .i64 r ∧ Ext S0 w0 S' w' ∧ Hp nz wz S' w' (Lr)

theorem W.strings_IndexByte (x0 : ByteArray) (x1 : Int) (r : Int) (h : M.strings_IndexByte x0 x1 = some r) (nz : Nat) (wz : World) (S0 : Fz) (w0 : World) (Lr : List Ent) (p0 : Hp nz wz S0 w0 (Lr)) :
    Calls Try.prog 52 #[.string x0, .int .u8 x1] w0 (Rets (Post.strings_IndexByte nz wz S0 w0 Lr r)) := by
  refine calls_of_goes (fn := Try.f52) (c := B52) (by kernel_rfl) (by kernel_rfl) 6 (by kernel_rfl) ?_
  refine Goes.jump 8 [(0, .string x0), (1, .int .u8 x1)] (by kernel_rfl) (fun junk => ?_)
  delta M.strings_IndexByte at h
  refine Goes.runs 8 [(4, .int .i64 0), (5, .string x0), (6, .int .u8 x1)] [.inRegion (opsOf (sub [1, 0] B52)) [2, 3], .code (sub [1, 1] B52)] (by kernel_rfl) ?_
  refine bind_some' h fun y1 e2 h => ?_
  refine Op_.call (.call { callee := .value (.func 71), args := #[(.tmp 5), (.tmp 6)], argTypes := #[9, 5] }) 7 3 71 #[.string x0, .int .u8 x1] (Goes.cs (by kernel_rfl)) (by kernel_rfl) (W.stringslite_IndexByte x0 x1 y1 e2 nz wz S0 w0 (Lr)  p0 ) ?_
  rintro _ w2 ⟨S2, rfl, z2, p2⟩
  refine Goes.runs 2 [(4, .int .i64 y1)] [.code (sub [1, 1] B52)] (by kernel_rfl) ?_
  obtain rfl := Option.some.inj h
  exact Goes.ret (fn := Try.f52) (by kernel_rfl) (v := .int .i64 y1) (by kernel_rfl) ⟨S2, rfl, ((Ext.refl S0 w0).trans z2), p2⟩

/-! tidepole/syntax.nibble -/
def Post.syntax_nibble (nz : Nat) (wz : World) (S0 : Fz) (w0 : World) (Lr : List Ent) (r : Int) (v : Value) (w' : World) : Prop :=
  ∃ (S' : Fz), v = .int .i64 r ∧ Ext S0 w0 S' w' ∧ Hp nz wz S' w' (Lr)

theorem W.syntax_nibble (x0 : Int) (r : Int) (h : M.syntax_nibble x0 = some r) (nz : Nat) (wz : World) (S0 : Fz) (w0 : World) (Lr : List Ent) (p0 : Hp nz wz S0 w0 (Lr)) :
    Calls Try.prog 100 #[.int .u8 x0] w0 (Rets (Post.syntax_nibble nz wz S0 w0 Lr r)) := by
  refine calls_of_goes (fn := Try.f100) (c := B100) (by kernel_rfl) (by kernel_rfl) 5 (by kernel_rfl) ?_
  refine Goes.jump 6 [(0, .int .u8 x0)] (by kernel_rfl) (fun junk => ?_)
  delta M.syntax_nibble at h
  refine Goes.runs 7 [(2, .int .i64 0), (3, .int .u8 x0)] [.inRegion (opsOf (sub [1, 0] B100)) [1, 2, 3], .code (sub [1, 1] B100)] (by kernel_rfl) ?_
  refine bind_some' h fun y1 e2 h => ?_
  refine Op_.call (.call { callee := .value (.func 102), args := #[(.tmp 3)], argTypes := #[5] }) 4 5 102 #[.int .u8 x0] (Goes.cs (by kernel_rfl)) (by kernel_rfl) (W.syntax_lower x0 y1 e2 nz wz S0 w0 (Lr)  p0 ) ?_
  rintro _ w2 ⟨S2, rfl, z2, p2⟩
  refine bind_some' h fun y3 e4 h => ?_
  refine Op_.call (.call { callee := .value (.func 52), args := #[(.const (.string ⟨#[48, 49, 50, 51, 52, 53, 54, 55, 56, 57, 97, 98, 99, 100, 101, 102]⟩)), (.tmp 4)], argTypes := #[9, 5] }) 5 3 52 #[.string (⟨#[48, 49, 50, 51, 52, 53, 54, 55, 56, 57, 97, 98, 99, 100, 101, 102]⟩ : ByteArray), .int .u8 y1] (Goes.cs (by kernel_rfl)) (by kernel_rfl) (W.strings_IndexByte (⟨#[48, 49, 50, 51, 52, 53, 54, 55, 56, 57, 97, 98, 99, 100, 101, 102]⟩ : ByteArray) y1 y3 e4 nz wz S2 w2 (Lr)  p2 ) ?_
  rintro _ w3 ⟨S3, rfl, z3, p3⟩
  refine Goes.runs 2 [(2, .int .i64 y3)] [.code (sub [1, 1] B100)] (by kernel_rfl) ?_
  obtain rfl := Option.some.inj h
  exact Goes.ret (fn := Try.f100) (by kernel_rfl) (v := .int .i64 y3) (by kernel_rfl) ⟨S3, rfl, (((Ext.refl S0 w0).trans z2).trans z3), p3⟩

/-! (*tidepole/syntax.parser).digit -/
def Post.syntax_parser_digit (nz : Nat) (wz : World) (S0 : Fz) (w0 : World) (Lr : List Ent) (gx0 : Nat) (r : Int × T48) (v : Value) (w' : World) : Prop :=
  ∃ (S' : Fz) (ve0v_3 : Value), v = .int .u8 r.1 ∧ Ext S0 w0 S' w' ∧ Hp nz wz S' w' ((some gx0, .row 49 [.string r.2.s, .int .i64 r.2.at_, .int .i64 r.2.deep, ve0v_3] 4 0) :: Lr) ∧ PtO kT52 S' w' ve0v_3 r.2.bad

theorem W.syntax_parser_digit (x0v : T48) (r : Int × T48) (h : M.syntax_parser_digit x0v = some r) (nz : Nat) (wz : World) (S0 : Fz) (w0 : World) (Lr : List Ent) (gx0 : Nat) (vx0v_3 : Value) (p0 : Hp nz wz S0 w0 ((some gx0, .row 49 [.string x0v.s, .int .i64 x0v.at_, .int .i64 x0v.deep, vx0v_3] 4 0) :: Lr)) (fx0v_3 : PtO kT52 S0 w0 vx0v_3 x0v.bad) :
    Calls Try.prog 94 #[.pointer (some ⟨gx0, 0, none⟩)] w0 (Rets (Post.syntax_parser_digit nz wz S0 w0 Lr gx0 r)) := by
  refine calls_of_goes (fn := Try.f94) (c := B94) (by kernel_rfl) (by kernel_rfl) 23 (by kernel_rfl) ?_
  refine Goes.jump 24 [(0, .pointer (some ⟨gx0, 0, none⟩))] (by kernel_rfl) (fun junk => ?_)
  delta M.syntax_parser_digit at h
  refine Goes.runs 7 [(2, .int .u8 0), (4, .pointer (some ⟨gx0, 0, none⟩))] [.inRegion (opsOf (sub [1, 0] B94)) [1, 2, 3], .code (sub [1, 1] B94)] (by kernel_rfl) ?_
  refine bind_some' h fun y2 e3 h => ?_
  refine Op_.call (.call { callee := .value (.func 54), args := #[(.tmp 4)], argTypes := #[46] }) 5 5 54 #[.pointer (some ⟨gx0, 0, none⟩)] (Goes.cs (by kernel_rfl)) (by kernel_rfl) (W.syntax_parser_peek x0v y2 e3 nz wz S0 w0 (Lr) gx0 vx0v_3 p0 fx0v_3) ?_
  rintro _ w2 ⟨S2, ve0_2v_3, rfl, z2, p2, fe0_2v_3⟩
  refine bind_some' h fun y4 e5 h => ?_
  refine Op_.call (.call { callee := .value (.func 100), args := #[(.tmp 5)], argTypes := #[5] }) 6 3 100 #[.int .u8 y2.1] (Goes.cs (by kernel_rfl)) (by kernel_rfl) (W.syntax_nibble y2.1 y4 e5 nz wz S2 w2 ((some gx0, .row 49 [.string y2.2.s, .int .i64 y2.2.at_, .int .i64 y2.2.deep, ve0_2v_3] 4 0) :: Lr)  p2 ) ?_
  rintro _ w3 ⟨S3, rfl, z3, p3⟩
  refine Goes.runs 8 [(3, .int .i64 y4), (7, .int .i64 y4), (8, .bool (decide (y4 < 0)))] [.code (sub [1, 1, 0, 1] B94), .code (sub [1, 1, 1] B94)] (by kernel_rfl) ?_
  refine ite_some h (fun h6 h => ?_) (fun h6 h => ?_)
  · rw [decide_eq_true h6]
    refine Goes.runs 7 [(9, .pointer (some ⟨gx0, 0, none⟩)), (10, .pointer (some ⟨gx0, 0, none⟩)), (11, .pointer (some ⟨gx0, 0, none⟩)), (12, .pointer (some ⟨gx0, 1, none⟩))] [.inRegion (opsOf (sub [1, 1, 0, 1, 0, 0] B94)) [4, 5], .code (sub [1, 1, 0, 1, 0, 1] B94), .code (sub [1, 1, 1] B94)] (by kernel_rfl) ?_
    refine Op_.ld1 3 (.tmp 12) 13 3 ⟨gx0, 1, none⟩ (.int .i64 y2.2.at_) (Goes.vs (by kernel_rfl)) (by kernel_rfl) (by kernel_rfl) ((p3.mem 0 rfl).cell 1 _ rfl) ?_
    refine bind_some' h fun y7 e8 h => ?_
    refine Op_.call (.call { callee := .value (.func 19), args := #[(.tmp 9), (.tmp 13)], argTypes := #[46, 3] }) 14 28 19 #[.pointer (some ⟨gx0, 0, none⟩), .int .i64 y2.2.at_] (Goes.cs (by kernel_rfl)) (by kernel_rfl) (W.syntax_parser_fail y2.2 y2.2.at_ y7 e8 nz wz S3 w3 (Lr) gx0 ve0_2v_3 p3 (fe0_2v_3.ext z3)) ?_
    rintro _ w4 ⟨S4, Ar_4_2, nr_4_2, cr_4_2, ve0_4v_3, rfl, z4, p4, lr_4_1, fr_4_2, rfl, fe0_4v_3⟩
    refine Goes.runs 5 [(2, .int .u8 0)] [.code (sub [1, 1, 0, 1, 0, 1, 1] B94), .code (sub [1, 1, 1] B94)] (by kernel_rfl) ?_
    obtain rfl := Option.some.inj h
    exact Goes.ret (fn := Try.f94) (by kernel_rfl) (v := .int .u8 0) (by kernel_rfl) ⟨S4, ve0_4v_3, rfl, ((((Ext.refl S0 w0).trans z2).trans z3).trans z4), p4, fe0_4v_3⟩
  · rw [decide_eq_false h6]
    refine Goes.runs 7 [(15, .pointer (some ⟨gx0, 0, none⟩)), (16, .pointer (some ⟨gx0, 0, none⟩)), (17, .pointer (some ⟨gx0, 1, none⟩))] [.inRegion (opsOf (sub [1, 1, 1, 0] B94)) [3, 4, 5, 6, 7], .code (sub [1, 1, 1, 1] B94)] (by kernel_rfl) ?_
    refine Op_.ld1 3 (.tmp 17) 18 3 ⟨gx0, 1, none⟩ (.int .i64 y2.2.at_) (Goes.vs (by kernel_rfl)) (by kernel_rfl) (by kernel_rfl) ((p3.mem 0 rfl).cell 1 _ rfl) ?_
    refine Goes.runs 3 [(19, .int .i64 (wr .i64 (y2.2.at_ + 1))), (20, .pointer (some ⟨gx0, 0, none⟩)), (21, .pointer (some ⟨gx0, 1, none⟩))] [.inRegion (opsOf (sub [1, 1, 1, 0] B94)) [7], .code (sub [1, 1, 1, 1] B94)] (by kernel_rfl) ?_
    refine Op_.st 3 (.tmp 21) (.tmp 19) 0 0 gx0 1 (.int .i64 (wr .i64 (y2.2.at_ + 1))) [.int .i64 (wr .i64 (y2.2.at_ + 1))] p3 rfl (Goes.ss (by kernel_rfl)) (by kernel_rfl) (by kernel_rfl) (by kernel_rfl) (by kernel_rfl) (Nat.zero_le _) (by simp only [List.length_cons, List.length_nil]; omega) (by simp [Value.oneCell']) ?_
    intro w5 z5 p5
    refine Goes.runs 7 [(22, .int .i64 y4), (23, .int .u8 (wr .u8 y4)), (2, .int .u8 (wr .u8 y4))] [.code (sub [1, 1, 1, 1, 1] B94)] (by kernel_rfl) ?_
    obtain rfl := Option.some.inj h
    exact Goes.ret (fn := Try.f94) (by kernel_rfl) (v := .int .u8 (wr .u8 y4)) (by kernel_rfl) ⟨S3, ve0_2v_3, rfl, ((((Ext.refl S0 w0).trans z2).trans z3).trans z5), p5, (fe0_2v_3.ext (z3.trans z5))⟩

/-! tidepole/syntax.of -/
def Post.syntax_of (nz : Nat) (wz : World) (S0 : Fz) (w0 : World) (Lr : List Ent) (r : T135) (v : Value) (w' : World) : Prop :=
  ∃ (S' : Fz), v = .agg #[.int .u64 (gi r.set_ 0), .int .u64 (gi r.set_ 1), .int .u64 (gi r.set_ 2), .int .u64 (gi r.set_ 3), .int .u8 r.b, .bool r.single] ∧ Ext S0 w0 S' w' ∧ Hp nz wz S' w' (Lr) ∧ r.set_.length = 4

theorem W.syntax_of (x0 : Int) (r : T135) (h : M.syntax_of x0 = some r) (nz : Nat) (wz : World) (S0 : Fz) (w0 : World) (Lr : List Ent) (p0 : Hp nz wz S0 w0 (Lr)) :
    Calls Try.prog 95 #[.int .u8 x0] w0 (Rets (Post.syntax_of nz wz S0 w0 Lr r)) := by
  refine calls_of_goes (fn := Try.f95) (c := B95) (by kernel_rfl) (by kernel_rfl) 6 (by kernel_rfl) ?_
  refine Goes.jump 7 [(0, .int .u8 x0)] (by kernel_rfl) (fun junk => ?_)
  delta M.syntax_of at h
  refine Goes.runs 2 [] [.inRegion (opsOf (sub [0] B95)) [0], .code (sub [1] B95)] (by kernel_rfl) ?_
  refine Op_.alloc 136 2 0 (.agg #[.int .u64 0, .int .u64 0, .int .u64 0, .int .u64 0, .int .u8 0, .bool false]) [.int .u64 0, .int .u64 0, .int .u64 0, .int .u64 0, .int .u8 0, .bool false] p0 (Goes.vs (by kernel_rfl)) (by kernel_rfl) (by kernel_rfl) ?_
  intro b1 w2 z2 p2
  refine Goes.runs 4 [(3, .int .u8 x0)] [.inRegion (opsOf (sub [1, 0] B95)) [1, 2, 3, 4], .code (sub [1, 1] B95)] (by kernel_rfl) ?_
  refine bind_some' h fun y3 e4 h => ?_
  refine Op_.call (.call { callee := .value (.func 82), args := #[(.tmp 3)], argTypes := #[5] }) 4 25 82 #[.int .u8 x0] (Goes.cs (by kernel_rfl)) (by kernel_rfl) (W.syntax_one x0 y3 e4 nz wz S0 w2 ((some b1, .row 136 [.int .u64 0, .int .u64 0, .int .u64 0, .int .u64 0, .int .u8 0, .bool false] 6 0) :: Lr)  p2 ) ?_
  rintro _ w3 ⟨S3, vsr_3, rfl, z3, p3, fr_3, lr_3⟩
  refine Goes.runs 1 [(5, .int .u8 x0)] [.inRegion (opsOf (sub [1, 0] B95)) [3, 4], .code (sub [1, 1] B95)] (by kernel_rfl) ?_
  have l5 := Els.len1 fr_3 lr_3 rfl
  obtain rfl := els_lit4 fr_3 lr_3
  refine Goes.runs 1 [(6, .agg #[.int .u64 (gi y3 0), .int .u64 (gi y3 1), .int .u64 (gi y3 2), .int .u64 (gi y3 3), .int .u8 x0, .bool true])] [.inRegion (opsOf (sub [1, 0] B95)) [4], .code (sub [1, 1] B95)] (by kernel_rfl) ?_
  refine Op_.st 136 (.tmp 2) (.tmp 6) 0 0 b1 0 (.agg #[.int .u64 (gi y3 0), .int .u64 (gi y3 1), .int .u64 (gi y3 2), .int .u64 (gi y3 3), .int .u8 x0, .bool true]) [.int .u64 (gi y3 0), .int .u64 (gi y3 1), .int .u64 (gi y3 2), .int .u64 (gi y3 3), .int .u8 x0, .bool true] p3 rfl (Goes.ss (by kernel_rfl)) (by kernel_rfl) (by kernel_rfl) (by kernel_rfl) (by kernel_rfl) (Nat.zero_le _) (by simp only [List.length_cons, List.length_nil]; omega) (by simp [Value.oneCell']) ?_
  intro w4 z4 p4
  refine Goes.runs 1 [] [.code (sub [1, 1] B95)] (by kernel_rfl) ?_
  obtain rfl := Option.some.inj h
  exact Goes.ret (fn := Try.f95) (by kernel_rfl) (v := .agg #[.int .u64 (gi y3 0), .int .u64 (gi y3 1), .int .u64 (gi y3 2), .int .u64 (gi y3 3), .int .u8 x0, .bool true]) (results_n1 (fn := Try.f95) (a := .cell 2 136) (by kernel_rfl) (resV_cell ⟨b1, 0, none⟩ (by kernel_rfl) (run_loadN [.int .u64 (gi y3 0), .int .u64 (gi y3 1), .int .u64 (gi y3 2), .int .u64 (gi y3 3), .int .u8 x0, .bool true] (by kernel_rfl) (by kernel_rfl) (At_part (us := []) (vs := [.int .u64 (gi y3 0), .int .u64 (gi y3 1), .int .u64 (gi y3 2), .int .u64 (gi y3 3), .int .u8 x0, .bool true]) (ws := []) (p4.mem 0 rfl) 0 rfl)))) ⟨S3, rfl, ((((Ext.refl S0 w0).trans z2).trans z3).trans z4), p4.drop, l5⟩

/-! (*tidepole/syntax.parser).escape -/
def Post.syntax_parser_escape (nz : Nat) (wz : World) (S0 : Fz) (w0 : World) (Lr : List Ent) (gx0 : Nat) (r : T135 × T48) (v : Value) (w' : World) : Prop :=
  ∃ (S' : Fz) (ve0v_3 : Value), v = .agg #[.int .u64 (gi r.1.set_ 0), .int .u64 (gi r.1.set_ 1), .int .u64 (gi r.1.set_ 2), .int .u64 (gi r.1.set_ 3), .int .u8 r.1.b, .bool r.1.single] ∧ Ext S0 w0 S' w' ∧ Hp nz wz S' w' ((some gx0, .row 49 [.string r.2.s, .int .i64 r.2.at_, .int .i64 r.2.deep, ve0v_3] 4 0) :: Lr) ∧ r.1.set_.length = 4 ∧ PtO kT52 S' w' ve0v_3 r.2.bad

def L.syntax_parser_escape_l0 (nz : Nat) (wz : World) (S0 : Fz) (w0 : World) (Lr : List Ent) (gx0 : Nat) : T135 × Int × Bool × T48 → (T135 × T48) → Prop := fun ⟨x2v, x3, x66, e0v⟩ r => ∀ S1 w1, Ext S0 w0 S1 w1 → ∀ (gx2 : Nat) (ve0v_3 : Value) (_ : Hp nz wz S1 w1 ((some gx2, .row 136 [.int .u64 (gi x2v.set_ 0), .int .u64 (gi x2v.set_ 1), .int .u64 (gi x2v.set_ 2), .int .u64 (gi x2v.set_ 3), .int .u8 x2v.b, .bool x2v.single] 6 0) :: (some gx0, .row 49 [.string e0v.s, .int .i64 e0v.at_, .int .i64 e0v.deep, ve0v_3] 4 0) :: Lr)) (_ : x2v.set_.length = 4) (_ : PtO kT52 S1 w1 ve0v_3 e0v.bad) (junk : Nat → Value),
  Goes Try.prog (base 85) [.code (sub [1, 1, 1, 0, 0, 1, 1, 1, 1, 1, 1, 1] B85), .inBlock 0, .code (sub [1, 1, 1, 1] B85)] ⟨lfr 90 [(0, .pointer (some ⟨gx0, 0, none⟩)), (2, .pointer (some ⟨gx2, 0, none⟩)), (3, .int .u8 x3), (66, .bool x66)] junk, []⟩ w1 (Done Try.prog 85 (Rets (Post.syntax_parser_escape nz wz S0 w0 Lr gx0 r)))

theorem W.syntax_parser_escape_l0 (nz : Nat) (wz : World) (S0 : Fz) (w0 : World) (Lr : List Ent) (gx0 : Nat) : ∀ a r, M.syntax_parser_escape_l0 a = some r → L.syntax_parser_escape_l0 nz wz S0 w0 Lr gx0 a r := by
  intro ⟨x2v, x3, x66, e0v⟩ r h S1 w1 hx gx2 ve0v_3 p1 lx2v_0 fe0v_3 junk
  rw [M.syntax_parser_escape_l0] at h
  try dsimp only at h
  refine ite_some h (fun h30 h => ?_) (fun h30 h => ?_)
  · rw [h30]
    refine Goes.runs 7 [(74, .pointer (some ⟨gx0, 0, none⟩)), (75, .pointer (some ⟨gx0, 0, none⟩)), (76, .pointer (some ⟨gx0, 0, none⟩)), (77, .pointer (some ⟨gx0, 1, none⟩))] [.inRegion (opsOf (sub [1, 1, 1, 0, 0, 1, 1, 1, 1, 1, 1, 1, 0, 0] B85)) [4, 5], .code (sub [1, 1, 1, 0, 0, 1, 1, 1, 1, 1, 1, 1, 0, 1] B85), .inBlock 0, .code (sub [1, 1, 1, 1] B85)] (by kernel_rfl) ?_
    refine Op_.ld1 3 (.tmp 77) 78 3 ⟨gx0, 1, none⟩ (.int .i64 e0v.at_) (Goes.vs (by kernel_rfl)) (by kernel_rfl) (by kernel_rfl) ((p1.mem 1 rfl).cell 1 _ rfl) ?_
    have p1 := p1.front 1 _ rfl
    refine bind_some' h fun y31 e32 h => ?_
    refine Op_.call (.call { callee := .value (.func 19), args := #[(.tmp 74), (.tmp 78)], argTypes := #[46, 3] }) 79 28 19 #[.pointer (some ⟨gx0, 0, none⟩), .int .i64 e0v.at_] (Goes.cs (by kernel_rfl)) (by kernel_rfl) (W.syntax_parser_fail e0v e0v.at_ y31 e32 nz wz S1 w1 ((some gx2, .row 136 [.int .u64 (gi x2v.set_ 0), .int .u64 (gi x2v.set_ 1), .int .u64 (gi x2v.set_ 2), .int .u64 (gi x2v.set_ 3), .int .u8 x2v.b, .bool x2v.single] 6 0) :: Lr) gx0 ve0v_3 p1 fe0v_3) ?_
    rintro _ w21 ⟨S21, Ar_21_2, nr_21_2, cr_21_2, ve0_21v_3, rfl, z21, p21, lr_21_1, fr_21_2, rfl, fe0_21v_3⟩
    refine Goes.runs 4 [(80, .agg #[.int .u64 0, .int .u64 0, .int .u64 0, .int .u64 0, .int .u8 0, .bool false])] [.inRegion (opsOf (sub [1, 1, 1, 0, 0, 1, 1, 1, 1, 1, 1, 1, 0, 1, 0] B85)) [1], .code (sub [1, 1, 1, 0, 0, 1, 1, 1, 1, 1, 1, 1, 0, 1, 1] B85), .inBlock 0, .code (sub [1, 1, 1, 1] B85)] (by kernel_rfl) ?_
    refine Op_.st 136 (.tmp 2) (.tmp 80) 0 1 gx2 0 (.agg #[.int .u64 0, .int .u64 0, .int .u64 0, .int .u64 0, .int .u8 0, .bool false]) [.int .u64 0, .int .u64 0, .int .u64 0, .int .u64 0, .int .u8 0, .bool false] p21 rfl (Goes.ss (by kernel_rfl)) (by kernel_rfl) (by kernel_rfl) (by kernel_rfl) (by kernel_rfl) (Nat.zero_le _) (by simp only [List.length_cons, List.length_nil]; omega) (by simp [Value.oneCell']) ?_
    intro w22 z22 p22
    refine Goes.runs 1 [] [.code (sub [1, 1, 1, 0, 0, 1, 1, 1, 1, 1, 1, 1, 0, 1, 1] B85), .inBlock 0, .code (sub [1, 1, 1, 1] B85)] (by kernel_rfl) ?_
    obtain rfl := Option.some.inj h
    have p22 := p22.front 0 _ rfl
    have p22 := p22.front 1 _ rfl
    exact Goes.ret (fn := Try.f85) (by kernel_rfl) (v := .agg #[.int .u64 0, .int .u64 0, .int .u64 0, .int .u64 0, .int .u8 0, .bool false]) (results_n1 (fn := Try.f85) (a := .cell 2 136) (by kernel_rfl) (resV_cell ⟨gx2, 0, none⟩ (by kernel_rfl) (run_loadN [.int .u64 0, .int .u64 0, .int .u64 0, .int .u64 0, .int .u8 0, .bool false] (by kernel_rfl) (by kernel_rfl) (At_part (us := []) (vs := [.int .u64 0, .int .u64 0, .int .u64 0, .int .u64 0, .int .u8 0, .bool false]) (ws := []) (p22.mem 0 rfl) 0 rfl)))) ⟨S21, ve0_21v_3, rfl, ((hx.trans z21).trans z22), p22.drop, rfl, (fe0_21v_3.ext z22)⟩
  · have h30' : x66 = false := by simpa using h30
    rw [h30']
    refine Goes.runs 8 [(81, .pointer (some ⟨gx0, 0, none⟩)), (82, .pointer (some ⟨gx0, 0, none⟩)), (83, .pointer (some ⟨gx0, 1, none⟩))] [.inRegion (opsOf (sub [1, 1, 1, 1, 0] B85)) [3, 4, 5, 6, 7], .code (sub [1, 1, 1, 1, 1] B85)] (by kernel_rfl) ?_
    refine Op_.ld1 3 (.tmp 83) 84 3 ⟨gx0, 1, none⟩ (.int .i64 e0v.at_) (Goes.vs (by kernel_rfl)) (by kernel_rfl) (by kernel_rfl) ((p1.mem 1 rfl).cell 1 _ rfl) ?_
    refine Goes.runs 3 [(85, .int .i64 (wr .i64 (e0v.at_ + 1))), (86, .pointer (some ⟨gx0, 0, none⟩)), (87, .pointer (some ⟨gx0, 1, none⟩))] [.inRegion (opsOf (sub [1, 1, 1, 1, 0] B85)) [7], .code (sub [1, 1, 1, 1, 1] B85)] (by kernel_rfl) ?_
    refine Op_.st 3 (.tmp 87) (.tmp 85) 0 1 gx0 1 (.int .i64 (wr .i64 (e0v.at_ + 1))) [.int .i64 (wr .i64 (e0v.at_ + 1))] p1 rfl (Goes.ss (by kernel_rfl)) (by kernel_rfl) (by kernel_rfl) (by kernel_rfl) (by kernel_rfl) (Nat.zero_le _) (by simp only [List.length_cons, List.length_nil]; omega) (by simp [Value.oneCell']) ?_
    intro w23 z23 p23
    refine Goes.runs 4 [(88, .int .u8 x3)] [.inRegion (opsOf (sub [1, 1, 1, 1, 1, 0] B85)) [1, 2], .code (sub [1, 1, 1, 1, 1, 1] B85)] (by kernel_rfl) ?_
    refine bind_some' h fun y33 e34 h => ?_
    refine Op_.call (.call { callee := .value (.func 95), args := #[(.tmp 88)], argTypes := #[5] }) 89 136 95 #[.int .u8 x3] (Goes.cs (by kernel_rfl)) (by kernel_rfl) (W.syntax_of x3 y33 e34 nz wz S1 w23 ((some gx2, .row 136 [.int .u64 (gi x2v.set_ 0), .int .u64 (gi x2v.set_ 1), .int .u64 (gi x2v.set_ 2), .int .u64 (gi x2v.set_ 3), .int .u8 x2v.b, .bool x2v.single] 6 0) :: (some gx0, .row 49 [.string e0v.s, .int .i64 (wr .i64 (e0v.at_ + 1)), .int .i64 e0v.deep, ve0v_3] 4 0) :: Lr)  p23 ) ?_
    rintro _ w24 ⟨S24, rfl, z24, p24, lr_24_0⟩
    refine Op_.st 136 (.tmp 2) (.tmp 89) 0 0 gx2 0 (.agg #[.int .u64 (gi y33.set_ 0), .int .u64 (gi y33.set_ 1), .int .u64 (gi y33.set_ 2), .int .u64 (gi y33.set_ 3), .int .u8 y33.b, .bool y33.single]) [.int .u64 (gi y33.set_ 0), .int .u64 (gi y33.set_ 1), .int .u64 (gi y33.set_ 2), .int .u64 (gi y33.set_ 3), .int .u8 y33.b, .bool y33.single] p24 rfl (Goes.ss (by kernel_rfl)) (by kernel_rfl) (by kernel_rfl) (by kernel_rfl) (by kernel_rfl) (Nat.zero_le _) (by simp only [List.length_cons, List.length_nil]; omega) (by simp [Value.oneCell']) ?_
    intro w25 z25 p25
    refine Goes.runs 1 [] [.code (sub [1, 1, 1, 1, 1, 1] B85)] (by kernel_rfl) ?_
    obtain rfl := Option.some.inj h
    exact Goes.ret (fn := Try.f85) (by kernel_rfl) (v := .agg #[.int .u64 (gi y33.set_ 0), .int .u64 (gi y33.set_ 1), .int .u64 (gi y33.set_ 2), .int .u64 (gi y33.set_ 3), .int .u8 y33.b, .bool y33.single]) (results_n1 (fn := Try.f85) (a := .cell 2 136) (by kernel_rfl) (resV_cell ⟨gx2, 0, none⟩ (by kernel_rfl) (run_loadN [.int .u64 (gi y33.set_ 0), .int .u64 (gi y33.set_ 1), .int .u64 (gi y33.set_ 2), .int .u64 (gi y33.set_ 3), .int .u8 y33.b, .bool y33.single] (by kernel_rfl) (by kernel_rfl) (At_part (us := []) (vs := [.int .u64 (gi y33.set_ 0), .int .u64 (gi y33.set_ 1), .int .u64 (gi y33.set_ 2), .int .u64 (gi y33.set_ 3), .int .u8 y33.b, .bool y33.single]) (ws := []) (p25.mem 0 rfl) 0 rfl)))) ⟨S24, ve0v_3, rfl, (((hx.trans z23).trans z24).trans z25), p25.drop, lr_24_0, (fe0v_3.ext ((z23.trans z24).trans z25))⟩

/-! (*tidepole/syntax.parser).escape -/
theorem W.syntax_parser_escape (x0v : T48) (r : T135 × T48) (h : M.syntax_parser_escape x0v = some r) (nz : Nat) (wz : World) (S0 : Fz) (w0 : World) (Lr : List Ent) (gx0 : Nat) (vx0v_3 : Value) (p0 : Hp nz wz S0 w0 ((some gx0, .row 49 [.string x0v.s, .int .i64 x0v.at_, .int .i64 x0v.deep, vx0v_3] 4 0) :: Lr)) (fx0v_3 : PtO kT52 S0 w0 vx0v_3 x0v.bad) :
    Calls Try.prog 85 #[.pointer (some ⟨gx0, 0, none⟩)] w0 (Rets (Post.syntax_parser_escape nz wz S0 w0 Lr gx0 r)) := by
  refine calls_of_goes (fn := Try.f85) (c := B85) (by kernel_rfl) (by kernel_rfl) 89 (by kernel_rfl) ?_
  refine Goes.jump 90 [(0, .pointer (some ⟨gx0, 0, none⟩))] (by kernel_rfl) (fun junk => ?_)
  delta M.syntax_parser_escape at h
  refine Goes.runs 2 [] [.inRegion (opsOf (sub [0] B85)) [0], .code (sub [1] B85)] (by kernel_rfl) ?_
  refine Op_.alloc 136 2 0 (.agg #[.int .u64 0, .int .u64 0, .int .u64 0, .int .u64 0, .int .u8 0, .bool false]) [.int .u64 0, .int .u64 0, .int .u64 0, .int .u64 0, .int .u8 0, .bool false] p0 (Goes.vs (by kernel_rfl)) (by kernel_rfl) (by kernel_rfl) ?_
  intro b2 w2 z2 p2
  refine Goes.runs 4 [(8, .pointer (some ⟨gx0, 0, none⟩))] [.inRegion (opsOf (sub [1, 0] B85)) [1, 2], .code (sub [1, 1] B85)] (by kernel_rfl) ?_
  have p2 := p2.front 1 _ rfl
  refine bind_some' h fun y4 e5 h => ?_
  refine Op_.call (.call { callee := .value (.func 54), args := #[(.tmp 8)], argTypes := #[46] }) 9 5 54 #[.pointer (some ⟨gx0, 0, none⟩)] (Goes.cs (by kernel_rfl)) (by kernel_rfl) (W.syntax_parser_peek x0v y4 e5 nz wz S0 w2 ((some b2, .row 136 [.int .u64 0, .int .u64 0, .int .u64 0, .int .u64 0, .int .u8 0, .bool false] 6 0) :: Lr) gx0 vx0v_3 p2 (fx0v_3.ext z2)) ?_
  rintro _ w3 ⟨S3, ve0_3v_3, rfl, z3, p3, fe0_3v_3⟩
  refine Goes.runs 6 [(3, .int .u8 y4.1), (11, .int .u8 y4.1)] [.inRegion (opsOf (sub [1, 1, 0, 0] B85)) [1, 2, 3, 4, 5, 6, 7], .code (sub [1, 1, 0, 1] B85), .code (sub [1, 1, 1] B85)] (by kernel_rfl) ?_
  refine bind_some' h fun y6 e7 h => ?_
  refine Op_.call (.call { callee := .value (.func 93), args := #[(.tmp 11)], argTypes := #[5] }) 12 144 93 #[.int .u8 y4.1] (Goes.cs (by kernel_rfl)) (by kernel_rfl) (W.syntax_class y4.1 y6 e7 nz wz S3 w3 ((some gx0, .row 49 [.string y4.2.s, .int .i64 y4.2.at_, .int .i64 y4.2.deep, ve0_3v_3] 4 0) :: (some b2, .row 136 [.int .u64 0, .int .u64 0, .int .u64 0, .int .u64 0, .int .u8 0, .bool false] 6 0) :: Lr)  p3 ) ?_
  rintro _ w4 ⟨S4, vsr_4_0, rfl, z4, p4, fr_4_0, lr_4_0⟩
  refine Goes.runs 3 [(10, .tuple #[.agg vsr_4_0.toArray, .bool y6.2]), (13, .agg vsr_4_0.toArray), (14, .bool y6.2)] [.inRegion (opsOf (sub [1, 1, 0, 0] B85)) [5, 6, 7], .code (sub [1, 1, 0, 1] B85), .code (sub [1, 1, 1] B85)] (by kernel_rfl) ?_
  refine Op_.alloc 25 4 0 (.agg #[.int .u64 0, .int .u64 0, .int .u64 0, .int .u64 0]) [.int .u64 0, .int .u64 0, .int .u64 0, .int .u64 0] p4 (Goes.vs (by kernel_rfl)) (by kernel_rfl) (by kernel_rfl) ?_
  intro b8 w5 z5 p5
  have f10 : Els (kInt .u64) S4 w5 ([.int .u64 0, .int .u64 0, .int .u64 0, .int .u64 0] : List Value) [0, 0, 0, 0] := (Els.cons (K := (kInt .u64)) (vs := [.int .u64 0]) (x := 0) rfl (Els.cons (K := (kInt .u64)) (vs := [.int .u64 0]) (x := 0) rfl (Els.cons (K := (kInt .u64)) (vs := [.int .u64 0]) (x := 0) rfl (Els.cons (K := (kInt .u64)) (vs := [.int .u64 0]) (x := 0) rfl Els.nil))))
  refine Op_.stA 25 (.tmp 4) (.tmp 13) 0 0 b8 4 vsr_4_0 p5 rfl rfl (Goes.ss (by kernel_rfl)) (by kernel_rfl) (by kernel_rfl) (by kernel_rfl) lr_4_0 (Els.one (fr_4_0.ext z5)) ?_
  intro w6 z6 p6
  refine Goes.runs 6 [(5, .bool y6.2), (15, .bool y6.2)] [.code (sub [1, 1, 0, 1, 1] B85), .code (sub [1, 1, 1] B85)] (by kernel_rfl) ?_
  refine ite_some h (fun h11 h => ?_) (fun h11 h => ?_)
  · rw [h11]
    refine Goes.runs 6 [(16, .pointer (some ⟨gx0, 0, none⟩)), (17, .pointer (some ⟨gx0, 0, none⟩)), (18, .pointer (some ⟨gx0, 1, none⟩))] [.inRegion (opsOf (sub [1, 1, 0, 1, 1, 0, 0] B85)) [3, 4, 5, 6, 7], .code (sub [1, 1, 0, 1, 1, 0, 1] B85), .code (sub [1, 1, 1] B85)] (by kernel_rfl) ?_
    refine Op_.ld1 3 (.tmp 18) 19 3 ⟨gx0, 1, none⟩ (.int .i64 y4.2.at_) (Goes.vs (by kernel_rfl)) (by kernel_rfl) (by kernel_rfl) ((p6.mem 1 rfl).cell 1 _ rfl) ?_
    refine Goes.runs 3 [(20, .int .i64 (wr .i64 (y4.2.at_ + 1))), (21, .pointer (some ⟨gx0, 0, none⟩)), (22, .pointer (some ⟨gx0, 1, none⟩))] [.inRegion (opsOf (sub [1, 1, 0, 1, 1, 0, 0] B85)) [7], .code (sub [1, 1, 0, 1, 1, 0, 1] B85), .code (sub [1, 1, 1] B85)] (by kernel_rfl) ?_
    refine Op_.st 3 (.tmp 22) (.tmp 20) 0 1 gx0 1 (.int .i64 (wr .i64 (y4.2.at_ + 1))) [.int .i64 (wr .i64 (y4.2.at_ + 1))] p6 rfl (Goes.ss (by kernel_rfl)) (by kernel_rfl) (by kernel_rfl) (by kernel_rfl) (by kernel_rfl) (Nat.zero_le _) (by simp only [List.length_cons, List.length_nil]; omega) (by simp [Value.oneCell']) ?_
    intro w7 z7 p7
    refine Goes.runs 3 [] [.inRegion (opsOf (sub [1, 1, 0, 1, 1, 0, 1, 0] B85)) [0, 1, 2], .code (sub [1, 1, 0, 1, 1, 0, 1, 1] B85), .code (sub [1, 1, 1] B85)] (by kernel_rfl) ?_
    refine Op_.ldN 25 (.tmp 4) 23 25 ⟨b8, 0, none⟩ vsr_4_0 (Goes.vs (by kernel_rfl)) (by kernel_rfl) (by kernel_rfl) (by rw [lr_4_0]; kernel_rfl) (At_all (p7.mem 0 rfl)) ?_
    have l12 := Els.len1 (fr_4_0.ext ((z5.trans z6).trans z7)) lr_4_0 rfl
    obtain rfl := els_lit4 (fr_4_0.ext ((z5.trans z6).trans z7)) lr_4_0
    refine Goes.runs 1 [(24, .agg #[.int .u64 (gi y6.1 0), .int .u64 (gi y6.1 1), .int .u64 (gi y6.1 2), .int .u64 (gi y6.1 3), .int .u8 0, .bool false])] [.inRegion (opsOf (sub [1, 1, 0, 1, 1, 0, 1, 0] B85)) [2], .code (sub [1, 1, 0, 1, 1, 0, 1, 1] B85), .code (sub [1, 1, 1] B85)] (by kernel_rfl) ?_
    refine Op_.st 136 (.tmp 2) (.tmp 24) 0 2 b2 0 (.agg #[.int .u64 (gi y6.1 0), .int .u64 (gi y6.1 1), .int .u64 (gi y6.1 2), .int .u64 (gi y6.1 3), .int .u8 0, .bool false]) [.int .u64 (gi y6.1 0), .int .u64 (gi y6.1 1), .int .u64 (gi y6.1 2), .int .u64 (gi y6.1 3), .int .u8 0, .bool false] p7 rfl (Goes.ss (by kernel_rfl)) (by kernel_rfl) (by kernel_rfl) (by kernel_rfl) (by kernel_rfl) (Nat.zero_le _) (by simp only [List.length_cons, List.length_nil]; omega) (by simp [Value.oneCell']) ?_
    intro w8 z8 p8
    refine Goes.runs 1 [] [.code (sub [1, 1, 0, 1, 1, 0, 1, 1] B85), .code (sub [1, 1, 1] B85)] (by kernel_rfl) ?_
    obtain rfl := Option.some.inj h
    have p8 := (p8.front 0 _ rfl).drop
    have p8 := p8.front 0 _ rfl
    have p8 := p8.front 1 _ rfl
    exact Goes.ret (fn := Try.f85) (by kernel_rfl) (v := .agg #[.int .u64 (gi y6.1 0), .int .u64 (gi y6.1 1), .int .u64 (gi y6.1 2), .int .u64 (gi y6.1 3), .int .u8 0, .bool false]) (results_n1 (fn := Try.f85) (a := .cell 2 136) (by kernel_rfl) (resV_cell ⟨b2, 0, none⟩ (by kernel_rfl) (run_loadN [.int .u64 (gi y6.1 0), .int .u64 (gi y6.1 1), .int .u64 (gi y6.1 2), .int .u64 (gi y6.1 3), .int .u8 0, .bool false] (by kernel_rfl) (by kernel_rfl) (At_part (us := []) (vs := [.int .u64 (gi y6.1 0), .int .u64 (gi y6.1 1), .int .u64 (gi y6.1 2), .int .u64 (gi y6.1 3), .int .u8 0, .bool false]) (ws := []) (p8.mem 0 rfl) 0 rfl)))) ⟨S4, ve0_3v_3, rfl, ((((((((Ext.refl S0 w0).trans z2).trans z3).trans z4).trans z5).trans z6).trans z7).trans z8), p8.drop, l12, (fe0_3v_3.ext ((((z4.trans z5).trans z6).trans z7).trans z8))⟩
  · have h11' : y6.2 = false := by simpa using h11
    rw [h11']
    refine Goes.runs 10 [(26, .int .u8 y4.1), (27, .bool (decide (y4.1 = 120))), (25, .bool (decide (y4.1 = 120)))] [.code (sub [1, 1, 1, 0, 0, 1] B85), .inBlock 0, .code (sub [1, 1, 1, 1] B85)] (by kernel_rfl) ?_
    refine ite_some h (fun h13 h => ?_) (fun h13 h => ?_)
    · rw [decide_eq_true h13]
      refine Goes.runs 6 [(28, .pointer (some ⟨gx0, 0, none⟩)), (29, .pointer (some ⟨gx0, 0, none⟩)), (30, .pointer (some ⟨gx0, 1, none⟩))] [.inRegion (opsOf (sub [1, 1, 1, 0, 0, 1, 0, 0] B85)) [3, 4, 5, 6, 7], .code (sub [1, 1, 1, 0, 0, 1, 0, 1] B85), .inBlock 0, .code (sub [1, 1, 1, 1] B85)] (by kernel_rfl) ?_
      refine Op_.ld1 3 (.tmp 30) 31 3 ⟨gx0, 1, none⟩ (.int .i64 y4.2.at_) (Goes.vs (by kernel_rfl)) (by kernel_rfl) (by kernel_rfl) ((p6.mem 1 rfl).cell 1 _ rfl) ?_
      refine Goes.runs 3 [(32, .int .i64 (wr .i64 (y4.2.at_ + 1))), (33, .pointer (some ⟨gx0, 0, none⟩)), (34, .pointer (some ⟨gx0, 1, none⟩))] [.inRegion (opsOf (sub [1, 1, 1, 0, 0, 1, 0, 0] B85)) [7], .code (sub [1, 1, 1, 0, 0, 1, 0, 1] B85), .inBlock 0, .code (sub [1, 1, 1, 1] B85)] (by kernel_rfl) ?_
      refine Op_.st 3 (.tmp 34) (.tmp 32) 0 1 gx0 1 (.int .i64 (wr .i64 (y4.2.at_ + 1))) [.int .i64 (wr .i64 (y4.2.at_ + 1))] p6 rfl (Goes.ss (by kernel_rfl)) (by kernel_rfl) (by kernel_rfl) (by kernel_rfl) (by kernel_rfl) (Nat.zero_le _) (by simp only [List.length_cons, List.length_nil]; omega) (by simp [Value.oneCell']) ?_
      intro w9 z9 p9
      refine Goes.runs 4 [(35, .pointer (some ⟨gx0, 0, none⟩))] [.inRegion (opsOf (sub [1, 1, 1, 0, 0, 1, 0, 1, 0] B85)) [1, 2], .code (sub [1, 1, 1, 0, 0, 1, 0, 1, 1] B85), .inBlock 0, .code (sub [1, 1, 1, 1] B85)] (by kernel_rfl) ?_
      have p9 := p9.front 1 _ rfl
      refine bind_some' h fun y14 e15 h => ?_
      refine Op_.call (.call { callee := .value (.func 94), args := #[(.tmp 35)], argTypes := #[46] }) 36 5 94 #[.pointer (some ⟨gx0, 0, none⟩)] (Goes.cs (by kernel_rfl)) (by kernel_rfl) (W.syntax_parser_digit (⟨y4.2.s, wr .i64 (y4.2.at_ + 1), y4.2.deep, y4.2.bad⟩ : T48) y14 e15 nz wz S4 w9 ((some b8, .row 25 vsr_4_0 4 0) :: (some b2, .row 136 [.int .u64 0, .int .u64 0, .int .u64 0, .int .u64 0, .int .u8 0, .bool false] 6 0) :: Lr) gx0 ve0_3v_3 p9 (fe0_3v_3.ext (((z4.trans z5).trans z6).trans z9))) ?_
      rintro _ w10 ⟨S10, ve0_10v_3, rfl, z10, p10, fe0_10v_3⟩
      have p10 := (p10.front 1 _ rfl).drop
      refine Goes.runs 5 [(6, .int .u8 y14.1), (37, .pointer (some ⟨gx0, 0, none⟩))] [.inRegion (opsOf (sub [1, 1, 1, 0, 0, 1, 0, 1, 1, 0] B85)) [1, 2], .code (sub [1, 1, 1, 0, 0, 1, 0, 1, 1, 1] B85), .inBlock 0, .code (sub [1, 1, 1, 1] B85)] (by kernel_rfl) ?_
      refine bind_some' h fun y16 e17 h => ?_
      refine Op_.call (.call { callee := .value (.func 94), args := #[(.tmp 37)], argTypes := #[46] }) 38 5 94 #[.pointer (some ⟨gx0, 0, none⟩)] (Goes.cs (by kernel_rfl)) (by kernel_rfl) (W.syntax_parser_digit y14.2 y16 e17 nz wz S10 w10 ((some b2, .row 136 [.int .u64 0, .int .u64 0, .int .u64 0, .int .u64 0, .int .u8 0, .bool false] 6 0) :: Lr) gx0 ve0_10v_3 p10 fe0_10v_3) ?_
      rintro _ w11 ⟨S11, ve0_11v_3, rfl, z11, p11, fe0_11v_3⟩
      refine Goes.runs 8 [(7, .int .u8 y16.1), (39, .int .u8 y14.1), (40, .int .u8 (ishl .u8 y14.1 4)), (41, .int .u8 y16.1), (42, .int .u8 (ior .u8 (ishl .u8 y14.1 4) y16.1))] [.inRegion (opsOf (sub [1, 1, 1, 0, 0, 1, 0, 1, 1, 1, 0] B85)) [4, 5], .code (sub [1, 1, 1, 0, 0, 1, 0, 1, 1, 1, 1] B85), .inBlock 0, .code (sub [1, 1, 1, 1] B85)] (by kernel_rfl) ?_
      refine bind_some' h fun y18 e19 h => ?_
      refine Op_.call (.call { callee := .value (.func 95), args := #[(.tmp 42)], argTypes := #[5] }) 43 136 95 #[.int .u8 (ior .u8 (ishl .u8 y14.1 4) y16.1)] (Goes.cs (by kernel_rfl)) (by kernel_rfl) (W.syntax_of (ior .u8 (ishl .u8 y14.1 4) y16.1) y18 e19 nz wz S11 w11 ((some gx0, .row 49 [.string y16.2.s, .int .i64 y16.2.at_, .int .i64 y16.2.deep, ve0_11v_3] 4 0) :: (some b2, .row 136 [.int .u64 0, .int .u64 0, .int .u64 0, .int .u64 0, .int .u8 0, .bool false] 6 0) :: Lr)  p11 ) ?_
      rintro _ w12 ⟨S12, rfl, z12, p12, lr_12_0⟩
      refine Op_.st 136 (.tmp 2) (.tmp 43) 0 1 b2 0 (.agg #[.int .u64 (gi y18.set_ 0), .int .u64 (gi y18.set_ 1), .int .u64 (gi y18.set_ 2), .int .u64 (gi y18.set_ 3), .int .u8 y18.b, .bool y18.single]) [.int .u64 (gi y18.set_ 0), .int .u64 (gi y18.set_ 1), .int .u64 (gi y18.set_ 2), .int .u64 (gi y18.set_ 3), .int .u8 y18.b, .bool y18.single] p12 rfl (Goes.ss (by kernel_rfl)) (by kernel_rfl) (by kernel_rfl) (by kernel_rfl) (by kernel_rfl) (Nat.zero_le _) (by simp only [List.length_cons, List.length_nil]; omega) (by simp [Value.oneCell']) ?_
      intro w13 z13 p13
      refine Goes.runs 1 [] [.code (sub [1, 1, 1, 0, 0, 1, 0, 1, 1, 1, 1] B85), .inBlock 0, .code (sub [1, 1, 1, 1] B85)] (by kernel_rfl) ?_
      obtain rfl := Option.some.inj h
      have p13 := p13.front 0 _ rfl
      have p13 := p13.front 1 _ rfl
      exact Goes.ret (fn := Try.f85) (by kernel_rfl) (v := .agg #[.int .u64 (gi y18.set_ 0), .int .u64 (gi y18.set_ 1), .int .u64 (gi y18.set_ 2), .int .u64 (gi y18.set_ 3), .int .u8 y18.b, .bool y18.single]) (results_n1 (fn := Try.f85) (a := .cell 2 136) (by kernel_rfl) (resV_cell ⟨b2, 0, none⟩ (by kernel_rfl) (run_loadN [.int .u64 (gi y18.set_ 0), .int .u64 (gi y18.set_ 1), .int .u64 (gi y18.set_ 2), .int .u64 (gi y18.set_ 3), .int .u8 y18.b, .bool y18.single] (by kernel_rfl) (by kernel_rfl) (At_part (us := []) (vs := [.int .u64 (gi y18.set_ 0), .int .u64 (gi y18.set_ 1), .int .u64 (gi y18.set_ 2), .int .u64 (gi y18.set_ 3), .int .u8 y18.b, .bool y18.single]) (ws := []) (p13.mem 0 rfl) 0 rfl)))) ⟨S12, ve0_11v_3, rfl, (((((((((((Ext.refl S0 w0).trans z2).trans z3).trans z4).trans z5).trans z6).trans z9).trans z10).trans z11).trans z12).trans z13), p13.drop, lr_12_0, (fe0_11v_3.ext (z12.trans z13))⟩
    · rw [decide_eq_false h13]
      refine Goes.runs 7 [(45, .int .u8 y4.1), (46, .bool (decide (y4.1 = 110))), (44, .bool (decide (y4.1 = 110)))] [.code (sub [1, 1, 1, 0, 0, 1, 1, 1] B85), .inBlock 0, .code (sub [1, 1, 1, 1] B85)] (by kernel_rfl) ?_
      refine ite_some h (fun h20 h => ?_) (fun h20 h => ?_)
      · rw [decide_eq_true h20]
        refine Goes.runs 6 [(47, .pointer (some ⟨gx0, 0, none⟩)), (48, .pointer (some ⟨gx0, 0, none⟩)), (49, .pointer (some ⟨gx0, 1, none⟩))] [.inRegion (opsOf (sub [1, 1, 1, 0, 0, 1, 1, 1, 0, 0] B85)) [3, 4, 5, 6, 7], .code (sub [1, 1, 1, 0, 0, 1, 1, 1, 0, 1] B85), .inBlock 0, .code (sub [1, 1, 1, 1] B85)] (by kernel_rfl) ?_
        refine Op_.ld1 3 (.tmp 49) 50 3 ⟨gx0, 1, none⟩ (.int .i64 y4.2.at_) (Goes.vs (by kernel_rfl)) (by kernel_rfl) (by kernel_rfl) ((p6.mem 1 rfl).cell 1 _ rfl) ?_
        refine Goes.runs 3 [(51, .int .i64 (wr .i64 (y4.2.at_ + 1))), (52, .pointer (some ⟨gx0, 0, none⟩)), (53, .pointer (some ⟨gx0, 1, none⟩))] [.inRegion (opsOf (sub [1, 1, 1, 0, 0, 1, 1, 1, 0, 0] B85)) [7], .code (sub [1, 1, 1, 0, 0, 1, 1, 1, 0, 1] B85), .inBlock 0, .code (sub [1, 1, 1, 1] B85)] (by kernel_rfl) ?_
        refine Op_.st 3 (.tmp 53) (.tmp 51) 0 1 gx0 1 (.int .i64 (wr .i64 (y4.2.at_ + 1))) [.int .i64 (wr .i64 (y4.2.at_ + 1))] p6 rfl (Goes.ss (by kernel_rfl)) (by kernel_rfl) (by kernel_rfl) (by kernel_rfl) (by kernel_rfl) (Nat.zero_le _) (by simp only [List.length_cons, List.length_nil]; omega) (by simp [Value.oneCell']) ?_
        intro w14 z14 p14
        refine Goes.runs 3 [] [.inRegion (opsOf (sub [1, 1, 1, 0, 0, 1, 1, 1, 0, 1, 0] B85)) [0, 1], .code (sub [1, 1, 1, 0, 0, 1, 1, 1, 0, 1, 1] B85), .inBlock 0, .code (sub [1, 1, 1, 1] B85)] (by kernel_rfl) ?_
        refine bind_some' h fun y21 e22 h => ?_
        refine Op_.call (.call { callee := .value (.func 95), args := #[(.const (.int .u8 10))], argTypes := #[5] }) 54 136 95 #[.int .u8 10] (Goes.cs (by kernel_rfl)) (by kernel_rfl) (W.syntax_of 10 y21 e22 nz wz S4 w14 ((some b8, .row 25 vsr_4_0 4 0) :: (some gx0, .row 49 [.string y4.2.s, .int .i64 (wr .i64 (y4.2.at_ + 1)), .int .i64 y4.2.deep, ve0_3v_3] 4 0) :: (some b2, .row 136 [.int .u64 0, .int .u64 0, .int .u64 0, .int .u64 0, .int .u8 0, .bool false] 6 0) :: Lr)  p14 ) ?_
        rintro _ w15 ⟨S15, rfl, z15, p15, lr_15_0⟩
        have p15 := (p15.front 0 _ rfl).drop
        refine Op_.st 136 (.tmp 2) (.tmp 54) 0 1 b2 0 (.agg #[.int .u64 (gi y21.set_ 0), .int .u64 (gi y21.set_ 1), .int .u64 (gi y21.set_ 2), .int .u64 (gi y21.set_ 3), .int .u8 y21.b, .bool y21.single]) [.int .u64 (gi y21.set_ 0), .int .u64 (gi y21.set_ 1), .int .u64 (gi y21.set_ 2), .int .u64 (gi y21.set_ 3), .int .u8 y21.b, .bool y21.single] p15 rfl (Goes.ss (by kernel_rfl)) (by kernel_rfl) (by kernel_rfl) (by kernel_rfl) (by kernel_rfl) (Nat.zero_le _) (by simp only [List.length_cons, List.length_nil]; omega) (by simp [Value.oneCell']) ?_
        intro w16 z16 p16
        refine Goes.runs 1 [] [.code (sub [1, 1, 1, 0, 0, 1, 1, 1, 0, 1, 1] B85), .inBlock 0, .code (sub [1, 1, 1, 1] B85)] (by kernel_rfl) ?_
        obtain rfl := Option.some.inj h
        have p16 := p16.front 0 _ rfl
        have p16 := p16.front 1 _ rfl
        exact Goes.ret (fn := Try.f85) (by kernel_rfl) (v := .agg #[.int .u64 (gi y21.set_ 0), .int .u64 (gi y21.set_ 1), .int .u64 (gi y21.set_ 2), .int .u64 (gi y21.set_ 3), .int .u8 y21.b, .bool y21.single]) (results_n1 (fn := Try.f85) (a := .cell 2 136) (by kernel_rfl) (resV_cell ⟨b2, 0, none⟩ (by kernel_rfl) (run_loadN [.int .u64 (gi y21.set_ 0), .int .u64 (gi y21.set_ 1), .int .u64 (gi y21.set_ 2), .int .u64 (gi y21.set_ 3), .int .u8 y21.b, .bool y21.single] (by kernel_rfl) (by kernel_rfl) (At_part (us := []) (vs := [.int .u64 (gi y21.set_ 0), .int .u64 (gi y21.set_ 1), .int .u64 (gi y21.set_ 2), .int .u64 (gi y21.set_ 3), .int .u8 y21.b, .bool y21.single]) (ws := []) (p16.mem 0 rfl) 0 rfl)))) ⟨S15, ve0_3v_3, rfl, (((((((((Ext.refl S0 w0).trans z2).trans z3).trans z4).trans z5).trans z6).trans z14).trans z15).trans z16), p16.drop, lr_15_0, (fe0_3v_3.ext (((((z4.trans z5).trans z6).trans z14).trans z15).trans z16))⟩
      · rw [decide_eq_false h20]
        refine Goes.runs 7 [(56, .int .u8 y4.1), (57, .bool (decide (y4.1 = 116))), (55, .bool (decide (y4.1 = 116)))] [.code (sub [1, 1, 1, 0, 0, 1, 1, 1, 1, 1] B85), .inBlock 0, .code (sub [1, 1, 1, 1] B85)] (by kernel_rfl) ?_
        refine ite_some h (fun h23 h => ?_) (fun h23 h => ?_)
        · rw [decide_eq_true h23]
          refine Goes.runs 6 [(58, .pointer (some ⟨gx0, 0, none⟩)), (59, .pointer (some ⟨gx0, 0, none⟩)), (60, .pointer (some ⟨gx0, 1, none⟩))] [.inRegion (opsOf (sub [1, 1, 1, 0, 0, 1, 1, 1, 1, 1, 0, 0] B85)) [3, 4, 5, 6, 7], .code (sub [1, 1, 1, 0, 0, 1, 1, 1, 1, 1, 0, 1] B85), .inBlock 0, .code (sub [1, 1, 1, 1] B85)] (by kernel_rfl) ?_
          refine Op_.ld1 3 (.tmp 60) 61 3 ⟨gx0, 1, none⟩ (.int .i64 y4.2.at_) (Goes.vs (by kernel_rfl)) (by kernel_rfl) (by kernel_rfl) ((p6.mem 1 rfl).cell 1 _ rfl) ?_
          refine Goes.runs 3 [(62, .int .i64 (wr .i64 (y4.2.at_ + 1))), (63, .pointer (some ⟨gx0, 0, none⟩)), (64, .pointer (some ⟨gx0, 1, none⟩))] [.inRegion (opsOf (sub [1, 1, 1, 0, 0, 1, 1, 1, 1, 1, 0, 0] B85)) [7], .code (sub [1, 1, 1, 0, 0, 1, 1, 1, 1, 1, 0, 1] B85), .inBlock 0, .code (sub [1, 1, 1, 1] B85)] (by kernel_rfl) ?_
          refine Op_.st 3 (.tmp 64) (.tmp 62) 0 1 gx0 1 (.int .i64 (wr .i64 (y4.2.at_ + 1))) [.int .i64 (wr .i64 (y4.2.at_ + 1))] p6 rfl (Goes.ss (by kernel_rfl)) (by kernel_rfl) (by kernel_rfl) (by kernel_rfl) (by kernel_rfl) (Nat.zero_le _) (by simp only [List.length_cons, List.length_nil]; omega) (by simp [Value.oneCell']) ?_
          intro w17 z17 p17
          refine Goes.runs 3 [] [.inRegion (opsOf (sub [1, 1, 1, 0, 0, 1, 1, 1, 1, 1, 0, 1, 0] B85)) [0, 1], .code (sub [1, 1, 1, 0, 0, 1, 1, 1, 1, 1, 0, 1, 1] B85), .inBlock 0, .code (sub [1, 1, 1, 1] B85)] (by kernel_rfl) ?_
          refine bind_some' h fun y24 e25 h => ?_
          refine Op_.call (.call { callee := .value (.func 95), args := #[(.const (.int .u8 9))], argTypes := #[5] }) 65 136 95 #[.int .u8 9] (Goes.cs (by kernel_rfl)) (by kernel_rfl) (W.syntax_of 9 y24 e25 nz wz S4 w17 ((some b8, .row 25 vsr_4_0 4 0) :: (some gx0, .row 49 [.string y4.2.s, .int .i64 (wr .i64 (y4.2.at_ + 1)), .int .i64 y4.2.deep, ve0_3v_3] 4 0) :: (some b2, .row 136 [.int .u64 0, .int .u64 0, .int .u64 0, .int .u64 0, .int .u8 0, .bool false] 6 0) :: Lr)  p17 ) ?_
          rintro _ w18 ⟨S18, rfl, z18, p18, lr_18_0⟩
          have p18 := (p18.front 0 _ rfl).drop
          refine Op_.st 136 (.tmp 2) (.tmp 65) 0 1 b2 0 (.agg #[.int .u64 (gi y24.set_ 0), .int .u64 (gi y24.set_ 1), .int .u64 (gi y24.set_ 2), .int .u64 (gi y24.set_ 3), .int .u8 y24.b, .bool y24.single]) [.int .u64 (gi y24.set_ 0), .int .u64 (gi y24.set_ 1), .int .u64 (gi y24.set_ 2), .int .u64 (gi y24.set_ 3), .int .u8 y24.b, .bool y24.single] p18 rfl (Goes.ss (by kernel_rfl)) (by kernel_rfl) (by kernel_rfl) (by kernel_rfl) (by kernel_rfl) (Nat.zero_le _) (by simp only [List.length_cons, List.length_nil]; omega) (by simp [Value.oneCell']) ?_
          intro w19 z19 p19
          refine Goes.runs 1 [] [.code (sub [1, 1, 1, 0, 0, 1, 1, 1, 1, 1, 0, 1, 1] B85), .inBlock 0, .code (sub [1, 1, 1, 1] B85)] (by kernel_rfl) ?_
          obtain rfl := Option.some.inj h
          have p19 := p19.front 0 _ rfl
          have p19 := p19.front 1 _ rfl
          exact Goes.ret (fn := Try.f85) (by kernel_rfl) (v := .agg #[.int .u64 (gi y24.set_ 0), .int .u64 (gi y24.set_ 1), .int .u64 (gi y24.set_ 2), .int .u64 (gi y24.set_ 3), .int .u8 y24.b, .bool y24.single]) (results_n1 (fn := Try.f85) (a := .cell 2 136) (by kernel_rfl) (resV_cell ⟨b2, 0, none⟩ (by kernel_rfl) (run_loadN [.int .u64 (gi y24.set_ 0), .int .u64 (gi y24.set_ 1), .int .u64 (gi y24.set_ 2), .int .u64 (gi y24.set_ 3), .int .u8 y24.b, .bool y24.single] (by kernel_rfl) (by kernel_rfl) (At_part (us := []) (vs := [.int .u64 (gi y24.set_ 0), .int .u64 (gi y24.set_ 1), .int .u64 (gi y24.set_ 2), .int .u64 (gi y24.set_ 3), .int .u8 y24.b, .bool y24.single]) (ws := []) (p19.mem 0 rfl) 0 rfl)))) ⟨S18, ve0_3v_3, rfl, (((((((((Ext.refl S0 w0).trans z2).trans z3).trans z4).trans z5).trans z6).trans z17).trans z18).trans z19), p19.drop, lr_18_0, (fe0_3v_3.ext (((((z4.trans z5).trans z6).trans z17).trans z18).trans z19))⟩
        · rw [decide_eq_false h23]
          refine Goes.runs 6 [(67, .int .u8 y4.1), (68, .bool (decide (y4.1 = 0))), (69, .bool (decide (y4.1 = 0)))] [.inRegion (opsOf (sub [1, 1, 1, 0, 0, 1, 1, 1, 1, 1, 1, 0] B85)) [3, 4, 5, 6, 7], .code (sub [1, 1, 1, 0, 0, 1, 1, 1, 1, 1, 1, 1] B85), .inBlock 0, .code (sub [1, 1, 1, 1] B85)] (by kernel_rfl) ?_
          refine ite_some h (fun h26 h => ?_) (fun h26 h => ?_)
          · rw [decide_eq_true h26]
            refine Goes.runs 6 [(70, undef), (71, undef), (72, undef), (73, .bool true), (66, .bool true)] [.code (sub [1, 1, 1, 0, 0, 1, 1, 1, 1, 1, 1, 1] B85), .inBlock 0, .code (sub [1, 1, 1, 1] B85)] (by kernel_rfl) ?_
            have p6 := (p6.front 0 _ rfl).drop
            have p6 := p6.front 0 _ rfl
            have p6 := p6.front 1 _ rfl
            exact Goes.jump 90 [(0, .pointer (some ⟨gx0, 0, none⟩)), (2, .pointer (some ⟨b2, 0, none⟩)), (3, .int .u8 y4.1), (66, .bool true)] (by kernel_rfl) (W.syntax_parser_escape_l0 nz wz S0 w0 Lr gx0 _ _ h _ _ ((((((Ext.refl S0 w0).trans z2).trans z3).trans z4).trans z5).trans z6) b2 ve0_3v_3 p6 rfl (fe0_3v_3.ext ((z4.trans z5).trans z6)))
          · rw [decide_eq_false h26]
            refine Goes.runs 1 [(70, .int .u8 y4.1)] [.inRegion (opsOf (sub [1, 1, 1, 0, 0, 1, 1, 1, 1, 1, 1, 0] B85)) [4, 5, 6, 7], .code (sub [1, 1, 1, 0, 0, 1, 1, 1, 1, 1, 1, 1] B85), .inBlock 0, .code (sub [1, 1, 1, 1] B85)] (by kernel_rfl) ?_
            refine bind_some' h fun y28 e29 h => ?_
            refine Op_.call (.call { callee := .value (.func 52), args := #[(.const (.string ⟨#[92, 46, 91, 93, 40, 41, 42, 43, 63, 123, 125, 94, 36, 45, 47, 124]⟩)), (.tmp 70)], argTypes := #[9, 5] }) 71 3 52 #[.string (⟨#[92, 46, 91, 93, 40, 41, 42, 43, 63, 123, 125, 94, 36, 45, 47, 124]⟩ : ByteArray), .int .u8 y4.1] (Goes.cs (by kernel_rfl)) (by kernel_rfl) (W.strings_IndexByte (⟨#[92, 46, 91, 93, 40, 41, 42, 43, 63, 123, 125, 94, 36, 45, 47, 124]⟩ : ByteArray) y4.1 y28 e29 nz wz S4 w6 ((some b8, .row 25 vsr_4_0 4 0) :: (some gx0, .row 49 [.string y4.2.s, .int .i64 y4.2.at_, .int .i64 y4.2.deep, ve0_3v_3] 4 0) :: (some b2, .row 136 [.int .u64 0, .int .u64 0, .int .u64 0, .int .u64 0, .int .u8 0, .bool false] 6 0) :: Lr)  p6 ) ?_
            rintro _ w20 ⟨S20, rfl, z20, p20⟩
            have p20 := (p20.front 0 _ rfl).drop
            refine Goes.runs 4 [(72, .bool (decide (y28 < 0))), (73, .bool (decide (y28 < 0))), (66, .bool (decide (y28 < 0)))] [.code (sub [1, 1, 1, 0, 0, 1, 1, 1, 1, 1, 1, 1] B85), .inBlock 0, .code (sub [1, 1, 1, 1] B85)] (by kernel_rfl) ?_
            have p20 := p20.front 0 _ rfl
            have p20 := p20.front 1 _ rfl
            exact Goes.jump 90 [(0, .pointer (some ⟨gx0, 0, none⟩)), (2, .pointer (some ⟨b2, 0, none⟩)), (3, .int .u8 y4.1), (66, .bool (decide (y28 < 0)))] (by kernel_rfl) (W.syntax_parser_escape_l0 nz wz S0 w0 Lr gx0 _ _ h _ _ (((((((Ext.refl S0 w0).trans z2).trans z3).trans z4).trans z5).trans z6).trans z20) b2 ve0_3v_3 p20 rfl (fe0_3v_3.ext (((z4.trans z5).trans z6).trans z20)))

/-! (*tidepole/syntax.parser).item -/
def Post.syntax_parser_item (nz : Nat) (wz : World) (S0 : Fz) (w0 : World) (Lr : List Ent) (gx0 : Nat) (r : T135 × T48) (v : Value) (w' : World) : Prop :=
  ∃ (S' : Fz) (ve0v_3 : Value), v = .agg #[.int .u64 (gi r.1.set_ 0), .int .u64 (gi r.1.set_ 1), .int .u64 (gi r.1.set_ 2), .int .u64 (gi r.1.set_ 3), .int .u8 r.1.b, .bool r.1.single] ∧ Ext S0 w0 S' w' ∧ Hp nz wz S' w' ((some gx0, .row 49 [.string r.2.s, .int .i64 r.2.at_, .int .i64 r.2.deep, ve0v_3] 4 0) :: Lr) ∧ r.1.set_.length = 4 ∧ PtO kT52 S' w' ve0v_3 r.2.bad

def L.syntax_parser_item_l0 (nz : Nat) (wz : World) (S0 : Fz) (w0 : World) (Lr : List Ent) (gx0 : Nat) : T135 × Int × Bool × T48 → (T135 × T48) → Prop := fun ⟨x2v, x3, x11, e0v⟩ r => ∀ S1 w1, Ext S0 w0 S1 w1 → ∀ (gx2 : Nat) (ve0v_3 : Value) (_ : Hp nz wz S1 w1 ((some gx2, .row 136 [.int .u64 (gi x2v.set_ 0), .int .u64 (gi x2v.set_ 1), .int .u64 (gi x2v.set_ 2), .int .u64 (gi x2v.set_ 3), .int .u8 x2v.b, .bool x2v.single] 6 0) :: (some gx0, .row 49 [.string e0v.s, .int .i64 e0v.at_, .int .i64 e0v.deep, ve0v_3] 4 0) :: Lr)) (_ : x2v.set_.length = 4) (_ : PtO kT52 S1 w1 ve0v_3 e0v.bad) (junk : Nat → Value),
  Goes Try.prog (base 101) [.code (sub [1, 1, 0, 0, 1, 1, 1] B101), .inBlock 0, .code (sub [1, 1, 1] B101)] ⟨lfr 39 [(0, .pointer (some ⟨gx0, 0, none⟩)), (2, .pointer (some ⟨gx2, 0, none⟩)), (3, .int .u8 x3), (11, .bool x11)] junk, []⟩ w1 (Done Try.prog 101 (Rets (Post.syntax_parser_item nz wz S0 w0 Lr gx0 r)))

theorem W.syntax_parser_item_l0 (nz : Nat) (wz : World) (S0 : Fz) (w0 : World) (Lr : List Ent) (gx0 : Nat) : ∀ a r, M.syntax_parser_item_l0 a = some r → L.syntax_parser_item_l0 nz wz S0 w0 Lr gx0 a r := by
  intro ⟨x2v, x3, x11, e0v⟩ r h S1 w1 hx gx2 ve0v_3 p1 lx2v_0 fe0v_3 junk
  rw [M.syntax_parser_item_l0] at h
  try dsimp only at h
  refine ite_some h (fun h16 h => ?_) (fun h16 h => ?_)
  · rw [h16]
    refine Goes.runs 7 [(23, .pointer (some ⟨gx0, 0, none⟩)), (24, .pointer (some ⟨gx0, 0, none⟩)), (25, .pointer (some ⟨gx0, 0, none⟩)), (26, .pointer (some ⟨gx0, 1, none⟩))] [.inRegion (opsOf (sub [1, 1, 0, 0, 1, 1, 1, 0, 0] B101)) [4, 5], .code (sub [1, 1, 0, 0, 1, 1, 1, 0, 1] B101), .inBlock 0, .code (sub [1, 1, 1] B101)] (by kernel_rfl) ?_
    refine Op_.ld1 3 (.tmp 26) 27 3 ⟨gx0, 1, none⟩ (.int .i64 e0v.at_) (Goes.vs (by kernel_rfl)) (by kernel_rfl) (by kernel_rfl) ((p1.mem 1 rfl).cell 1 _ rfl) ?_
    have p1 := p1.front 1 _ rfl
    refine bind_some' h fun y17 e18 h => ?_
    refine Op_.call (.call { callee := .value (.func 19), args := #[(.tmp 23), (.tmp 27)], argTypes := #[46, 3] }) 28 28 19 #[.pointer (some ⟨gx0, 0, none⟩), .int .i64 e0v.at_] (Goes.cs (by kernel_rfl)) (by kernel_rfl) (W.syntax_parser_fail e0v e0v.at_ y17 e18 nz wz S1 w1 ((some gx2, .row 136 [.int .u64 (gi x2v.set_ 0), .int .u64 (gi x2v.set_ 1), .int .u64 (gi x2v.set_ 2), .int .u64 (gi x2v.set_ 3), .int .u8 x2v.b, .bool x2v.single] 6 0) :: Lr) gx0 ve0v_3 p1 fe0v_3) ?_
    rintro _ w8 ⟨S8, Ar_8_2, nr_8_2, cr_8_2, ve0_8v_3, rfl, z8, p8, lr_8_1, fr_8_2, rfl, fe0_8v_3⟩
    refine Goes.runs 4 [(29, .agg #[.int .u64 0, .int .u64 0, .int .u64 0, .int .u64 0, .int .u8 0, .bool false])] [.inRegion (opsOf (sub [1, 1, 0, 0, 1, 1, 1, 0, 1, 0] B101)) [1], .code (sub [1, 1, 0, 0, 1, 1, 1, 0, 1, 1] B101), .inBlock 0, .code (sub [1, 1, 1] B101)] (by kernel_rfl) ?_
    refine Op_.st 136 (.tmp 2) (.tmp 29) 0 1 gx2 0 (.agg #[.int .u64 0, .int .u64 0, .int .u64 0, .int .u64 0, .int .u8 0, .bool false]) [.int .u64 0, .int .u64 0, .int .u64 0, .int .u64 0, .int .u8 0, .bool false] p8 rfl (Goes.ss (by kernel_rfl)) (by kernel_rfl) (by kernel_rfl) (by kernel_rfl) (by kernel_rfl) (Nat.zero_le _) (by simp only [List.length_cons, List.length_nil]; omega) (by simp [Value.oneCell']) ?_
    intro w9 z9 p9
    refine Goes.runs 1 [] [.code (sub [1, 1, 0, 0, 1, 1, 1, 0, 1, 1] B101), .inBlock 0, .code (sub [1, 1, 1] B101)] (by kernel_rfl) ?_
    obtain rfl := Option.some.inj h
    have p9 := p9.front 0 _ rfl
    have p9 := p9.front 1 _ rfl
    exact Goes.ret (fn := Try.f101) (by kernel_rfl) (v := .agg #[.int .u64 0, .int .u64 0, .int .u64 0, .int .u64 0, .int .u8 0, .bool false]) (results_n1 (fn := Try.f101) (a := .cell 2 136) (by kernel_rfl) (resV_cell ⟨gx2, 0, none⟩ (by kernel_rfl) (run_loadN [.int .u64 0, .int .u64 0, .int .u64 0, .int .u64 0, .int .u8 0, .bool false] (by kernel_rfl) (by kernel_rfl) (At_part (us := []) (vs := [.int .u64 0, .int .u64 0, .int .u64 0, .int .u64 0, .int .u8 0, .bool false]) (ws := []) (p9.mem 0 rfl) 0 rfl)))) ⟨S8, ve0_8v_3, rfl, ((hx.trans z8).trans z9), p9.drop, rfl, (fe0_8v_3.ext z9)⟩
  · have h16' : x11 = false := by simpa using h16
    rw [h16']
    refine Goes.runs 8 [(30, .pointer (some ⟨gx0, 0, none⟩)), (31, .pointer (some ⟨gx0, 0, none⟩)), (32, .pointer (some ⟨gx0, 1, none⟩))] [.inRegion (opsOf (sub [1, 1, 1, 0] B101)) [3, 4, 5, 6, 7], .code (sub [1, 1, 1, 1] B101)] (by kernel_rfl) ?_
    refine Op_.ld1 3 (.tmp 32) 33 3 ⟨gx0, 1, none⟩ (.int .i64 e0v.at_) (Goes.vs (by kernel_rfl)) (by kernel_rfl) (by kernel_rfl) ((p1.mem 1 rfl).cell 1 _ rfl) ?_
    refine Goes.runs 3 [(34, .int .i64 (wr .i64 (e0v.at_ + 1))), (35, .pointer (some ⟨gx0, 0, none⟩)), (36, .pointer (some ⟨gx0, 1, none⟩))] [.inRegion (opsOf (sub [1, 1, 1, 0] B101)) [7], .code (sub [1, 1, 1, 1] B101)] (by kernel_rfl) ?_
    refine Op_.st 3 (.tmp 36) (.tmp 34) 0 1 gx0 1 (.int .i64 (wr .i64 (e0v.at_ + 1))) [.int .i64 (wr .i64 (e0v.at_ + 1))] p1 rfl (Goes.ss (by kernel_rfl)) (by kernel_rfl) (by kernel_rfl) (by kernel_rfl) (by kernel_rfl) (Nat.zero_le _) (by simp only [List.length_cons, List.length_nil]; omega) (by simp [Value.oneCell']) ?_
    intro w10 z10 p10
    refine Goes.runs 4 [(37, .int .u8 x3)] [.inRegion (opsOf (sub [1, 1, 1, 1, 0] B101)) [1, 2], .code (sub [1, 1, 1, 1, 1] B101)] (by kernel_rfl) ?_
    refine bind_some' h fun y19 e20 h => ?_
    refine Op_.call (.call { callee := .value (.func 95), args := #[(.tmp 37)], argTypes := #[5] }) 38 136 95 #[.int .u8 x3] (Goes.cs (by kernel_rfl)) (by kernel_rfl) (W.syntax_of x3 y19 e20 nz wz S1 w10 ((some gx2, .row 136 [.int .u64 (gi x2v.set_ 0), .int .u64 (gi x2v.set_ 1), .int .u64 (gi x2v.set_ 2), .int .u64 (gi x2v.set_ 3), .int .u8 x2v.b, .bool x2v.single] 6 0) :: (some gx0, .row 49 [.string e0v.s, .int .i64 (wr .i64 (e0v.at_ + 1)), .int .i64 e0v.deep, ve0v_3] 4 0) :: Lr)  p10 ) ?_
    rintro _ w11 ⟨S11, rfl, z11, p11, lr_11_0⟩
    refine Op_.st 136 (.tmp 2) (.tmp 38) 0 0 gx2 0 (.agg #[.int .u64 (gi y19.set_ 0), .int .u64 (gi y19.set_ 1), .int .u64 (gi y19.set_ 2), .int .u64 (gi y19.set_ 3), .int .u8 y19.b, .bool y19.single]) [.int .u64 (gi y19.set_ 0), .int .u64 (gi y19.set_ 1), .int .u64 (gi y19.set_ 2), .int .u64 (gi y19.set_ 3), .int .u8 y19.b, .bool y19.single] p11 rfl (Goes.ss (by kernel_rfl)) (by kernel_rfl) (by kernel_rfl) (by kernel_rfl) (by kernel_rfl) (Nat.zero_le _) (by simp only [List.length_cons, List.length_nil]; omega) (by simp [Value.oneCell']) ?_
    intro w12 z12 p12
    refine Goes.runs 1 [] [.code (sub [1, 1, 1, 1, 1] B101)] (by kernel_rfl) ?_
    obtain rfl := Option.some.inj h
    exact Goes.ret (fn := Try.f101) (by kernel_rfl) (v := .agg #[.int .u64 (gi y19.set_ 0), .int .u64 (gi y19.set_ 1), .int .u64 (gi y19.set_ 2), .int .u64 (gi y19.set_ 3), .int .u8 y19.b, .bool y19.single]) (results_n1 (fn := Try.f101) (a := .cell 2 136) (by kernel_rfl) (resV_cell ⟨gx2, 0, none⟩ (by kernel_rfl) (run_loadN [.int .u64 (gi y19.set_ 0), .int .u64 (gi y19.set_ 1), .int .u64 (gi y19.set_ 2), .int .u64 (gi y19.set_ 3), .int .u8 y19.b, .bool y19.single] (by kernel_rfl) (by kernel_rfl) (At_part (us := []) (vs := [.int .u64 (gi y19.set_ 0), .int .u64 (gi y19.set_ 1), .int .u64 (gi y19.set_ 2), .int .u64 (gi y19.set_ 3), .int .u8 y19.b, .bool y19.single]) (ws := []) (p12.mem 0 rfl) 0 rfl)))) ⟨S11, ve0v_3, rfl, (((hx.trans z10).trans z11).trans z12), p12.drop, lr_11_0, (fe0v_3.ext ((z10.trans z11).trans z12))⟩

/-! (*tidepole/syntax.parser).item -/
theorem W.syntax_parser_item (x0v : T48) (r : T135 × T48) (h : M.syntax_parser_item x0v = some r) (nz : Nat) (wz : World) (S0 : Fz) (w0 : World) (Lr : List Ent) (gx0 : Nat) (vx0v_3 : Value) (p0 : Hp nz wz S0 w0 ((some gx0, .row 49 [.string x0v.s, .int .i64 x0v.at_, .int .i64 x0v.deep, vx0v_3] 4 0) :: Lr)) (fx0v_3 : PtO kT52 S0 w0 vx0v_3 x0v.bad) :
    Calls Try.prog 101 #[.pointer (some ⟨gx0, 0, none⟩)] w0 (Rets (Post.syntax_parser_item nz wz S0 w0 Lr gx0 r)) := by
  refine calls_of_goes (fn := Try.f101) (c := B101) (by kernel_rfl) (by kernel_rfl) 38 (by kernel_rfl) ?_
  refine Goes.jump 39 [(0, .pointer (some ⟨gx0, 0, none⟩))] (by kernel_rfl) (fun junk => ?_)
  delta M.syntax_parser_item at h
  refine Goes.runs 2 [] [.inRegion (opsOf (sub [0] B101)) [0], .code (sub [1] B101)] (by kernel_rfl) ?_
  refine Op_.alloc 136 2 0 (.agg #[.int .u64 0, .int .u64 0, .int .u64 0, .int .u64 0, .int .u8 0, .bool false]) [.int .u64 0, .int .u64 0, .int .u64 0, .int .u64 0, .int .u8 0, .bool false] p0 (Goes.vs (by kernel_rfl)) (by kernel_rfl) (by kernel_rfl) ?_
  intro b2 w2 z2 p2
  refine Goes.runs 4 [(4, .pointer (some ⟨gx0, 0, none⟩))] [.inRegion (opsOf (sub [1, 0] B101)) [1, 2], .code (sub [1, 1] B101)] (by kernel_rfl) ?_
  have p2 := p2.front 1 _ rfl
  refine bind_some' h fun y4 e5 h => ?_
  refine Op_.call (.call { callee := .value (.func 54), args := #[(.tmp 4)], argTypes := #[46] }) 5 5 54 #[.pointer (some ⟨gx0, 0, none⟩)] (Goes.cs (by kernel_rfl)) (by kernel_rfl) (W.syntax_parser_peek x0v y4 e5 nz wz S0 w2 ((some b2, .row 136 [.int .u64 0, .int .u64 0, .int .u64 0, .int .u64 0, .int .u8 0, .bool false] 6 0) :: Lr) gx0 vx0v_3 p2 (fx0v_3.ext z2)) ?_
  rintro _ w3 ⟨S3, ve0_3v_3, rfl, z3, p3, fe0_3v_3⟩
  refine Goes.runs 7 [(3, .int .u8 y4.1), (7, .pointer (some ⟨gx0, 0, none⟩))] [.inRegion (opsOf (sub [1, 1, 0, 0, 0] B101)) [1, 2], .code (sub [1, 1, 0, 0, 1] B101), .inBlock 0, .code (sub [1, 1, 1] B101)] (by kernel_rfl) ?_
  refine bind_some' h fun y6 e7 h => ?_
  refine Op_.call (.call { callee := .value (.func 35), args := #[(.tmp 7), (.const (.int .u8 92))], argTypes := #[46, 5] }) 8 4 35 #[.pointer (some ⟨gx0, 0, none⟩), .int .u8 92] (Goes.cs (by kernel_rfl)) (by kernel_rfl) (W.syntax_parser_take y4.2 92 y6 e7 nz wz S3 w3 ((some b2, .row 136 [.int .u64 0, .int .u64 0, .int .u64 0, .int .u64 0, .int .u8 0, .bool false] 6 0) :: Lr) gx0 ve0_3v_3 p3 fe0_3v_3) ?_
  rintro _ w4 ⟨S4, ve0_4v_3, rfl, z4, p4, fe0_4v_3⟩
  refine Goes.runs 2 [(6, .bool y6.1)] [.code (sub [1, 1, 0, 0, 1] B101), .inBlock 0, .code (sub [1, 1, 1] B101)] (by kernel_rfl) ?_
  refine ite_some h (fun h8 h => ?_) (fun h8 h => ?_)
  · rw [h8]
    refine Goes.runs 4 [(9, .pointer (some ⟨gx0, 0, none⟩))] [.inRegion (opsOf (sub [1, 1, 0, 0, 1, 0, 0] B101)) [1, 2], .code (sub [1, 1, 0, 0, 1, 0, 1] B101), .inBlock 0, .code (sub [1, 1, 1] B101)] (by kernel_rfl) ?_
    refine bind_some' h fun y9 e10 h => ?_
    refine Op_.call (.call { callee := .value (.func 85), args := #[(.tmp 9)], argTypes := #[46] }) 10 136 85 #[.pointer (some ⟨gx0, 0, none⟩)] (Goes.cs (by kernel_rfl)) (by kernel_rfl) (W.syntax_parser_escape y6.2 y9 e10 nz wz S4 w4 ((some b2, .row 136 [.int .u64 0, .int .u64 0, .int .u64 0, .int .u64 0, .int .u8 0, .bool false] 6 0) :: Lr) gx0 ve0_4v_3 p4 fe0_4v_3) ?_
    rintro _ w5 ⟨S5, ve0_5v_3, rfl, z5, p5, lr_5_0, fe0_5v_3⟩
    refine Op_.st 136 (.tmp 2) (.tmp 10) 0 1 b2 0 (.agg #[.int .u64 (gi y9.1.set_ 0), .int .u64 (gi y9.1.set_ 1), .int .u64 (gi y9.1.set_ 2), .int .u64 (gi y9.1.set_ 3), .int .u8 y9.1.b, .bool y9.1.single]) [.int .u64 (gi y9.1.set_ 0), .int .u64 (gi y9.1.set_ 1), .int .u64 (gi y9.1.set_ 2), .int .u64 (gi y9.1.set_ 3), .int .u8 y9.1.b, .bool y9.1.single] p5 rfl (Goes.ss (by kernel_rfl)) (by kernel_rfl) (by kernel_rfl) (by kernel_rfl) (by kernel_rfl) (Nat.zero_le _) (by simp only [List.length_cons, List.length_nil]; omega) (by simp [Value.oneCell']) ?_
    intro w6 z6 p6
    refine Goes.runs 1 [] [.code (sub [1, 1, 0, 0, 1, 0, 1] B101), .inBlock 0, .code (sub [1, 1, 1] B101)] (by kernel_rfl) ?_
    obtain rfl := Option.some.inj h
    have p6 := p6.front 0 _ rfl
    have p6 := p6.front 1 _ rfl
    exact Goes.ret (fn := Try.f101) (by kernel_rfl) (v := .agg #[.int .u64 (gi y9.1.set_ 0), .int .u64 (gi y9.1.set_ 1), .int .u64 (gi y9.1.set_ 2), .int .u64 (gi y9.1.set_ 3), .int .u8 y9.1.b, .bool y9.1.single]) (results_n1 (fn := Try.f101) (a := .cell 2 136) (by kernel_rfl) (resV_cell ⟨b2, 0, none⟩ (by kernel_rfl) (run_loadN [.int .u64 (gi y9.1.set_ 0), .int .u64 (gi y9.1.set_ 1), .int .u64 (gi y9.1.set_ 2), .int .u64 (gi y9.1.set_ 3), .int .u8 y9.1.b, .bool y9.1.single] (by kernel_rfl) (by kernel_rfl) (At_part (us := []) (vs := [.int .u64 (gi y9.1.set_ 0), .int .u64 (gi y9.1.set_ 1), .int .u64 (gi y9.1.set_ 2), .int .u64 (gi y9.1.set_ 3), .int .u8 y9.1.b, .bool y9.1.single]) (ws := []) (p6.mem 0 rfl) 0 rfl)))) ⟨S5, ve0_5v_3, rfl, ((((((Ext.refl S0 w0).trans z2).trans z3).trans z4).trans z5).trans z6), p6.drop, lr_5_0, (fe0_5v_3.ext z6)⟩
  · have h8' : y6.1 = false := by simpa using h8
    rw [h8']
    refine Goes.runs 6 [(12, .int .u8 y4.1), (13, .bool (decide (y4.1 < 32))), (14, .bool (decide (y4.1 < 32)))] [.inRegion (opsOf (sub [1, 1, 0, 0, 1, 1, 0] B101)) [3, 4, 5, 6, 7, 8, 9, 10, 11], .code (sub [1, 1, 0, 0, 1, 1, 1] B101), .inBlock 0, .code (sub [1, 1, 1] B101)] (by kernel_rfl) ?_
    refine ite_some h (fun h11 h => ?_) (fun h11 h => ?_)
    · rw [decide_eq_true h11]
      refine Goes.runs 10 [(15, undef), (16, undef), (17, .bool true), (18, .bool true), (19, undef), (20, undef), (21, undef), (22, .bool true), (11, .bool true)] [.code (sub [1, 1, 0, 0, 1, 1, 1] B101), .inBlock 0, .code (sub [1, 1, 1] B101)] (by kernel_rfl) ?_
      have p4 := p4.front 0 _ rfl
      have p4 := p4.front 1 _ rfl
      exact Goes.jump 39 [(0, .pointer (some ⟨gx0, 0, none⟩)), (2, .pointer (some ⟨b2, 0, none⟩)), (3, .int .u8 y4.1), (11, .bool true)] (by kernel_rfl) (W.syntax_parser_item_l0 nz wz S0 w0 Lr gx0 _ _ h _ _ ((((Ext.refl S0 w0).trans z2).trans z3).trans z4) b2 ve0_4v_3 p4 rfl fe0_4v_3)
    · rw [decide_eq_false h11]
      refine Goes.runs 4 [(15, .int .u8 y4.1), (16, .bool (decide (y4.1 > 126))), (17, .bool (decide (y4.1 > 126))), (18, .bool (decide (y4.1 > 126)))] [.inRegion (opsOf (sub [1, 1, 0, 0, 1, 1, 0] B101)) [7, 8, 9, 10, 11], .code (sub [1, 1, 0, 0, 1, 1, 1] B101), .inBlock 0, .code (sub [1, 1, 1] B101)] (by kernel_rfl) ?_
      refine ite_some h (fun h13 h => ?_) (fun h13 h => ?_)
      · rw [decide_eq_true h13]
        refine Goes.runs 6 [(19, undef), (20, undef), (21, undef), (22, .bool true), (11, .bool true)] [.code (sub [1, 1, 0, 0, 1, 1, 1] B101), .inBlock 0, .code (sub [1, 1, 1] B101)] (by kernel_rfl) ?_
        have p4 := p4.front 0 _ rfl
        have p4 := p4.front 1 _ rfl
        exact Goes.jump 39 [(0, .pointer (some ⟨gx0, 0, none⟩)), (2, .pointer (some ⟨b2, 0, none⟩)), (3, .int .u8 y4.1), (11, .bool true)] (by kernel_rfl) (W.syntax_parser_item_l0 nz wz S0 w0 Lr gx0 _ _ h _ _ ((((Ext.refl S0 w0).trans z2).trans z3).trans z4) b2 ve0_4v_3 p4 rfl fe0_4v_3)
      · rw [decide_eq_false h13]
        refine Goes.runs 1 [(19, .int .u8 y4.1)] [.inRegion (opsOf (sub [1, 1, 0, 0, 1, 1, 0] B101)) [8, 9, 10, 11], .code (sub [1, 1, 0, 0, 1, 1, 1] B101), .inBlock 0, .code (sub [1, 1, 1] B101)] (by kernel_rfl) ?_
        refine bind_some' h fun y14 e15 h => ?_
        refine Op_.call (.call { callee := .value (.func 52), args := #[(.const (.string ⟨#[93, 91, 45]⟩)), (.tmp 19)], argTypes := #[9, 5] }) 20 3 52 #[.string (⟨#[93, 91, 45]⟩ : ByteArray), .int .u8 y4.1] (Goes.cs (by kernel_rfl)) (by kernel_rfl) (W.strings_IndexByte (⟨#[93, 91, 45]⟩ : ByteArray) y4.1 y14 e15 nz wz S4 w4 ((some gx0, .row 49 [.string y6.2.s, .int .i64 y6.2.at_, .int .i64 y6.2.deep, ve0_4v_3] 4 0) :: (some b2, .row 136 [.int .u64 0, .int .u64 0, .int .u64 0, .int .u64 0, .int .u8 0, .bool false] 6 0) :: Lr)  p4 ) ?_
        rintro _ w7 ⟨S7, rfl, z7, p7⟩
        refine Goes.runs 4 [(21, .bool (decide (y14 ≥ 0))), (22, .bool (decide (y14 ≥ 0))), (11, .bool (decide (y14 ≥ 0)))] [.code (sub [1, 1, 0, 0, 1, 1, 1] B101), .inBlock 0, .code (sub [1, 1, 1] B101)] (by kernel_rfl) ?_
        have p7 := p7.front 0 _ rfl
        have p7 := p7.front 1 _ rfl
        exact Goes.jump 39 [(0, .pointer (some ⟨gx0, 0, none⟩)), (2, .pointer (some ⟨b2, 0, none⟩)), (3, .int .u8 y4.1), (11, .bool (decide (y14 ≥ 0)))] (by kernel_rfl) (W.syntax_parser_item_l0 nz wz S0 w0 Lr gx0 _ _ h _ _ (((((Ext.refl S0 w0).trans z2).trans z3).trans z4).trans z7) b2 ve0_4v_3 p7 rfl (fe0_4v_3.ext z7))

/-! (*tidepole/syntax.parser).pair -/
def Post.syntax_parser_pair (nz : Nat) (wz : World) (S0 : Fz) (w0 : World) (Lr : List Ent) (gx0 : Nat) (r : (List Int) × T48) (v : Value) (w' : World) : Prop :=
  ∃ (S' : Fz) (vsq : List Value) (ve0v_3 : Value), v = .agg vsq.toArray ∧ Ext S0 w0 S' w' ∧ Hp nz wz S' w' ((some gx0, .row 49 [.string r.2.s, .int .i64 r.2.at_, .int .i64 r.2.deep, ve0v_3] 4 0) :: Lr) ∧ Els (kInt .u64) S' w' vsq r.1 ∧ vsq.length = 4 ∧ PtO kT52 S' w' ve0v_3 r.2.bad

def L.syntax_parser_pair_l0 (nz : Nat) (wz : World) (S0 : Fz) (w0 : World) (Lr : List Ent) (gx0 : Nat) : (List Int) × Int × T135 × Int × T135 × Bool × T48 → ((List Int) × T48) → Prop := fun ⟨x2v_0, x3, x4v, x5, x6v, x47, e0v⟩ r => ∀ S1 w1, Ext S0 w0 S1 w1 → ∀ (gx2 : Nat) (gx4 : Nat) (gx6 : Nat) (ve0v_3 : Value) (_ : Hp nz wz S1 w1 ((some gx2, .row 25 [.int .u64 (gi x2v_0 0), .int .u64 (gi x2v_0 1), .int .u64 (gi x2v_0 2), .int .u64 (gi x2v_0 3)] 4 0) :: (some gx4, .row 136 [.int .u64 (gi x4v.set_ 0), .int .u64 (gi x4v.set_ 1), .int .u64 (gi x4v.set_ 2), .int .u64 (gi x4v.set_ 3), .int .u8 x4v.b, .bool x4v.single] 6 0) :: (some gx6, .row 136 [.int .u64 (gi x6v.set_ 0), .int .u64 (gi x6v.set_ 1), .int .u64 (gi x6v.set_ 2), .int .u64 (gi x6v.set_ 3), .int .u8 x6v.b, .bool x6v.single] 6 0) :: (some gx0, .row 49 [.string e0v.s, .int .i64 e0v.at_, .int .i64 e0v.deep, ve0v_3] 4 0) :: Lr)) (_ : x2v_0.length = 4) (_ : x4v.set_.length = 4) (_ : x6v.set_.length = 4) (_ : PtO kT52 S1 w1 ve0v_3 e0v.bad) (junk : Nat → Value),
  Goes Try.prog (base 98) [.code (sub [1, 1, 1, 1, 1, 1, 1, 1, 0, 0, 1] B98), .inBlock 0, .code (sub [1, 1, 1, 1, 1, 1, 1, 1, 1] B98)] ⟨lfr 72 [(0, .pointer (some ⟨gx0, 0, none⟩)), (2, .pointer (some ⟨gx2, 0, none⟩)), (3, .int .i64 x3), (4, .pointer (some ⟨gx4, 0, none⟩)), (5, .int .i64 x5), (6, .pointer (some ⟨gx6, 0, none⟩)), (47, .bool x47)] junk, []⟩ w1 (Done Try.prog 98 (Rets (Post.syntax_parser_pair nz wz S0 w0 Lr gx0 r)))

theorem W.syntax_parser_pair_l0 (nz : Nat) (wz : World) (S0 : Fz) (w0 : World) (Lr : List Ent) (gx0 : Nat) : ∀ a r, M.syntax_parser_pair_l0 a = some r → L.syntax_parser_pair_l0 nz wz S0 w0 Lr gx0 a r := by
  intro ⟨x2v_0, x3, x4v, x5, x6v, x47, e0v⟩ r h S1 w1 hx gx2 gx4 gx6 ve0v_3 p1 lx2v_0 lx4v_0 lx6v_0 fe0v_3 junk
  rw [M.syntax_parser_pair_l0] at h
  try dsimp only at h
  refine ite_some h (fun h28 h => ?_) (fun h28 h => ?_)
  · rw [h28]
    refine Goes.runs 6 [(70, .pointer (some ⟨gx4, 0, none⟩))] [.inRegion (opsOf (sub [1, 1, 1, 1, 1, 1, 1, 1, 1, 0] B98)) [1, 2], .code (sub [1, 1, 1, 1, 1, 1, 1, 1, 1, 1] B98)] (by kernel_rfl) ?_
    refine Op_.ldN 25 (.tmp 70) 71 25 ⟨gx4, 0, none⟩ [.int .u64 (gi x4v.set_ 0), .int .u64 (gi x4v.set_ 1), .int .u64 (gi x4v.set_ 2), .int .u64 (gi x4v.set_ 3)] (Goes.vs (by kernel_rfl)) (by kernel_rfl) (by kernel_rfl) (by kernel_rfl) (At_part (us := []) (vs := [.int .u64 (gi x4v.set_ 0), .int .u64 (gi x4v.set_ 1), .int .u64 (gi x4v.set_ 2), .int .u64 (gi x4v.set_ 3)]) (ws := [.int .u8 x4v.b, .bool x4v.single]) (p1.mem 1 rfl) 0 rfl) ?_
    refine Op_.st 25 (.tmp 2) (.tmp 71) 0 0 gx2 0 (.agg #[.int .u64 (gi x4v.set_ 0), .int .u64 (gi x4v.set_ 1), .int .u64 (gi x4v.set_ 2), .int .u64 (gi x4v.set_ 3)]) [.int .u64 (gi x4v.set_ 0), .int .u64 (gi x4v.set_ 1), .int .u64 (gi x4v.set_ 2), .int .u64 (gi x4v.set_ 3)] p1 rfl (Goes.ss (by kernel_rfl)) (by kernel_rfl) (by kernel_rfl) (by kernel_rfl) (by kernel_rfl) (Nat.zero_le _) (by simp only [List.length_cons, List.length_nil]; omega) (by simp [Value.oneCell']) ?_
    intro w14 z14 p14
    refine Goes.runs 1 [] [.code (sub [1, 1, 1, 1, 1, 1, 1, 1, 1, 1] B98)] (by kernel_rfl) ?_
    obtain rfl := Option.some.inj h
    have p14 := (p14.front 1 _ rfl).drop
    have p14 := (p14.front 1 _ rfl).drop
    exact Goes.ret (fn := Try.f98) (by kernel_rfl) (v := .agg #[.int .u64 (gi x4v.set_ 0), .int .u64 (gi x4v.set_ 1), .int .u64 (gi x4v.set_ 2), .int .u64 (gi x4v.set_ 3)]) (results_n1 (fn := Try.f98) (a := .cell 2 25) (by kernel_rfl) (resV_cell ⟨gx2, 0, none⟩ (by kernel_rfl) (run_loadN [.int .u64 (gi x4v.set_ 0), .int .u64 (gi x4v.set_ 1), .int .u64 (gi x4v.set_ 2), .int .u64 (gi x4v.set_ 3)] (by kernel_rfl) (by kernel_rfl) (At_part (us := []) (vs := [.int .u64 (gi x4v.set_ 0), .int .u64 (gi x4v.set_ 1), .int .u64 (gi x4v.set_ 2), .int .u64 (gi x4v.set_ 3)]) (ws := []) (p14.mem 0 rfl) 0 rfl)))) ⟨S1, ([.int .u64 (gi x4v.set_ 0), .int .u64 (gi x4v.set_ 1), .int .u64 (gi x4v.set_ 2), .int .u64 (gi x4v.set_ 3)] : List Value), ve0v_3, rfl, (hx.trans z14), p14.drop, (els_mk4 (S := S1) (w := w14) (k := .u64) lx4v_0), rfl, (fe0v_3.ext z14)⟩
  · have h28' : x47 = false := by simpa using h28
    rw [h28']
    refine Goes.runs 4 [(54, .pointer (some ⟨gx6, 5, none⟩))] [.inRegion (opsOf (sub [1, 1, 1, 1, 1, 1, 1, 1, 0, 0, 1, 1, 0] B98)) [1, 2, 3], .code (sub [1, 1, 1, 1, 1, 1, 1, 1, 0, 0, 1, 1, 1] B98), .inBlock 0, .code (sub [1, 1, 1, 1, 1, 1, 1, 1, 1] B98)] (by kernel_rfl) ?_
    refine Op_.ld1 4 (.tmp 54) 55 4 ⟨gx6, 5, none⟩ (.bool x6v.single) (Goes.vs (by kernel_rfl)) (by kernel_rfl) (by kernel_rfl) ((p1.mem 2 rfl).cell 5 _ rfl) ?_
    refine Goes.runs 3 [(56, .bool (!x6v.single)), (53, .bool (!x6v.single))] [.code (sub [1, 1, 1, 1, 1, 1, 1, 1, 0, 0, 1, 1, 1] B98), .inBlock 0, .code (sub [1, 1, 1, 1, 1, 1, 1, 1, 1] B98)] (by kernel_rfl) ?_
    refine ite_some h (fun h29 h => ?_) (fun h29 h => ?_)
    · rw [h29]
      have p1 : Hp nz wz S1 w1 ((some gx2, .row 25 [.int .u64 (gi x2v_0 0), .int .u64 (gi x2v_0 1), .int .u64 (gi x2v_0 2), .int .u64 (gi x2v_0 3)] 4 0) :: (some gx4, .row 136 [.int .u64 (gi x4v.set_ 0), .int .u64 (gi x4v.set_ 1), .int .u64 (gi x4v.set_ 2), .int .u64 (gi x4v.set_ 3), .int .u8 x4v.b, .bool x4v.single] 6 0) :: (some gx6, .row 136 [.int .u64 (gi x6v.set_ 0), .int .u64 (gi x6v.set_ 1), .int .u64 (gi x6v.set_ 2), .int .u64 (gi x6v.set_ 3), .int .u8 x6v.b, .bool true] 6 0) :: (some gx0, .row 49 [.string e0v.s, .int .i64 e0v.at_, .int .i64 e0v.deep, ve0v_3] 4 0) :: Lr) := by simpa only [h29] using p1
      refine Goes.runs 4 [(62, .pointer (some ⟨gx4, 4, none⟩))] [.inRegion (opsOf (sub [1, 1, 1, 1, 1, 1, 1, 1, 0, 0, 1, 1, 1, 1, 0] B98)) [1, 2, 3, 4, 5], .code (sub [1, 1, 1, 1, 1, 1, 1, 1, 0, 0, 1, 1, 1, 1, 1] B98), .inBlock 0, .code (sub [1, 1, 1, 1, 1, 1, 1, 1, 1] B98)] (by kernel_rfl) ?_
      refine Op_.ld1 5 (.tmp 62) 63 5 ⟨gx4, 4, none⟩ (.int .u8 x4v.b) (Goes.vs (by kernel_rfl)) (by kernel_rfl) (by kernel_rfl) ((p1.mem 1 rfl).cell 4 _ rfl) ?_
      refine Goes.runs 1 [(64, .pointer (some ⟨gx6, 4, none⟩))] [.inRegion (opsOf (sub [1, 1, 1, 1, 1, 1, 1, 1, 0, 0, 1, 1, 1, 1, 0] B98)) [3, 4, 5], .code (sub [1, 1, 1, 1, 1, 1, 1, 1, 0, 0, 1, 1, 1, 1, 1] B98), .inBlock 0, .code (sub [1, 1, 1, 1, 1, 1, 1, 1, 1] B98)] (by kernel_rfl) ?_
      refine Op_.ld1 5 (.tmp 64) 65 5 ⟨gx6, 4, none⟩ (.int .u8 x6v.b) (Goes.vs (by kernel_rfl)) (by kernel_rfl) (by kernel_rfl) ((p1.mem 2 rfl).cell 4 _ rfl) ?_
      refine Goes.runs 3 [(66, .bool (decide (x4v.b > x6v.b))), (61, .bool (decide (x4v.b > x6v.b)))] [.code (sub [1, 1, 1, 1, 1, 1, 1, 1, 0, 0, 1, 1, 1, 1, 1] B98), .inBlock 0, .code (sub [1, 1, 1, 1, 1, 1, 1, 1, 1] B98)] (by kernel_rfl) ?_
      refine ite_some h (fun h30 h => ?_) (fun h30 h => ?_)
      · rw [decide_eq_true h30]
        refine Goes.runs 4 [(67, .pointer (some ⟨gx0, 0, none⟩)), (68, .int .i64 x3)] [.inRegion (opsOf (sub [1, 1, 1, 1, 1, 1, 1, 1, 0, 0, 1, 1, 1, 1, 1, 0] B98)) [2], .inBlock 0, .code (sub [1, 1, 1, 1, 1, 1, 1, 1, 1] B98)] (by kernel_rfl) ?_
        have p1 := p1.front 3 _ rfl
        refine bind_some' h fun y31 e32 h => ?_
        refine Op_.call (.call { callee := .value (.func 19), args := #[(.tmp 67), (.tmp 68)], argTypes := #[46, 3] }) 69 28 19 #[.pointer (some ⟨gx0, 0, none⟩), .int .i64 x3] (Goes.cs (by kernel_rfl)) (by kernel_rfl) (W.syntax_parser_fail e0v x3 y31 e32 nz wz S1 w1 ((some gx2, .row 25 [.int .u64 (gi x2v_0 0), .int .u64 (gi x2v_0 1), .int .u64 (gi x2v_0 2), .int .u64 (gi x2v_0 3)] 4 0) :: (some gx4, .row 136 [.int .u64 (gi x4v.set_ 0), .int .u64 (gi x4v.set_ 1), .int .u64 (gi x4v.set_ 2), .int .u64 (gi x4v.set_ 3), .int .u8 x4v.b, .bool x4v.single] 6 0) :: (some gx6, .row 136 [.int .u64 (gi x6v.set_ 0), .int .u64 (gi x6v.set_ 1), .int .u64 (gi x6v.set_ 2), .int .u64 (gi x6v.set_ 3), .int .u8 x6v.b, .bool true] 6 0) :: Lr) gx0 ve0v_3 p1 fe0v_3) ?_
        rintro _ w15 ⟨S15, Ar_15_2, nr_15_2, cr_15_2, ve0_15v_3, rfl, z15, p15, lr_15_1, fr_15_2, rfl, fe0_15v_3⟩
        have p15 := (p15.front 3 _ rfl).drop
        refine Goes.runs 5 [(70, .pointer (some ⟨gx4, 0, none⟩))] [.inRegion (opsOf (sub [1, 1, 1, 1, 1, 1, 1, 1, 1, 0] B98)) [1, 2], .code (sub [1, 1, 1, 1, 1, 1, 1, 1, 1, 1] B98)] (by kernel_rfl) ?_
        refine Op_.ldN 25 (.tmp 70) 71 25 ⟨gx4, 0, none⟩ [.int .u64 (gi x4v.set_ 0), .int .u64 (gi x4v.set_ 1), .int .u64 (gi x4v.set_ 2), .int .u64 (gi x4v.set_ 3)] (Goes.vs (by kernel_rfl)) (by kernel_rfl) (by kernel_rfl) (by kernel_rfl) (At_part (us := []) (vs := [.int .u64 (gi x4v.set_ 0), .int .u64 (gi x4v.set_ 1), .int .u64 (gi x4v.set_ 2), .int .u64 (gi x4v.set_ 3)]) (ws := [.int .u8 x4v.b, .bool x4v.single]) (p15.mem 2 rfl) 0 rfl) ?_
        refine Op_.st 25 (.tmp 2) (.tmp 71) 0 1 gx2 0 (.agg #[.int .u64 (gi x4v.set_ 0), .int .u64 (gi x4v.set_ 1), .int .u64 (gi x4v.set_ 2), .int .u64 (gi x4v.set_ 3)]) [.int .u64 (gi x4v.set_ 0), .int .u64 (gi x4v.set_ 1), .int .u64 (gi x4v.set_ 2), .int .u64 (gi x4v.set_ 3)] p15 rfl (Goes.ss (by kernel_rfl)) (by kernel_rfl) (by kernel_rfl) (by kernel_rfl) (by kernel_rfl) (Nat.zero_le _) (by simp only [List.length_cons, List.length_nil]; omega) (by simp [Value.oneCell']) ?_
        intro w16 z16 p16
        refine Goes.runs 1 [] [.code (sub [1, 1, 1, 1, 1, 1, 1, 1, 1, 1] B98)] (by kernel_rfl) ?_
        obtain rfl := Option.some.inj h
        have p16 := (p16.front 2 _ rfl).drop
        have p16 := p16.front 0 _ rfl
        have p16 := p16.front 1 _ rfl
        exact Goes.ret (fn := Try.f98) (by kernel_rfl) (v := .agg #[.int .u64 (gi x4v.set_ 0), .int .u64 (gi x4v.set_ 1), .int .u64 (gi x4v.set_ 2), .int .u64 (gi x4v.set_ 3)]) (results_n1 (fn := Try.f98) (a := .cell 2 25) (by kernel_rfl) (resV_cell ⟨gx2, 0, none⟩ (by kernel_rfl) (run_loadN [.int .u64 (gi x4v.set_ 0), .int .u64 (gi x4v.set_ 1), .int .u64 (gi x4v.set_ 2), .int .u64 (gi x4v.set_ 3)] (by kernel_rfl) (by kernel_rfl) (At_part (us := []) (vs := [.int .u64 (gi x4v.set_ 0), .int .u64 (gi x4v.set_ 1), .int .u64 (gi x4v.set_ 2), .int .u64 (gi x4v.set_ 3)]) (ws := []) (p16.mem 0 rfl) 0 rfl)))) ⟨S15, ([.int .u64 (gi x4v.set_ 0), .int .u64 (gi x4v.set_ 1), .int .u64 (gi x4v.set_ 2), .int .u64 (gi x4v.set_ 3)] : List Value), ve0_15v_3, rfl, ((hx.trans z15).trans z16), p16.drop, (els_mk4 (S := S15) (w := w16) (k := .u64) lx4v_0), rfl, (fe0_15v_3.ext z16)⟩
      · rw [decide_eq_false h30]
        refine Goes.runs 4 [(42, .pointer (some ⟨gx4, 4, none⟩))] [.inRegion (opsOf (sub [1, 1, 1, 1, 1, 1, 1, 1, 0, 0, 1, 1, 1, 1, 1, 1, 0] B98)) [1, 2, 3, 4, 5], .code (sub [1, 1, 1, 1, 1, 1, 1, 1, 0, 0, 1, 1, 1, 1, 1, 1, 1] B98), .inBlock 0, .code (sub [1, 1, 1, 1, 1, 1, 1, 1, 1] B98)] (by kernel_rfl) ?_
        refine Op_.ld1 5 (.tmp 42) 43 5 ⟨gx4, 4, none⟩ (.int .u8 x4v.b) (Goes.vs (by kernel_rfl)) (by kernel_rfl) (by kernel_rfl) ((p1.mem 1 rfl).cell 4 _ rfl) ?_
        refine Goes.runs 1 [(44, .pointer (some ⟨gx6, 4, none⟩))] [.inRegion (opsOf (sub [1, 1, 1, 1, 1, 1, 1, 1, 0, 0, 1, 1, 1, 1, 1, 1, 0] B98)) [3, 4, 5], .code (sub [1, 1, 1, 1, 1, 1, 1, 1, 0, 0, 1, 1, 1, 1, 1, 1, 1] B98), .inBlock 0, .code (sub [1, 1, 1, 1, 1, 1, 1, 1, 1] B98)] (by kernel_rfl) ?_
        refine Op_.ld1 5 (.tmp 44) 45 5 ⟨gx6, 4, none⟩ (.int .u8 x6v.b) (Goes.vs (by kernel_rfl)) (by kernel_rfl) (by kernel_rfl) ((p1.mem 2 rfl).cell 4 _ rfl) ?_
        refine bind_some' h fun y33 e34 h => ?_
        refine Op_.call (.call { callee := .value (.func 99), args := #[(.tmp 43), (.tmp 45)], argTypes := #[5, 5] }) 46 25 99 #[.int .u8 x4v.b, .int .u8 x6v.b] (Goes.cs (by kernel_rfl)) (by kernel_rfl) (W.syntax_span x4v.b x6v.b y33 e34 nz wz S1 w1 ((some gx2, .row 25 [.int .u64 (gi x2v_0 0), .int .u64 (gi x2v_0 1), .int .u64 (gi x2v_0 2), .int .u64 (gi x2v_0 3)] 4 0) :: (some gx4, .row 136 [.int .u64 (gi x4v.set_ 0), .int .u64 (gi x4v.set_ 1), .int .u64 (gi x4v.set_ 2), .int .u64 (gi x4v.set_ 3), .int .u8 x4v.b, .bool x4v.single] 6 0) :: (some gx6, .row 136 [.int .u64 (gi x6v.set_ 0), .int .u64 (gi x6v.set_ 1), .int .u64 (gi x6v.set_ 2), .int .u64 (gi x6v.set_ 3), .int .u8 x6v.b, .bool true] 6 0) :: (some gx0, .row 49 [.string e0v.s, .int .i64 e0v.at_, .int .i64 e0v.deep, ve0v_3] 4 0) :: Lr)  p1 ) ?_
        rintro _ w17 ⟨S17, vsr_17, rfl, z17, p17, fr_17, lr_17⟩
        have p17 := (p17.front 1 _ rfl).drop
        have p17 := (p17.front 1 _ rfl).drop
        have f35 : Els (kInt .u64) S17 w17 ([.int .u64 (gi x2v_0 0), .int .u64 (gi x2v_0 1), .int .u64 (gi x2v_0 2), .int .u64 (gi x2v_0 3)] : List Value) x2v_0 := (els_mk4 (k := .u64) lx2v_0)
        refine Op_.stA 25 (.tmp 2) (.tmp 46) 0 0 gx2 4 vsr_17 p17 rfl rfl (Goes.ss (by kernel_rfl)) (by kernel_rfl) (by kernel_rfl) (by kernel_rfl) lr_17 (Els.one fr_17) ?_
        intro w18 z18 p18
        refine Goes.runs 1 [] [.code (sub [1, 1, 1, 1, 1, 1, 1, 1, 0, 0, 1, 1, 1, 1, 1, 1, 1] B98), .inBlock 0, .code (sub [1, 1, 1, 1, 1, 1, 1, 1, 1] B98)] (by kernel_rfl) ?_
        obtain rfl := Option.some.inj h
        exact Goes.ret (fn := Try.f98) (by kernel_rfl) (v := .agg vsr_17.toArray) (results_n1 (fn := Try.f98) (a := .cell 2 25) (by kernel_rfl) (resV_cell ⟨gx2, 0, none⟩ (by kernel_rfl) (run_loadN vsr_17 (by kernel_rfl) (by rw [lr_17]; kernel_rfl) (At_all (p18.mem 0 rfl))))) ⟨S17, vsr_17, ve0v_3, rfl, ((hx.trans z17).trans z18), p18.drop, (fr_17.ext z18), lr_17, (fe0v_3.ext (z17.trans z18))⟩
    · have h29' : x6v.single = false := by simpa using h29
      rw [h29']
      have p1 : Hp nz wz S1 w1 ((some gx2, .row 25 [.int .u64 (gi x2v_0 0), .int .u64 (gi x2v_0 1), .int .u64 (gi x2v_0 2), .int .u64 (gi x2v_0 3)] 4 0) :: (some gx4, .row 136 [.int .u64 (gi x4v.set_ 0), .int .u64 (gi x4v.set_ 1), .int .u64 (gi x4v.set_ 2), .int .u64 (gi x4v.set_ 3), .int .u8 x4v.b, .bool x4v.single] 6 0) :: (some gx6, .row 136 [.int .u64 (gi x6v.set_ 0), .int .u64 (gi x6v.set_ 1), .int .u64 (gi x6v.set_ 2), .int .u64 (gi x6v.set_ 3), .int .u8 x6v.b, .bool false] 6 0) :: (some gx0, .row 49 [.string e0v.s, .int .i64 e0v.at_, .int .i64 e0v.deep, ve0v_3] 4 0) :: Lr) := by simpa only [h29'] using p1
      refine Goes.runs 5 [(57, .pointer (some ⟨gx0, 0, none⟩)), (58, .int .i64 x5), (59, .int .i64 (wr .i64 (x5 + 1)))] [.inRegion (opsOf (sub [1, 1, 1, 1, 1, 1, 1, 1, 0, 0, 1, 1, 1, 0] B98)) [3], .inBlock 0, .code (sub [1, 1, 1, 1, 1, 1, 1, 1, 1] B98)] (by kernel_rfl) ?_
      have p1 := p1.front 3 _ rfl
      refine bind_some' h fun y36 e37 h => ?_
      refine Op_.call (.call { callee := .value (.func 19), args := #[(.tmp 57), (.tmp 59)], argTypes := #[46, 3] }) 60 28 19 #[.pointer (some ⟨gx0, 0, none⟩), .int .i64 (wr .i64 (x5 + 1))] (Goes.cs (by kernel_rfl)) (by kernel_rfl) (W.syntax_parser_fail e0v (wr .i64 (x5 + 1)) y36 e37 nz wz S1 w1 ((some gx2, .row 25 [.int .u64 (gi x2v_0 0), .int .u64 (gi x2v_0 1), .int .u64 (gi x2v_0 2), .int .u64 (gi x2v_0 3)] 4 0) :: (some gx4, .row 136 [.int .u64 (gi x4v.set_ 0), .int .u64 (gi x4v.set_ 1), .int .u64 (gi x4v.set_ 2), .int .u64 (gi x4v.set_ 3), .int .u8 x4v.b, .bool x4v.single] 6 0) :: (some gx6, .row 136 [.int .u64 (gi x6v.set_ 0), .int .u64 (gi x6v.set_ 1), .int .u64 (gi x6v.set_ 2), .int .u64 (gi x6v.set_ 3), .int .u8 x6v.b, .bool false] 6 0) :: Lr) gx0 ve0v_3 p1 fe0v_3) ?_
      rintro _ w19 ⟨S19, Ar_19_2, nr_19_2, cr_19_2, ve0_19v_3, rfl, z19, p19, lr_19_1, fr_19_2, rfl, fe0_19v_3⟩
      have p19 := (p19.front 3 _ rfl).drop
      refine Goes.runs 5 [(70, .pointer (some ⟨gx4, 0, none⟩))] [.inRegion (opsOf (sub [1, 1, 1, 1, 1, 1, 1, 1, 1, 0] B98)) [1, 2], .code (sub [1, 1, 1, 1, 1, 1, 1, 1, 1, 1] B98)] (by kernel_rfl) ?_
      refine Op_.ldN 25 (.tmp 70) 71 25 ⟨gx4, 0, none⟩ [.int .u64 (gi x4v.set_ 0), .int .u64 (gi x4v.set_ 1), .int .u64 (gi x4v.set_ 2), .int .u64 (gi x4v.set_ 3)] (Goes.vs (by kernel_rfl)) (by kernel_rfl) (by kernel_rfl) (by kernel_rfl) (At_part (us := []) (vs := [.int .u64 (gi x4v.set_ 0), .int .u64 (gi x4v.set_ 1), .int .u64 (gi x4v.set_ 2), .int .u64 (gi x4v.set_ 3)]) (ws := [.int .u8 x4v.b, .bool x4v.single]) (p19.mem 2 rfl) 0 rfl) ?_
      refine Op_.st 25 (.tmp 2) (.tmp 71) 0 1 gx2 0 (.agg #[.int .u64 (gi x4v.set_ 0), .int .u64 (gi x4v.set_ 1), .int .u64 (gi x4v.set_ 2), .int .u64 (gi x4v.set_ 3)]) [.int .u64 (gi x4v.set_ 0), .int .u64 (gi x4v.set_ 1), .int .u64 (gi x4v.set_ 2), .int .u64 (gi x4v.set_ 3)] p19 rfl (Goes.ss (by kernel_rfl)) (by kernel_rfl) (by kernel_rfl) (by kernel_rfl) (by kernel_rfl) (Nat.zero_le _) (by simp only [List.length_cons, List.length_nil]; omega) (by simp [Value.oneCell']) ?_
      intro w20 z20 p20
      refine Goes.runs 1 [] [.code (sub [1, 1, 1, 1, 1, 1, 1, 1, 1, 1] B98)] (by kernel_rfl) ?_
      obtain rfl := Option.some.inj h
      have p20 := (p20.front 2 _ rfl).drop
      have p20 := p20.front 0 _ rfl
      have p20 := p20.front 1 _ rfl
      exact Goes.ret (fn := Try.f98) (by kernel_rfl) (v := .agg #[.int .u64 (gi x4v.set_ 0), .int .u64 (gi x4v.set_ 1), .int .u64 (gi x4v.set_ 2), .int .u64 (gi x4v.set_ 3)]) (results_n1 (fn := Try.f98) (a := .cell 2 25) (by kernel_rfl) (resV_cell ⟨gx2, 0, none⟩ (by kernel_rfl) (run_loadN [.int .u64 (gi x4v.set_ 0), .int .u64 (gi x4v.set_ 1), .int .u64 (gi x4v.set_ 2), .int .u64 (gi x4v.set_ 3)] (by kernel_rfl) (by kernel_rfl) (At_part (us := []) (vs := [.int .u64 (gi x4v.set_ 0), .int .u64 (gi x4v.set_ 1), .int .u64 (gi x4v.set_ 2), .int .u64 (gi x4v.set_ 3)]) (ws := []) (p20.mem 0 rfl) 0 rfl)))) ⟨S19, ([.int .u64 (gi x4v.set_ 0), .int .u64 (gi x4v.set_ 1), .int .u64 (gi x4v.set_ 2), .int .u64 (gi x4v.set_ 3)] : List Value), ve0_19v_3, rfl, ((hx.trans z19).trans z20), p20.drop, (els_mk4 (S := S19) (w := w20) (k := .u64) lx4v_0), rfl, (fe0_19v_3.ext z20)⟩

end Go.Gx
