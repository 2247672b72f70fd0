import Derived.Test.YtemokppdnkiejaaWSynb

set_option linter.unusedVariables false

set_option maxRecDepth 100000

set_option maxHeartbeats 4000000

namespace Go.Gx

open Go.RowKit Go.Proofs

/-! (*tidepole/syntax.parser).alternation, (*tidepole/syntax.parser).atom, (*tidepole/syntax.parser).group, (*tidepole/syntax.parser).piece, (*tidepole/syntax.parser).sequence -/
def Post.syntax_parser_alternation (nz : Nat) (wz : World) (S0 : Fz) (w0 : World) (Lr : List Ent) (gx0 : Nat) (r : T27 × T48) (v : Value) (w' : World) : Prop :=
  ∃ (S' : Fz) (Aq_2 : Option Addr) (nq_2 : Nat) (cq_2 : Nat) (ve0v_3 : Value), v = .agg #[.int .i64 r.1.Kind, .int .u64 (gi r.1.Set 0), .int .u64 (gi r.1.Set 1), .int .u64 (gi r.1.Set 2), .int .u64 (gi r.1.Set 3), .slice Aq_2 nq_2 cq_2, .int .i64 r.1.Min, .int .i64 r.1.Max] ∧ Ext S0 w0 S' w' ∧ Hp nz wz S' w' ((some gx0, .row 49 [.string r.2.s, .int .i64 r.2.at_, .int .i64 r.2.deep, ve0v_3] 4 0) :: Lr) ∧ r.1.Set.length = 4 ∧ Rd kT27 S' w' Aq_2 cq_2 r.1.L ∧ r.1.L.length = nq_2 ∧ PtO kT52 S' w' ve0v_3 r.2.bad

def Post.syntax_parser_sequence (nz : Nat) (wz : World) (S0 : Fz) (w0 : World) (Lr : List Ent) (gx0 : Nat) (r : T27 × T48) (v : Value) (w' : World) : Prop :=
  ∃ (S' : Fz) (Aq_2 : Option Addr) (nq_2 : Nat) (cq_2 : Nat) (ve0v_3 : Value), v = .agg #[.int .i64 r.1.Kind, .int .u64 (gi r.1.Set 0), .int .u64 (gi r.1.Set 1), .int .u64 (gi r.1.Set 2), .int .u64 (gi r.1.Set 3), .slice Aq_2 nq_2 cq_2, .int .i64 r.1.Min, .int .i64 r.1.Max] ∧ Ext S0 w0 S' w' ∧ Hp nz wz S' w' ((some gx0, .row 49 [.string r.2.s, .int .i64 r.2.at_, .int .i64 r.2.deep, ve0v_3] 4 0) :: Lr) ∧ r.1.Set.length = 4 ∧ Rd kT27 S' w' Aq_2 cq_2 r.1.L ∧ r.1.L.length = nq_2 ∧ PtO kT52 S' w' ve0v_3 r.2.bad

def Post.syntax_parser_piece (nz : Nat) (wz : World) (S0 : Fz) (w0 : World) (Lr : List Ent) (gx0 : Nat) (r : T27 × T48) (v : Value) (w' : World) : Prop :=
  ∃ (S' : Fz) (Aq_2 : Option Addr) (nq_2 : Nat) (cq_2 : Nat) (ve0v_3 : Value), v = .agg #[.int .i64 r.1.Kind, .int .u64 (gi r.1.Set 0), .int .u64 (gi r.1.Set 1), .int .u64 (gi r.1.Set 2), .int .u64 (gi r.1.Set 3), .slice Aq_2 nq_2 cq_2, .int .i64 r.1.Min, .int .i64 r.1.Max] ∧ Ext S0 w0 S' w' ∧ Hp nz wz S' w' ((some gx0, .row 49 [.string r.2.s, .int .i64 r.2.at_, .int .i64 r.2.deep, ve0v_3] 4 0) :: Lr) ∧ r.1.Set.length = 4 ∧ Rd kT27 S' w' Aq_2 cq_2 r.1.L ∧ r.1.L.length = nq_2 ∧ PtO kT52 S' w' ve0v_3 r.2.bad

def Post.syntax_parser_atom (nz : Nat) (wz : World) (S0 : Fz) (w0 : World) (Lr : List Ent) (gx0 : Nat) (r : T27 × T48) (v : Value) (w' : World) : Prop :=
  ∃ (S' : Fz) (Aq_2 : Option Addr) (nq_2 : Nat) (cq_2 : Nat) (ve0v_3 : Value), v = .agg #[.int .i64 r.1.Kind, .int .u64 (gi r.1.Set 0), .int .u64 (gi r.1.Set 1), .int .u64 (gi r.1.Set 2), .int .u64 (gi r.1.Set 3), .slice Aq_2 nq_2 cq_2, .int .i64 r.1.Min, .int .i64 r.1.Max] ∧ Ext S0 w0 S' w' ∧ Hp nz wz S' w' ((some gx0, .row 49 [.string r.2.s, .int .i64 r.2.at_, .int .i64 r.2.deep, ve0v_3] 4 0) :: Lr) ∧ r.1.Set.length = 4 ∧ Rd kT27 S' w' Aq_2 cq_2 r.1.L ∧ r.1.L.length = nq_2 ∧ PtO kT52 S' w' ve0v_3 r.2.bad

def Post.syntax_parser_group (nz : Nat) (wz : World) (S0 : Fz) (w0 : World) (Lr : List Ent) (gx0 : Nat) (r : T27 × T48) (v : Value) (w' : World) : Prop :=
  ∃ (S' : Fz) (Aq_2 : Option Addr) (nq_2 : Nat) (cq_2 : Nat) (ve0v_3 : Value), v = .agg #[.int .i64 r.1.Kind, .int .u64 (gi r.1.Set 0), .int .u64 (gi r.1.Set 1), .int .u64 (gi r.1.Set 2), .int .u64 (gi r.1.Set 3), .slice Aq_2 nq_2 cq_2, .int .i64 r.1.Min, .int .i64 r.1.Max] ∧ Ext S0 w0 S' w' ∧ Hp nz wz S' w' ((some gx0, .row 49 [.string r.2.s, .int .i64 r.2.at_, .int .i64 r.2.deep, ve0v_3] 4 0) :: Lr) ∧ r.1.Set.length = 4 ∧ Rd kT27 S' w' Aq_2 cq_2 r.1.L ∧ r.1.L.length = nq_2 ∧ PtO kT52 S' w' ve0v_3 r.2.bad

def LF.syntax_parser_alternation : T48 → (T27 × T48) → Prop := fun x0v r => ∀ (nz : Nat) (wz : World) (S0 : Fz) (w0 : World) (Lr : List Ent) (gx0 : Nat) (vx0v_3 : Value) (_ : Hp nz wz S0 w0 ((some gx0, .row 49 [.string x0v.s, .int .i64 x0v.at_, .int .i64 x0v.deep, vx0v_3] 4 0) :: Lr)) (_ : PtO kT52 S0 w0 vx0v_3 x0v.bad),
  Calls Try.prog 18 #[.pointer (some ⟨gx0, 0, none⟩)] w0 (Rets (Post.syntax_parser_alternation nz wz S0 w0 Lr gx0 r))

def LF.syntax_parser_sequence : T48 → (T27 × T48) → Prop := fun x0v r => ∀ (nz : Nat) (wz : World) (S0 : Fz) (w0 : World) (Lr : List Ent) (gx0 : Nat) (vx0v_3 : Value) (_ : Hp nz wz S0 w0 ((some gx0, .row 49 [.string x0v.s, .int .i64 x0v.at_, .int .i64 x0v.deep, vx0v_3] 4 0) :: Lr)) (_ : PtO kT52 S0 w0 vx0v_3 x0v.bad),
  Calls Try.prog 34 #[.pointer (some ⟨gx0, 0, none⟩)] w0 (Rets (Post.syntax_parser_sequence nz wz S0 w0 Lr gx0 r))

def L.syntax_parser_sequence_l0 (nz : Nat) (wz : World) (S0 : Fz) (w0 : World) (Lr : List Ent) (gx0 : Nat) : T27 × (List T27) × T48 → (T27 × T48) → Prop := fun ⟨x2v, x3, e0v⟩ r => ∀ S1 w1, Ext S0 w0 S1 w1 → ∀ (gx2 : Nat) (Gx2v_2 : Option Nat) (nx2v_2 : Nat) (cx2v_2 : Nat) (csx2v_2 : List Value) (Gx3 : Option Nat) (nx3 : Nat) (cx3 : Nat) (csx3 : List Value) (ve0v_3 : Value) (_ : Hp nz wz S1 w1 ((some gx2, .row 28 [.int .i64 x2v.Kind, .int .u64 (gi x2v.Set 0), .int .u64 (gi x2v.Set 1), .int .u64 (gi x2v.Set 2), .int .u64 (gi x2v.Set 3), .slice (Gp Gx2v_2) nx2v_2 cx2v_2, .int .i64 x2v.Min, .int .i64 x2v.Max] 8 0) :: (Gx2v_2, .row 28 csx2v_2 (cx2v_2 * kT27.size) 0) :: (Gx3, .row 28 csx3 (cx3 * kT27.size) 0) :: (some gx0, .row 49 [.string e0v.s, .int .i64 e0v.at_, .int .i64 e0v.deep, ve0v_3] 4 0) :: Lr)) (_ : x2v.Set.length = 4) (_ : Els kT27 S1 w1 csx2v_2 x2v.L) (_ : x2v.L.length = nx2v_2) (_ : Els kT27 S1 w1 csx3 x3) (_ : x3.length = nx3) (_ : PtO kT52 S1 w1 ve0v_3 e0v.bad) (junk : Nat → Value),
  Goes Try.prog (base 34) [.code (sub [1, 1, 0, 0, 0] B34), .inLoop (sub [1, 1, 0, 0, 0] B34), .inBlock 0, .code (sub [1, 1, 1] B34)] ⟨lfr 38 [(0, .pointer (some ⟨gx0, 0, none⟩)), (2, .pointer (some ⟨gx2, 0, none⟩)), (3, .slice (Gp Gx3) nx3 cx3)] junk, []⟩ w1 (Done Try.prog 34 (Rets (Post.syntax_parser_sequence nz wz S0 w0 Lr gx0 r)))

def LL.syntax_parser_sequence_l0 : T27 × (List T27) × T48 → (T27 × T48) → Prop := fun a r => ∀ (nz : Nat) (wz : World) (S0 : Fz) (w0 : World) (Lr : List Ent) (gx0 : Nat), L.syntax_parser_sequence_l0 nz wz S0 w0 Lr gx0 a r

def L.syntax_parser_sequence_l1 (nz : Nat) (wz : World) (S0 : Fz) (w0 : World) (Lr : List Ent) (gx0 : Nat) : T27 × (List T27) × Bool × T48 → (T27 × T48) → Prop := fun ⟨x2v, x3, x30, e0v⟩ r => ∀ S1 w1, Ext S0 w0 S1 w1 → ∀ (gx2 : Nat) (Gx2v_2 : Option Nat) (nx2v_2 : Nat) (cx2v_2 : Nat) (csx2v_2 : List Value) (Gx3 : Option Nat) (nx3 : Nat) (cx3 : Nat) (csx3 : List Value) (ve0v_3 : Value) (_ : Hp nz wz S1 w1 ((some gx2, .row 28 [.int .i64 x2v.Kind, .int .u64 (gi x2v.Set 0), .int .u64 (gi x2v.Set 1), .int .u64 (gi x2v.Set 2), .int .u64 (gi x2v.Set 3), .slice (Gp Gx2v_2) nx2v_2 cx2v_2, .int .i64 x2v.Min, .int .i64 x2v.Max] 8 0) :: (Gx2v_2, .row 28 csx2v_2 (cx2v_2 * kT27.size) 0) :: (Gx3, .row 28 csx3 (cx3 * kT27.size) 0) :: (some gx0, .row 49 [.string e0v.s, .int .i64 e0v.at_, .int .i64 e0v.deep, ve0v_3] 4 0) :: Lr)) (_ : x2v.Set.length = 4) (_ : Els kT27 S1 w1 csx2v_2 x2v.L) (_ : x2v.L.length = nx2v_2) (_ : Els kT27 S1 w1 csx3 x3) (_ : x3.length = nx3) (_ : PtO kT52 S1 w1 ve0v_3 e0v.bad) (junk : Nat → Value),
  Goes Try.prog (base 34) [.code (sub [1, 1, 0, 0, 0, 0, 1] B34), .code (sub [1, 1, 0, 0, 0, 1] B34), .inLoop (sub [1, 1, 0, 0, 0] B34), .inBlock 0, .code (sub [1, 1, 1] B34)] ⟨lfr 38 [(0, .pointer (some ⟨gx0, 0, none⟩)), (2, .pointer (some ⟨gx2, 0, none⟩)), (3, .slice (Gp Gx3) nx3 cx3), (30, .bool x30)] junk, []⟩ w1 (Done Try.prog 34 (Rets (Post.syntax_parser_sequence nz wz S0 w0 Lr gx0 r)))

def LL.syntax_parser_sequence_l1 : T27 × (List T27) × Bool × T48 → (T27 × T48) → Prop := fun a r => ∀ (nz : Nat) (wz : World) (S0 : Fz) (w0 : World) (Lr : List Ent) (gx0 : Nat), L.syntax_parser_sequence_l1 nz wz S0 w0 Lr gx0 a r

def LF.syntax_parser_piece : T48 → (T27 × T48) → Prop := fun x0v r => ∀ (nz : Nat) (wz : World) (S0 : Fz) (w0 : World) (Lr : List Ent) (gx0 : Nat) (vx0v_3 : Value) (_ : Hp nz wz S0 w0 ((some gx0, .row 49 [.string x0v.s, .int .i64 x0v.at_, .int .i64 x0v.deep, vx0v_3] 4 0) :: Lr)) (_ : PtO kT52 S0 w0 vx0v_3 x0v.bad),
  Calls Try.prog 55 #[.pointer (some ⟨gx0, 0, none⟩)] w0 (Rets (Post.syntax_parser_piece nz wz S0 w0 Lr gx0 r))

def LF.syntax_parser_atom : T48 → (T27 × T48) → Prop := fun x0v r => ∀ (nz : Nat) (wz : World) (S0 : Fz) (w0 : World) (Lr : List Ent) (gx0 : Nat) (vx0v_3 : Value) (_ : Hp nz wz S0 w0 ((some gx0, .row 49 [.string x0v.s, .int .i64 x0v.at_, .int .i64 x0v.deep, vx0v_3] 4 0) :: Lr)) (_ : PtO kT52 S0 w0 vx0v_3 x0v.bad),
  Calls Try.prog 73 #[.pointer (some ⟨gx0, 0, none⟩)] w0 (Rets (Post.syntax_parser_atom nz wz S0 w0 Lr gx0 r))

def L.syntax_parser_atom_l0 (nz : Nat) (wz : World) (S0 : Fz) (w0 : World) (Lr : List Ent) (gx0 : Nat) : T27 × Int × Bool × T48 → (T27 × T48) → Prop := fun ⟨x2v, x3, x6, e0v⟩ r => ∀ S1 w1, Ext S0 w0 S1 w1 → ∀ (gx2 : Nat) (Gx2v_2 : Option Nat) (nx2v_2 : Nat) (cx2v_2 : Nat) (csx2v_2 : List Value) (ve0v_3 : Value) (_ : Hp nz wz S1 w1 ((some gx2, .row 28 [.int .i64 x2v.Kind, .int .u64 (gi x2v.Set 0), .int .u64 (gi x2v.Set 1), .int .u64 (gi x2v.Set 2), .int .u64 (gi x2v.Set 3), .slice (Gp Gx2v_2) nx2v_2 cx2v_2, .int .i64 x2v.Min, .int .i64 x2v.Max] 8 0) :: (Gx2v_2, .row 28 csx2v_2 (cx2v_2 * kT27.size) 0) :: (some gx0, .row 49 [.string e0v.s, .int .i64 e0v.at_, .int .i64 e0v.deep, ve0v_3] 4 0) :: Lr)) (_ : x2v.Set.length = 4) (_ : Els kT27 S1 w1 csx2v_2 x2v.L) (_ : x2v.L.length = nx2v_2) (_ : PtO kT52 S1 w1 ve0v_3 e0v.bad) (junk : Nat → Value),
  Goes Try.prog (base 73) [.code (sub [1, 1, 0, 0, 1] B73), .inBlock 0, .code (sub [1, 1, 1] B73)] ⟨lfr 73 [(0, .pointer (some ⟨gx0, 0, none⟩)), (2, .pointer (some ⟨gx2, 0, none⟩)), (3, .int .u8 x3), (6, .bool x6)] junk, []⟩ w1 (Done Try.prog 73 (Rets (Post.syntax_parser_atom nz wz S0 w0 Lr gx0 r)))

def LL.syntax_parser_atom_l0 : T27 × Int × Bool × T48 → (T27 × T48) → Prop := fun a r => ∀ (nz : Nat) (wz : World) (S0 : Fz) (w0 : World) (Lr : List Ent) (gx0 : Nat), L.syntax_parser_atom_l0 nz wz S0 w0 Lr gx0 a r

def L.syntax_parser_atom_l1 (nz : Nat) (wz : World) (S0 : Fz) (w0 : World) (Lr : List Ent) (gx0 : Nat) : T27 × Int × Bool × T48 → (T27 × T48) → Prop := fun ⟨x2v, x3, x24, e0v⟩ r => ∀ S1 w1, Ext S0 w0 S1 w1 → ∀ (gx2 : Nat) (Gx2v_2 : Option Nat) (nx2v_2 : Nat) (cx2v_2 : Nat) (csx2v_2 : List Value) (ve0v_3 : Value) (_ : Hp nz wz S1 w1 ((some gx2, .row 28 [.int .i64 x2v.Kind, .int .u64 (gi x2v.Set 0), .int .u64 (gi x2v.Set 1), .int .u64 (gi x2v.Set 2), .int .u64 (gi x2v.Set 3), .slice (Gp Gx2v_2) nx2v_2 cx2v_2, .int .i64 x2v.Min, .int .i64 x2v.Max] 8 0) :: (Gx2v_2, .row 28 csx2v_2 (cx2v_2 * kT27.size) 0) :: (some gx0, .row 49 [.string e0v.s, .int .i64 e0v.at_, .int .i64 e0v.deep, ve0v_3] 4 0) :: Lr)) (_ : x2v.Set.length = 4) (_ : Els kT27 S1 w1 csx2v_2 x2v.L) (_ : x2v.L.length = nx2v_2) (_ : PtO kT52 S1 w1 ve0v_3 e0v.bad) (junk : Nat → Value),
  Goes Try.prog (base 73) [.code (sub [1, 1, 0, 0, 1, 1, 1] B73), .inBlock 0, .code (sub [1, 1, 1] B73)] ⟨lfr 73 [(0, .pointer (some ⟨gx0, 0, none⟩)), (2, .pointer (some ⟨gx2, 0, none⟩)), (3, .int .u8 x3), (24, .bool x24)] junk, []⟩ w1 (Done Try.prog 73 (Rets (Post.syntax_parser_atom nz wz S0 w0 Lr gx0 r)))

def LL.syntax_parser_atom_l1 : T27 × Int × Bool × T48 → (T27 × T48) → Prop := fun a r => ∀ (nz : Nat) (wz : World) (S0 : Fz) (w0 : World) (Lr : List Ent) (gx0 : Nat), L.syntax_parser_atom_l1 nz wz S0 w0 Lr gx0 a r

def LF.syntax_parser_group : T48 → (T27 × T48) → Prop := fun x0v r => ∀ (nz : Nat) (wz : World) (S0 : Fz) (w0 : World) (Lr : List Ent) (gx0 : Nat) (vx0v_3 : Value) (_ : Hp nz wz S0 w0 ((some gx0, .row 49 [.string x0v.s, .int .i64 x0v.at_, .int .i64 x0v.deep, vx0v_3] 4 0) :: Lr)) (_ : PtO kT52 S0 w0 vx0v_3 x0v.bad),
  Calls Try.prog 84 #[.pointer (some ⟨gx0, 0, none⟩)] w0 (Rets (Post.syntax_parser_group nz wz S0 w0 Lr gx0 r))

def L.syntax_parser_group_l0 (nz : Nat) (wz : World) (S0 : Fz) (w0 : World) (Lr : List Ent) (gx0 : Nat) : T27 × T48 → (T27 × T48) → Prop := fun ⟨x2v, e0v⟩ r => ∀ S1 w1, Ext S0 w0 S1 w1 → ∀ (gx2 : Nat) (Gx2v_2 : Option Nat) (nx2v_2 : Nat) (cx2v_2 : Nat) (csx2v_2 : List Value) (ve0v_3 : Value) (_ : Hp nz wz S1 w1 ((some gx2, .row 28 [.int .i64 x2v.Kind, .int .u64 (gi x2v.Set 0), .int .u64 (gi x2v.Set 1), .int .u64 (gi x2v.Set 2), .int .u64 (gi x2v.Set 3), .slice (Gp Gx2v_2) nx2v_2 cx2v_2, .int .i64 x2v.Min, .int .i64 x2v.Max] 8 0) :: (Gx2v_2, .row 28 csx2v_2 (cx2v_2 * kT27.size) 0) :: (some gx0, .row 49 [.string e0v.s, .int .i64 e0v.at_, .int .i64 e0v.deep, ve0v_3] 4 0) :: Lr)) (_ : x2v.Set.length = 4) (_ : Els kT27 S1 w1 csx2v_2 x2v.L) (_ : x2v.L.length = nx2v_2) (_ : PtO kT52 S1 w1 ve0v_3 e0v.bad) (junk : Nat → Value),
  Goes Try.prog (base 84) [.code (sub [1, 1] B84)] ⟨lfr 27 [(0, .pointer (some ⟨gx0, 0, none⟩)), (2, .pointer (some ⟨gx2, 0, none⟩))] junk, []⟩ w1 (Done Try.prog 84 (Rets (Post.syntax_parser_group nz wz S0 w0 Lr gx0 r)))

def LL.syntax_parser_group_l0 : T27 × T48 → (T27 × T48) → Prop := fun a r => ∀ (nz : Nat) (wz : World) (S0 : Fz) (w0 : World) (Lr : List Ent) (gx0 : Nat), L.syntax_parser_group_l0 nz wz S0 w0 Lr gx0 a r

def L.syntax_parser_alternation_l0 (nz : Nat) (wz : World) (S0 : Fz) (w0 : World) (Lr : List Ent) (gx0 : Nat) : T27 × (List T27) × T48 → (T27 × T48) → Prop := fun ⟨x2v, x3, e0v⟩ r => ∀ S1 w1, Ext S0 w0 S1 w1 → ∀ (gx2 : Nat) (Gx2v_2 : Option Nat) (nx2v_2 : Nat) (cx2v_2 : Nat) (csx2v_2 : List Value) (Gx3 : Option Nat) (nx3 : Nat) (cx3 : Nat) (csx3 : List Value) (ve0v_3 : Value) (_ : Hp nz wz S1 w1 ((some gx2, .row 28 [.int .i64 x2v.Kind, .int .u64 (gi x2v.Set 0), .int .u64 (gi x2v.Set 1), .int .u64 (gi x2v.Set 2), .int .u64 (gi x2v.Set 3), .slice (Gp Gx2v_2) nx2v_2 cx2v_2, .int .i64 x2v.Min, .int .i64 x2v.Max] 8 0) :: (Gx2v_2, .row 28 csx2v_2 (cx2v_2 * kT27.size) 0) :: (Gx3, .row 28 csx3 (cx3 * kT27.size) 0) :: (some gx0, .row 49 [.string e0v.s, .int .i64 e0v.at_, .int .i64 e0v.deep, ve0v_3] 4 0) :: Lr)) (_ : x2v.Set.length = 4) (_ : Els kT27 S1 w1 csx2v_2 x2v.L) (_ : x2v.L.length = nx2v_2) (_ : Els kT27 S1 w1 csx3 x3) (_ : x3.length = nx3) (_ : PtO kT52 S1 w1 ve0v_3 e0v.bad) (junk : Nat → Value),
  Goes Try.prog (base 18) [.code (sub [1, 1, 0, 0, 0] B18), .inLoop (sub [1, 1, 0, 0, 0] B18), .inBlock 0, .code (sub [1, 1, 1] B18)] ⟨lfr 16 [(0, .pointer (some ⟨gx0, 0, none⟩)), (2, .pointer (some ⟨gx2, 0, none⟩)), (3, .slice (Gp Gx3) nx3 cx3)] junk, []⟩ w1 (Done Try.prog 18 (Rets (Post.syntax_parser_alternation nz wz S0 w0 Lr gx0 r)))

def LL.syntax_parser_alternation_l0 : T27 × (List T27) × T48 → (T27 × T48) → Prop := fun a r => ∀ (nz : Nat) (wz : World) (S0 : Fz) (w0 : World) (Lr : List Ent) (gx0 : Nat), L.syntax_parser_alternation_l0 nz wz S0 w0 Lr gx0 a r

theorem W.syntax_parser_alternation_all : (∀ a r, M.syntax_parser_alternation a = some r → LF.syntax_parser_alternation a r) ∧ (∀ a r, M.syntax_parser_alternation_l0 a = some r → LL.syntax_parser_alternation_l0 a r) ∧ (∀ a r, M.syntax_parser_sequence a = some r → LF.syntax_parser_sequence a r) ∧ (∀ a r, M.syntax_parser_sequence_l0 a = some r → LL.syntax_parser_sequence_l0 a r) ∧ (∀ a r, M.syntax_parser_sequence_l1 a = some r → LL.syntax_parser_sequence_l1 a r) ∧ (∀ a r, M.syntax_parser_piece a = some r → LF.syntax_parser_piece a r) ∧ (∀ a r, M.syntax_parser_atom a = some r → LF.syntax_parser_atom a r) ∧ (∀ a r, M.syntax_parser_atom_l0 a = some r → LL.syntax_parser_atom_l0 a r) ∧ (∀ a r, M.syntax_parser_atom_l1 a = some r → LL.syntax_parser_atom_l1 a r) ∧ (∀ a r, M.syntax_parser_group a = some r → LF.syntax_parser_group a r) ∧ (∀ a r, M.syntax_parser_group_l0 a = some r → LL.syntax_parser_group_l0 a r) := by
  refine M.syntax_parser_alternation.mutual_partial_correctness LF.syntax_parser_alternation LL.syntax_parser_alternation_l0 LF.syntax_parser_sequence LL.syntax_parser_sequence_l0 LL.syntax_parser_sequence_l1 LF.syntax_parser_piece LF.syntax_parser_atom LL.syntax_parser_atom_l0 LL.syntax_parser_atom_l1 LF.syntax_parser_group LL.syntax_parser_group_l0 ?_ ?_ ?_ ?_ ?_ ?_ ?_ ?_ ?_ ?_ ?_
  · intro rec_syntax_parser_alternation_l0 rec_syntax_parser_sequence ih_syntax_parser_alternation_l0 ih_syntax_parser_sequence x0v r h nz wz S0 w0 Lr gx0 vx0v_3 p0 fx0v_3
    try dsimp only at h
    refine calls_of_goes (fn := Try.f18) (c := B18) (by kernel_rfl) (by kernel_rfl) 15 (by kernel_rfl) ?_
    refine Goes.jump 16 [(0, .pointer (some ⟨gx0, 0, none⟩))] (by kernel_rfl) (fun junk => ?_)
    refine Goes.runs 2 [] [.inRegion (opsOf (sub [0] B18)) [0], .code (sub [1] B18)] (by kernel_rfl) ?_
    refine Op_.alloc 28 2 0 (.agg #[.int .i64 0, .int .u64 0, .int .u64 0, .int .u64 0, .int .u64 0, .slice none 0 0, .int .i64 0, .int .i64 0]) [.int .i64 0, .int .u64 0, .int .u64 0, .int .u64 0, .int .u64 0, .slice none 0 0, .int .i64 0, .int .i64 0] p0 (Goes.vs (by kernel_rfl)) (by kernel_rfl) (by kernel_rfl) ?_
    intro b2 w2 z2 p2
    refine Goes.runs 4 [(4, .pointer (some ⟨gx0, 0, none⟩))] [.inRegion (opsOf (sub [1, 0] B18)) [1, 2, 3], .code (sub [1, 1] B18)] (by kernel_rfl) ?_
    have p2 := p2.front 1 _ rfl
    refine bind_some' h fun y4 e5 h => ?_
    refine Op_.call (.call { callee := .value (.func 34), args := #[(.tmp 4)], argTypes := #[46] }) 5 28 34 #[.pointer (some ⟨gx0, 0, none⟩)] (Goes.cs (by kernel_rfl)) (by kernel_rfl) (ih_syntax_parser_sequence x0v y4 e5 nz wz S0 w2 ((some b2, .row 28 [.int .i64 0, .int .u64 0, .int .u64 0, .int .u64 0, .int .u64 0, .slice none 0 0, .int .i64 0, .int .i64 0] 8 0) :: Lr) gx0 vx0v_3 p2 (fx0v_3.ext z2)) ?_
    rintro _ w3 ⟨S3, Ar_3_2, nr_3_2, cr_3_2, ve0_3v_3, rfl, z3, p3, lr_3_1, fr_3_2, rfl, fe0_3v_3⟩
    have f7 : Els kT27 S3 w3 ([.int .i64 y4.1.Kind, .int .u64 (gi y4.1.Set 0), .int .u64 (gi y4.1.Set 1), .int .u64 (gi y4.1.Set 2), .int .u64 (gi y4.1.Set 3), .slice Ar_3_2 y4.1.L.length cr_3_2, .int .i64 y4.1.Min, .int .i64 y4.1.Max] : List Value) [y4.1] := by exact (Els.cons (K := kT27) (vs := [.int .i64 y4.1.Kind, .int .u64 (gi y4.1.Set 0), .int .u64 (gi y4.1.Set 1), .int .u64 (gi y4.1.Set 2), .int .u64 (gi y4.1.Set 3), .slice Ar_3_2 y4.1.L.length cr_3_2, .int .i64 y4.1.Min, .int .i64 y4.1.Max]) (x := y4.1) (kT27_close ⟨[.int .i64 y4.1.Kind], [.int .u64 (gi y4.1.Set 0), .int .u64 (gi y4.1.Set 1), .int .u64 (gi y4.1.Set 2), .int .u64 (gi y4.1.Set 3), .slice Ar_3_2 y4.1.L.length cr_3_2, .int .i64 y4.1.Min, .int .i64 y4.1.Max], rfl, rfl, ⟨[.int .u64 (gi y4.1.Set 0), .int .u64 (gi y4.1.Set 1), .int .u64 (gi y4.1.Set 2), .int .u64 (gi y4.1.Set 3)], [.slice Ar_3_2 y4.1.L.length cr_3_2, .int .i64 y4.1.Min, .int .i64 y4.1.Max], rfl, ⟨lr_3_1, els_mk4 lr_3_1⟩, ⟨[.slice Ar_3_2 y4.1.L.length cr_3_2], [.int .i64 y4.1.Min, .int .i64 y4.1.Max], rfl, ⟨_, _, rfl, fr_3_2⟩, ⟨[.int .i64 y4.1.Min], [.int .i64 y4.1.Max], rfl, rfl, rfl⟩⟩⟩⟩) Els.nil)
    refine Op_.made (.buildSlice 26 1 #[(0, (.tmp 5))]) 6 26 (fun b => .slice (Gp (some b)) 1 1) 28 ([.int .i64 y4.1.Kind, .int .u64 (gi y4.1.Set 0), .int .u64 (gi y4.1.Set 1), .int .u64 (gi y4.1.Set 2), .int .u64 (gi y4.1.Set 3), .slice Ar_3_2 y4.1.L.length cr_3_2, .int .i64 y4.1.Min, .int .i64 y4.1.Max] : List Value) p3 (Goes.vs (by kernel_rfl)) (by kernel_rfl) ?_
    intro b6 w4 z4 p4
    have p4 : Hp nz wz S3 w4 (((some b6), .row 28 ([.int .i64 y4.1.Kind, .int .u64 (gi y4.1.Set 0), .int .u64 (gi y4.1.Set 1), .int .u64 (gi y4.1.Set 2), .int .u64 (gi y4.1.Set 3), .slice Ar_3_2 y4.1.L.length cr_3_2, .int .i64 y4.1.Min, .int .i64 y4.1.Max] : List Value) (1 * kT27.size) 0) :: (some gx0, .row 49 [.string y4.2.s, .int .i64 y4.2.at_, .int .i64 y4.2.deep, ve0_3v_3] 4 0) :: (some b2, .row 28 [.int .i64 0, .int .u64 0, .int .u64 0, .int .u64 0, .int .u64 0, .slice none 0 0, .int .i64 0, .int .i64 0] 8 0) :: Lr) := p4
    refine Goes.runs 5 [(3, .slice (Gp (some b6)) 1 1)] [.code (sub [1, 1, 0, 0, 0] B18), .inLoop (sub [1, 1, 0, 0, 0] B18), .inBlock 0, .code (sub [1, 1, 1] B18)] (by kernel_rfl) ?_
    have p4 : Hp nz wz S3 w4 ((none, .row 28 [] (0 * kT27.size) 0) :: ((some b6), .row 28 ([.int .i64 y4.1.Kind, .int .u64 (gi y4.1.Set 0), .int .u64 (gi y4.1.Set 1), .int .u64 (gi y4.1.Set 2), .int .u64 (gi y4.1.Set 3), .slice Ar_3_2 y4.1.L.length cr_3_2, .int .i64 y4.1.Min, .int .i64 y4.1.Max] : List Value) (1 * kT27.size) 0) :: (some gx0, .row 49 [.string y4.2.s, .int .i64 y4.2.at_, .int .i64 y4.2.deep, ve0_3v_3] 4 0) :: (some b2, .row 28 [.int .i64 0, .int .u64 0, .int .u64 0, .int .u64 0, .int .u64 0, .slice none 0 0, .int .i64 0, .int .i64 0] 8 0) :: Lr) := p4.nilRow' 28
    have p4 := p4.front 2 _ rfl
    have p4 := p4.front 2 _ rfl
    have p4 := p4.front 2 _ rfl
    have p4 := p4.front 3 _ rfl
    exact Goes.jump 16 [(0, .pointer (some ⟨gx0, 0, none⟩)), (2, .pointer (some ⟨b2, 0, none⟩)), (3, .slice (Gp (some b6)) 1 1)] (by kernel_rfl) (ih_syntax_parser_alternation_l0 _ _ h nz wz S0 w0 Lr gx0 _ _ ((((Ext.refl S0 w0).trans z2).trans z3).trans z4) b2 none 0 0 [] (some b6) 1 1 ([.int .i64 y4.1.Kind, .int .u64 (gi y4.1.Set 0), .int .u64 (gi y4.1.Set 1), .int .u64 (gi y4.1.Set 2), .int .u64 (gi y4.1.Set 3), .slice Ar_3_2 y4.1.L.length cr_3_2, .int .i64 y4.1.Min, .int .i64 y4.1.Max] : List Value) ve0_3v_3 p4 rfl (Els.nil (K := kT27)) rfl (f7.ext z4) rfl (fe0_3v_3.ext z4))
  · intro rec_syntax_parser_alternation_l0 rec_syntax_parser_sequence ih_syntax_parser_alternation_l0 ih_syntax_parser_sequence ⟨x2v, x3, e0v⟩ r h nz wz S0 w0 Lr gx0 S1 w1 hx gx2 Gx2v_2 nx2v_2 cx2v_2 csx2v_2 Gx3 nx3 cx3 csx3 ve0v_3 p1 lx2v_1 fx2v_2 lx2v_2 fx3 lx3 fe0v_3 junk
    try dsimp only at h
    subst lx2v_2
    subst lx3
    refine Goes.runs 4 [(7, .pointer (some ⟨gx0, 0, none⟩))] [.inRegion (opsOf (sub [1, 1, 0, 0, 0, 0, 0] B18)) [1], .code (sub [1, 1, 0, 0, 0, 0, 1] B18), .code (sub [1, 1, 0, 0, 0, 1] B18), .inLoop (sub [1, 1, 0, 0, 0] B18), .inBlock 0, .code (sub [1, 1, 1] B18)] (by kernel_rfl) ?_
    have p1 := p1.front 3 _ rfl
    refine bind_some' h fun y13 e14 h => ?_
    refine Op_.call (.call { callee := .value (.func 35), args := #[(.tmp 7), (.const (.int .u8 124))], argTypes := #[46, 5] }) 8 4 35 #[.pointer (some ⟨gx0, 0, none⟩), .int .u8 124] (Goes.cs (by kernel_rfl)) (by kernel_rfl) (W.syntax_parser_take e0v 124 y13 e14 nz wz S1 w1 ((some gx2, .row 28 [.int .i64 x2v.Kind, .int .u64 (gi x2v.Set 0), .int .u64 (gi x2v.Set 1), .int .u64 (gi x2v.Set 2), .int .u64 (gi x2v.Set 3), .slice (Gp Gx2v_2) x2v.L.length cx2v_2, .int .i64 x2v.Min, .int .i64 x2v.Max] 8 0) :: (Gx2v_2, .row 28 csx2v_2 (cx2v_2 * kT27.size) 0) :: (Gx3, .row 28 csx3 (cx3 * kT27.size) 0) :: Lr) gx0 ve0v_3 p1 fe0v_3) ?_
    rintro _ w5 ⟨S5, ve0_5v_3, rfl, z5, p5, fe0_5v_3⟩
    refine Goes.runs 1 [] [.code (sub [1, 1, 0, 0, 0, 0, 1] B18), .code (sub [1, 1, 0, 0, 0, 1] B18), .inLoop (sub [1, 1, 0, 0, 0] B18), .inBlock 0, .code (sub [1, 1, 1] B18)] (by kernel_rfl) ?_
    refine ite_some h (fun h15 h => ?_) (fun h15 h => ?_)
    · rw [h15]
      refine Goes.runs 6 [(9, .slice (Gp Gx3) x3.length cx3), (10, .pointer (some ⟨gx0, 0, none⟩))] [.inRegion (opsOf (sub [1, 1, 0, 0, 0, 1, 0] B18)) [2, 3, 4, 5], .inBlock 1, .inLoop (sub [1, 1, 0, 0, 0] B18), .inBlock 0, .code (sub [1, 1, 1] B18)] (by kernel_rfl) ?_
      refine bind_some' h fun y16 e17 h => ?_
      refine Op_.call (.call { callee := .value (.func 34), args := #[(.tmp 10)], argTypes := #[46] }) 11 28 34 #[.pointer (some ⟨gx0, 0, none⟩)] (Goes.cs (by kernel_rfl)) (by kernel_rfl) (ih_syntax_parser_sequence y13.2 y16 e17 nz wz S5 w5 ((some gx2, .row 28 [.int .i64 x2v.Kind, .int .u64 (gi x2v.Set 0), .int .u64 (gi x2v.Set 1), .int .u64 (gi x2v.Set 2), .int .u64 (gi x2v.Set 3), .slice (Gp Gx2v_2) x2v.L.length cx2v_2, .int .i64 x2v.Min, .int .i64 x2v.Max] 8 0) :: (Gx2v_2, .row 28 csx2v_2 (cx2v_2 * kT27.size) 0) :: (Gx3, .row 28 csx3 (cx3 * kT27.size) 0) :: Lr) gx0 ve0_5v_3 p5 fe0_5v_3) ?_
      rintro _ w6 ⟨S6, Ar_6_2, nr_6_2, cr_6_2, ve0_6v_3, rfl, z6, p6, lr_6_1, fr_6_2, rfl, fe0_6v_3⟩
      have f19 : Els kT27 S6 w6 ([.int .i64 y16.1.Kind, .int .u64 (gi y16.1.Set 0), .int .u64 (gi y16.1.Set 1), .int .u64 (gi y16.1.Set 2), .int .u64 (gi y16.1.Set 3), .slice Ar_6_2 y16.1.L.length cr_6_2, .int .i64 y16.1.Min, .int .i64 y16.1.Max] : List Value) [y16.1] := by exact (Els.cons (K := kT27) (vs := [.int .i64 y16.1.Kind, .int .u64 (gi y16.1.Set 0), .int .u64 (gi y16.1.Set 1), .int .u64 (gi y16.1.Set 2), .int .u64 (gi y16.1.Set 3), .slice Ar_6_2 y16.1.L.length cr_6_2, .int .i64 y16.1.Min, .int .i64 y16.1.Max]) (x := y16.1) (kT27_close ⟨[.int .i64 y16.1.Kind], [.int .u64 (gi y16.1.Set 0), .int .u64 (gi y16.1.Set 1), .int .u64 (gi y16.1.Set 2), .int .u64 (gi y16.1.Set 3), .slice Ar_6_2 y16.1.L.length cr_6_2, .int .i64 y16.1.Min, .int .i64 y16.1.Max], rfl, rfl, ⟨[.int .u64 (gi y16.1.Set 0), .int .u64 (gi y16.1.Set 1), .int .u64 (gi y16.1.Set 2), .int .u64 (gi y16.1.Set 3)], [.slice Ar_6_2 y16.1.L.length cr_6_2, .int .i64 y16.1.Min, .int .i64 y16.1.Max], rfl, ⟨lr_6_1, els_mk4 lr_6_1⟩, ⟨[.slice Ar_6_2 y16.1.L.length cr_6_2], [.int .i64 y16.1.Min, .int .i64 y16.1.Max], rfl, ⟨_, _, rfl, fr_6_2⟩, ⟨[.int .i64 y16.1.Min], [.int .i64 y16.1.Max], rfl, rfl, rfl⟩⟩⟩⟩) Els.nil)
      refine Op_.made (.buildSlice 26 1 #[(0, (.tmp 11))]) 12 26 (fun b => .slice (Gp (some b)) 1 1) 28 ([.int .i64 y16.1.Kind, .int .u64 (gi y16.1.Set 0), .int .u64 (gi y16.1.Set 1), .int .u64 (gi y16.1.Set 2), .int .u64 (gi y16.1.Set 3), .slice Ar_6_2 y16.1.L.length cr_6_2, .int .i64 y16.1.Min, .int .i64 y16.1.Max] : List Value) p6 (Goes.vs (by kernel_rfl)) (by kernel_rfl) ?_
      intro b18 w7 z7 p7
      have p7 : Hp nz wz S6 w7 (((some b18), .row 28 ([.int .i64 y16.1.Kind, .int .u64 (gi y16.1.Set 0), .int .u64 (gi y16.1.Set 1), .int .u64 (gi y16.1.Set 2), .int .u64 (gi y16.1.Set 3), .slice Ar_6_2 y16.1.L.length cr_6_2, .int .i64 y16.1.Min, .int .i64 y16.1.Max] : List Value) (1 * kT27.size) 0) :: (some gx0, .row 49 [.string y16.2.s, .int .i64 y16.2.at_, .int .i64 y16.2.deep, ve0_6v_3] 4 0) :: (some gx2, .row 28 [.int .i64 x2v.Kind, .int .u64 (gi x2v.Set 0), .int .u64 (gi x2v.Set 1), .int .u64 (gi x2v.Set 2), .int .u64 (gi x2v.Set 3), .slice (Gp Gx2v_2) x2v.L.length cx2v_2, .int .i64 x2v.Min, .int .i64 x2v.Max] 8 0) :: (Gx2v_2, .row 28 csx2v_2 (cx2v_2 * kT27.size) 0) :: (Gx3, .row 28 csx3 (cx3 * kT27.size) 0) :: Lr) := p7
      refine guard_some' h fun g24 h => ?_
      refine Op_.ap_n (K := kT27) 26 (.tmp 9) (.tmp 12) 13 26 28 4 (.agg #[.int .i64 0, .int .u64 0, .int .u64 0, .int .u64 0, .int .u64 0, .slice none 0 0, .int .i64 0, .int .i64 0]) 80 x3.length cx3 1 x3 [y16.1] (x3 ++ [y16.1]) (Gp (some b18)) 1 rfl rfl rfl p7 rfl (fx3.ext ((z5.trans z6).trans z7)) (Goes.vs (by kernel_rfl)) (by kernel_rfl) (by kernel_rfl) (by kernel_rfl) (by kernel_rfl) rfl (by decide) (f19.ext z7) (src_own p7 (q := 0) rfl) (by have := g24; omega) (by have := g24; omega) ?_
      intro w8 G25 c26 cs27 z8 p8 f28
      refine Goes.runs 4 [(3, .slice (Gp G25) ((x3 ++ [y16.1]).length) c26)] [.code (sub [1, 1, 0, 0, 0] B18), .inLoop (sub [1, 1, 0, 0, 0] B18), .inBlock 0, .code (sub [1, 1, 1] B18)] (by kernel_rfl) ?_
      have p8 := (p8.front 0 _ rfl).drop
      have p8 := p8.front 0 _ rfl
      have p8 := p8.front 3 _ rfl
      have p8 := p8.front 3 _ rfl
      have p8 := p8.front 3 _ rfl
      exact Goes.jump 16 [(0, .pointer (some ⟨gx0, 0, none⟩)), (2, .pointer (some ⟨gx2, 0, none⟩)), (3, .slice (Gp G25) ((x3 ++ [y16.1]).length) c26)] (by kernel_rfl) (ih_syntax_parser_alternation_l0 _ _ h nz wz S0 w0 Lr gx0 _ _ ((((hx.trans z5).trans z6).trans z7).trans z8) gx2 Gx2v_2 x2v.L.length cx2v_2 csx2v_2 G25 ((x3 ++ [y16.1]).length) c26 cs27 ve0_6v_3 p8 lx2v_1 (fx2v_2.ext (((z5.trans z6).trans z7).trans z8)) rfl f28 rfl (fe0_6v_3.ext (z7.trans z8)))
    · have h15' : y13.1 = false := by simpa using h15
      rw [h15']
      refine Goes.runs 5 [(14, .slice (Gp Gx3) x3.length cx3)] [.inRegion (opsOf (sub [1, 1, 1, 0] B18)) [1, 2], .code (sub [1, 1, 1, 1] B18)] (by kernel_rfl) ?_
      obtain ⟨S9, z9, p9, f29⟩ := p5.freezeRd 3 rfl (fx3.ext z5) (by decide)
      refine bind_some' h fun y30 e31 h => ?_
      refine Op_.call (.call { callee := .value (.func 36), args := #[(.const (.int .i64 3)), (.tmp 14)], argTypes := #[3, 26] }) 15 28 36 #[.int .i64 3, .slice (Gp Gx3) x3.length cx3] (Goes.cs (by kernel_rfl)) (by kernel_rfl) (W.syntax_several 3 x3 y30 e31 nz wz S9 w5 ((some gx0, .row 49 [.string y13.2.s, .int .i64 y13.2.at_, .int .i64 y13.2.deep, ve0_5v_3] 4 0) :: (some gx2, .row 28 [.int .i64 x2v.Kind, .int .u64 (gi x2v.Set 0), .int .u64 (gi x2v.Set 1), .int .u64 (gi x2v.Set 2), .int .u64 (gi x2v.Set 3), .slice (Gp Gx2v_2) x2v.L.length cx2v_2, .int .i64 x2v.Min, .int .i64 x2v.Max] 8 0) :: (Gx2v_2, .row 28 csx2v_2 (cx2v_2 * kT27.size) 0) :: (Gx3, .row 28 csx3 (cx3 * kT27.size) csx3.length) :: Lr) (Gp Gx3) x3.length cx3 p9 f29 rfl) ?_
      rintro _ w10 ⟨S10, Ar_10_2, nr_10_2, cr_10_2, rfl, z10, p10, lr_10_1, fr_10_2, rfl⟩
      have p10 := (p10.front 3 _ rfl).drop
      refine Op_.st 28 (.tmp 2) (.tmp 15) 0 1 gx2 0 (.agg #[.int .i64 y30.Kind, .int .u64 (gi y30.Set 0), .int .u64 (gi y30.Set 1), .int .u64 (gi y30.Set 2), .int .u64 (gi y30.Set 3), .slice Ar_10_2 y30.L.length cr_10_2, .int .i64 y30.Min, .int .i64 y30.Max]) [.int .i64 y30.Kind, .int .u64 (gi y30.Set 0), .int .u64 (gi y30.Set 1), .int .u64 (gi y30.Set 2), .int .u64 (gi y30.Set 3), .slice Ar_10_2 y30.L.length cr_10_2, .int .i64 y30.Min, .int .i64 y30.Max] p10 rfl (Goes.ss (by kernel_rfl)) (by kernel_rfl) (by kernel_rfl) (by kernel_rfl) (by kernel_rfl) (Nat.zero_le _) (by simp only [List.length_cons, List.length_nil]; omega) (by simp [Value.oneCell']) ?_
      intro w11 z11 p11
      refine Goes.runs 1 [] [.code (sub [1, 1, 1, 1] B18)] (by kernel_rfl) ?_
      obtain rfl := Option.some.inj h
      have p11 := (p11.front 2 _ rfl).drop
      have p11 := p11.front 0 _ rfl
      have p11 := p11.front 1 _ rfl
      exact Goes.ret (fn := Try.f18) (by kernel_rfl) (v := .agg #[.int .i64 y30.Kind, .int .u64 (gi y30.Set 0), .int .u64 (gi y30.Set 1), .int .u64 (gi y30.Set 2), .int .u64 (gi y30.Set 3), .slice Ar_10_2 y30.L.length cr_10_2, .int .i64 y30.Min, .int .i64 y30.Max]) (results_n1 (fn := Try.f18) (a := .cell 2 28) (by kernel_rfl) (resV_cell ⟨gx2, 0, none⟩ (by kernel_rfl) (run_loadN [.int .i64 y30.Kind, .int .u64 (gi y30.Set 0), .int .u64 (gi y30.Set 1), .int .u64 (gi y30.Set 2), .int .u64 (gi y30.Set 3), .slice Ar_10_2 y30.L.length cr_10_2, .int .i64 y30.Min, .int .i64 y30.Max] (by kernel_rfl) (by kernel_rfl) (At_part (us := []) (vs := [.int .i64 y30.Kind, .int .u64 (gi y30.Set 0), .int .u64 (gi y30.Set 1), .int .u64 (gi y30.Set 2), .int .u64 (gi y30.Set 3), .slice Ar_10_2 y30.L.length cr_10_2, .int .i64 y30.Min, .int .i64 y30.Max]) (ws := []) (p11.mem 0 rfl) 0 rfl)))) ⟨S10, Ar_10_2, y30.L.length, cr_10_2, ve0_5v_3, rfl, ((((hx.trans z5).trans z9).trans z10).trans z11), p11.drop, lr_10_1, (fr_10_2.ext z11), rfl, (fe0_5v_3.ext ((z9.trans z10).trans z11))⟩
  · intro rec_syntax_parser_sequence_l0 ih_syntax_parser_sequence_l0 x0v r h nz wz S0 w0 Lr gx0 vx0v_3 p0 fx0v_3
    try dsimp only at h
    refine calls_of_goes (fn := Try.f34) (c := B34) (by kernel_rfl) (by kernel_rfl) 37 (by kernel_rfl) ?_
    refine Goes.jump 38 [(0, .pointer (some ⟨gx0, 0, none⟩))] (by kernel_rfl) (fun junk => ?_)
    refine Goes.runs 2 [] [.inRegion (opsOf (sub [0] B34)) [0], .code (sub [1] B34)] (by kernel_rfl) ?_
    refine Op_.alloc 28 2 0 (.agg #[.int .i64 0, .int .u64 0, .int .u64 0, .int .u64 0, .int .u64 0, .slice none 0 0, .int .i64 0, .int .i64 0]) [.int .i64 0, .int .u64 0, .int .u64 0, .int .u64 0, .int .u64 0, .slice none 0 0, .int .i64 0, .int .i64 0] p0 (Goes.vs (by kernel_rfl)) (by kernel_rfl) (by kernel_rfl) ?_
    intro b2 w2 z2 p2
    refine Goes.runs 8 [(3, .slice none 0 0)] [.code (sub [1, 1, 0, 0, 0] B34), .inLoop (sub [1, 1, 0, 0, 0] B34), .inBlock 0, .code (sub [1, 1, 1] B34)] (by kernel_rfl) ?_
    have p2 : Hp nz wz S0 w2 ((none, .row 28 [] (0 * kT27.size) 0) :: (some b2, .row 28 [.int .i64 0, .int .u64 0, .int .u64 0, .int .u64 0, .int .u64 0, .slice none 0 0, .int .i64 0, .int .i64 0] 8 0) :: (some gx0, .row 49 [.string x0v.s, .int .i64 x0v.at_, .int .i64 x0v.deep, vx0v_3] 4 0) :: Lr) := p2.nilRow' 28
    have p2 : Hp nz wz S0 w2 ((none, .row 28 [] (0 * kT27.size) 0) :: (none, .row 28 [] (0 * kT27.size) 0) :: (some b2, .row 28 [.int .i64 0, .int .u64 0, .int .u64 0, .int .u64 0, .int .u64 0, .slice (Gp none) 0 0, .int .i64 0, .int .i64 0] 8 0) :: (some gx0, .row 49 [.string x0v.s, .int .i64 x0v.at_, .int .i64 x0v.deep, vx0v_3] 4 0) :: Lr) := p2.nilRow' 28
    have p2 := p2.front 3 _ rfl
    have p2 := p2.front 1 _ rfl
    have p2 := p2.front 2 _ rfl
    have p2 := p2.front 3 _ rfl
    exact Goes.jump 38 [(0, .pointer (some ⟨gx0, 0, none⟩)), (2, .pointer (some ⟨b2, 0, none⟩)), (3, .slice (Gp none) 0 0)] (by kernel_rfl) (ih_syntax_parser_sequence_l0 _ _ h nz wz S0 w0 Lr gx0 _ _ ((Ext.refl S0 w0).trans z2) b2 none 0 0 [] none 0 0 [] vx0v_3 p2 rfl (Els.nil (K := kT27)) rfl (Els.nil (K := kT27)) rfl (fx0v_3.ext z2))
  · intro rec_syntax_parser_sequence_l1 ih_syntax_parser_sequence_l1 ⟨x2v, x3, e0v⟩ r h nz wz S0 w0 Lr gx0 S1 w1 hx gx2 Gx2v_2 nx2v_2 cx2v_2 csx2v_2 Gx3 nx3 cx3 csx3 ve0v_3 p1 lx2v_1 fx2v_2 lx2v_2 fx3 lx3 fe0v_3 junk
    try dsimp only at h
    subst lx2v_2
    subst lx3
    refine Goes.runs 2 [] [.code (sub [1, 1, 0, 0, 0, 0, 0] B34), .code (sub [1, 1, 0, 0, 0, 0, 1] B34), .code (sub [1, 1, 0, 0, 0, 1] B34), .inLoop (sub [1, 1, 0, 0, 0] B34), .inBlock 0, .code (sub [1, 1, 1] B34)] (by kernel_rfl) ?_
    have z3 : Ext S1 w1 S1 (w1).drew := Ext.draw
    have p3 := p1.draw
    refine Goes.drawn (s := [19, 24]) (F := Fc S1 (w1).drew [(⟨gx0, 3, none⟩, ve0v_3), (⟨gx0, 1, none⟩, .int .i64 e0v.at_), (⟨gx0, 0, none⟩, .string e0v.s)]) 2 27 (by kernel_rfl) (by kernel_rfl) (by kernel_rfl) (by kernel_rfl) ?_
    generalize (w1).drew = w3 at z3 p3 ⊢
    refine AnyG.pure (i := 0) (.move (.tmp 0)) 4 46 (.pointer (some ⟨gx0, 0, none⟩)) (by kernel_rfl) (by kernel_rfl) (by kernel_rfl) (Fc.here ⟨((p3.mem 3 rfl).cell 3 _ rfl), ((p3.mem 3 rfl).cell 1 _ rfl), ((p3.mem 3 rfl).cell 0 _ rfl), trivial⟩) ?_
    refine AnyG.pure (i := 1) (.nilCheck (.tmp 4)) 5 0 (.pointer (some ⟨gx0, 0, none⟩)) (by kernel_rfl) (by kernel_rfl) (by kernel_rfl) (Fc.here ⟨((p3.mem 3 rfl).cell 3 _ rfl), ((p3.mem 3 rfl).cell 1 _ rfl), ((p3.mem 3 rfl).cell 0 _ rfl), trivial⟩) ?_
    refine AnyG.pure (i := 2) (.fieldAddr 49 (.tmp 5) 3) 6 0 (.pointer (some ⟨gx0, 3, none⟩)) (by kernel_rfl) (by kernel_rfl) (by kernel_rfl) (Fc.here ⟨((p3.mem 3 rfl).cell 3 _ rfl), ((p3.mem 3 rfl).cell 1 _ rfl), ((p3.mem 3 rfl).cell 0 _ rfl), trivial⟩) ?_
    refine AnyG.ld1 (i := 3) 47 (.tmp 6) 7 47 ⟨gx0, 3, none⟩ (ve0v_3) (by kernel_rfl) (by kernel_rfl) (Fc.here ⟨((p3.mem 3 rfl).cell 3 _ rfl), ((p3.mem 3 rfl).cell 1 _ rfl), ((p3.mem 3 rfl).cell 0 _ rfl), trivial⟩) (by kernel_rfl) (by kernel_rfl) (fun _ h => h.2.at_ 0 rfl) ?_
    refine let_some h fun v24 h9 h => ?_
    rcases v24 with _ | y10
    · try dsimp only at h
      obtain rfl := PtO.nil (fe0v_3.ext z3) h9
      refine AnyG.pure (i := 4) (.binOp .eql 47 (.tmp 7) (.const (.pointer none)) 47) 8 4 (.bool true) (by kernel_rfl) (by kernel_rfl) (by kernel_rfl) (Fc.here ⟨((p3.mem 3 rfl).cell 3 _ rfl), ((p3.mem 3 rfl).cell 1 _ rfl), ((p3.mem 3 rfl).cell 0 _ rfl), trivial⟩) ?_
      refine AnyG.pure (i := 5) (.move (.tmp 8)) 9 4 (.bool true) (by kernel_rfl) (by kernel_rfl) (by kernel_rfl) (Fc.here ⟨((p3.mem 3 rfl).cell 3 _ rfl), ((p3.mem 3 rfl).cell 1 _ rfl), ((p3.mem 3 rfl).cell 0 _ rfl), trivial⟩) ?_
      refine AnyG.pure (i := 6) (.move (.tmp 0)) 10 46 (.pointer (some ⟨gx0, 0, none⟩)) (by kernel_rfl) (by kernel_rfl) (by kernel_rfl) (Fc.here ⟨((p3.mem 3 rfl).cell 3 _ rfl), ((p3.mem 3 rfl).cell 1 _ rfl), ((p3.mem 3 rfl).cell 0 _ rfl), trivial⟩) ?_
      refine AnyG.pure (i := 7) (.nilCheck (.tmp 10)) 11 0 (.pointer (some ⟨gx0, 0, none⟩)) (by kernel_rfl) (by kernel_rfl) (by kernel_rfl) (Fc.here ⟨((p3.mem 3 rfl).cell 3 _ rfl), ((p3.mem 3 rfl).cell 1 _ rfl), ((p3.mem 3 rfl).cell 0 _ rfl), trivial⟩) ?_
      refine AnyG.pure (i := 8) (.fieldAddr 49 (.tmp 11) 1) 12 0 (.pointer (some ⟨gx0, 1, none⟩)) (by kernel_rfl) (by kernel_rfl) (by kernel_rfl) (Fc.here ⟨((p3.mem 3 rfl).cell 3 _ rfl), ((p3.mem 3 rfl).cell 1 _ rfl), ((p3.mem 3 rfl).cell 0 _ rfl), trivial⟩) ?_
      refine AnyG.ld1 (i := 9) 3 (.tmp 12) 13 3 ⟨gx0, 1, none⟩ (.int .i64 e0v.at_) (by kernel_rfl) (by kernel_rfl) (Fc.here ⟨((p3.mem 3 rfl).cell 3 _ rfl), ((p3.mem 3 rfl).cell 1 _ rfl), ((p3.mem 3 rfl).cell 0 _ rfl), trivial⟩) (by kernel_rfl) (by kernel_rfl) (fun _ h => h.2.at_ 1 rfl) ?_
      refine AnyG.pure (i := 10) (.move (.tmp 0)) 14 46 (.pointer (some ⟨gx0, 0, none⟩)) (by kernel_rfl) (by kernel_rfl) (by kernel_rfl) (Fc.here ⟨((p3.mem 3 rfl).cell 3 _ rfl), ((p3.mem 3 rfl).cell 1 _ rfl), ((p3.mem 3 rfl).cell 0 _ rfl), trivial⟩) ?_
      refine AnyG.pure (i := 11) (.nilCheck (.tmp 14)) 15 0 (.pointer (some ⟨gx0, 0, none⟩)) (by kernel_rfl) (by kernel_rfl) (by kernel_rfl) (Fc.here ⟨((p3.mem 3 rfl).cell 3 _ rfl), ((p3.mem 3 rfl).cell 1 _ rfl), ((p3.mem 3 rfl).cell 0 _ rfl), trivial⟩) ?_
      refine AnyG.pure (i := 12) (.fieldAddr 49 (.tmp 15) 0) 16 0 (.pointer (some ⟨gx0, 0, none⟩)) (by kernel_rfl) (by kernel_rfl) (by kernel_rfl) (Fc.here ⟨((p3.mem 3 rfl).cell 3 _ rfl), ((p3.mem 3 rfl).cell 1 _ rfl), ((p3.mem 3 rfl).cell 0 _ rfl), trivial⟩) ?_
      refine AnyG.ld1 (i := 13) 9 (.tmp 16) 17 9 ⟨gx0, 0, none⟩ (.string e0v.s) (by kernel_rfl) (by kernel_rfl) (Fc.here ⟨((p3.mem 3 rfl).cell 3 _ rfl), ((p3.mem 3 rfl).cell 1 _ rfl), ((p3.mem 3 rfl).cell 0 _ rfl), trivial⟩) (by kernel_rfl) (by kernel_rfl) (fun _ h => h.2.at_ 2 rfl) ?_
      refine AnyG.pure (i := 14) (.call { callee := .builtin .len, args := #[(.tmp 17)], argTypes := #[9] }) 18 3 (.int .i64 (e0v.s.size : Int)) (by kernel_rfl) (by kernel_rfl) (by kernel_rfl) (Fc.here ⟨((p3.mem 3 rfl).cell 3 _ rfl), ((p3.mem 3 rfl).cell 1 _ rfl), ((p3.mem 3 rfl).cell 0 _ rfl), trivial⟩) ?_
      refine AnyG.pure (i := 15) (.binOp .lss 3 (.tmp 13) (.tmp 18) 3) 19 4 (.bool (decide (e0v.at_ < (e0v.s.size : Int)))) (by kernel_rfl) (by kernel_rfl) (by kernel_rfl) (Fc.here ⟨((p3.mem 3 rfl).cell 3 _ rfl), ((p3.mem 3 rfl).cell 1 _ rfl), ((p3.mem 3 rfl).cell 0 _ rfl), trivial⟩) ?_
      refine AnyG.pure (i := 16) (.pick (.tmp 9) (.tmp 19) (.const (.bool false))) 20 4 (.bool (decide (e0v.at_ < (e0v.s.size : Int)))) (by kernel_rfl) (by kernel_rfl) (by kernel_rfl) (Fc.here ⟨((p3.mem 3 rfl).cell 3 _ rfl), ((p3.mem 3 rfl).cell 1 _ rfl), ((p3.mem 3 rfl).cell 0 _ rfl), trivial⟩) ?_
      refine AnyG.pure (i := 17) (.move (.tmp 20)) 21 4 (.bool (decide (e0v.at_ < (e0v.s.size : Int)))) (by kernel_rfl) (by kernel_rfl) (by kernel_rfl) (Fc.here ⟨((p3.mem 3 rfl).cell 3 _ rfl), ((p3.mem 3 rfl).cell 1 _ rfl), ((p3.mem 3 rfl).cell 0 _ rfl), trivial⟩) ?_
      refine ite_some h (fun h15 h => ?_) (fun h15 h => ?_)
      · rw [decide_eq_true h15]
        refine AnyG.pure (i := 18) (.move (.tmp 0)) 22 46 (.pointer (some ⟨gx0, 0, none⟩)) (by kernel_rfl) (by kernel_rfl) (by kernel_rfl) (Fc.here ⟨((p3.mem 3 rfl).cell 3 _ rfl), ((p3.mem 3 rfl).cell 1 _ rfl), ((p3.mem 3 rfl).cell 0 _ rfl), trivial⟩) ?_
        have p3 := p3.front 3 _ rfl
        refine bind_some' h fun y16 e17 h => ?_
        refine Op_.call (.call { callee := .value (.func 54), args := #[(.tmp 22)], argTypes := #[46] }) 23 5 54 #[.pointer (some ⟨gx0, 0, none⟩)] (AnyG.cs (i := 19) (by kernel_rfl) (by kernel_rfl)) (by kernel_rfl) (W.syntax_parser_peek (⟨e0v.s, e0v.at_, e0v.deep, none⟩ : T48) y16 e17 nz wz S1 w3 ((some gx2, .row 28 [.int .i64 x2v.Kind, .int .u64 (gi x2v.Set 0), .int .u64 (gi x2v.Set 1), .int .u64 (gi x2v.Set 2), .int .u64 (gi x2v.Set 3), .slice (Gp Gx2v_2) x2v.L.length cx2v_2, .int .i64 x2v.Min, .int .i64 x2v.Max] 8 0) :: (Gx2v_2, .row 28 csx2v_2 (cx2v_2 * kT27.size) 0) :: (Gx3, .row 28 csx3 (cx3 * kT27.size) 0) :: Lr) gx0 (.pointer none) p3 rfl) ?_
        rintro _ w4 ⟨S4, ve0_4v_3, rfl, z4, p4, fe0_4v_3⟩
        refine AnyG.last [24] (Fc S4 w4 []) (by decide) ?_
        refine AnyG.pure (i := 20) (.binOp .neq 5 (.tmp 23) (.const (.int .u8 124)) 5) 24 4 (.bool (!(decide (y16.1 = 124)))) (by kernel_rfl) (by kernel_rfl) (by kernel_rfl) (Fc.here trivial) ?_
        refine AnyG.pure (i := 21) (.pick (.tmp 21) (.tmp 24) (.const (.bool false))) 25 4 (.bool (!(decide (y16.1 = 124)))) (by kernel_rfl) (by kernel_rfl) (by kernel_rfl) (Fc.here trivial) ?_
        refine AnyG.pure (i := 22) (.move (.tmp 25)) 26 4 (.bool (!(decide (y16.1 = 124)))) (by kernel_rfl) (by kernel_rfl) (by kernel_rfl) (Fc.here trivial) ?_
        refine ite_some h (fun h18 h => ?_) (fun h18 h => ?_)
        · rw [decide_eq_true h18]
          refine AnyG.skip1 (i := 23) 27 (by kernel_rfl) (by kernel_rfl) (Fc.here trivial) ?_
          refine AnyG.skipL1 (i := 24) 28 (by kernel_rfl) (by kernel_rfl) (.inl (by decide)) ?_
          refine AnyG.skip1 (i := 25) 29 (by kernel_rfl) (by kernel_rfl) (Fc.here trivial) ?_
          refine AnyG.pure (i := 26) (.pick (.tmp 26) (.tmp 29) (.const (.bool false))) 30 4 (.bool false) (by kernel_rfl) (by kernel_rfl) (by kernel_rfl) (Fc.here trivial) ?_
          refine AnyG.done (by kernel_rfl) ?_ _
          have p4 := p4.front 0 _ rfl
          have p4 := p4.front 3 _ rfl
          have p4 := p4.front 3 _ rfl
          have p4 := p4.front 3 _ rfl
          exact Goes.jump 38 [(0, .pointer (some ⟨gx0, 0, none⟩)), (2, .pointer (some ⟨gx2, 0, none⟩)), (3, .slice (Gp Gx3) x3.length cx3), (30, .bool false)] (by kernel_rfl) (ih_syntax_parser_sequence_l1 _ _ h nz wz S0 w0 Lr gx0 _ _ ((hx.trans z3).trans z4) gx2 Gx2v_2 x2v.L.length cx2v_2 csx2v_2 Gx3 x3.length cx3 csx3 ve0_4v_3 p4 lx2v_1 (fx2v_2.ext (z3.trans z4)) rfl (fx3.ext (z3.trans z4)) rfl fe0_4v_3)
        · rw [decide_eq_false h18]
          refine AnyG.pure (i := 23) (.move (.tmp 0)) 27 46 (.pointer (some ⟨gx0, 0, none⟩)) (by kernel_rfl) (by kernel_rfl) (by kernel_rfl) (Fc.here trivial) ?_
          refine bind_some' h fun y22 e23 h => ?_
          refine Op_.call (.call { callee := .value (.func 54), args := #[(.tmp 27)], argTypes := #[46] }) 28 5 54 #[.pointer (some ⟨gx0, 0, none⟩)] (AnyG.cs (i := 24) (by kernel_rfl) (by kernel_rfl)) (by kernel_rfl) (W.syntax_parser_peek y16.2 y22 e23 nz wz S4 w4 ((some gx2, .row 28 [.int .i64 x2v.Kind, .int .u64 (gi x2v.Set 0), .int .u64 (gi x2v.Set 1), .int .u64 (gi x2v.Set 2), .int .u64 (gi x2v.Set 3), .slice (Gp Gx2v_2) x2v.L.length cx2v_2, .int .i64 x2v.Min, .int .i64 x2v.Max] 8 0) :: (Gx2v_2, .row 28 csx2v_2 (cx2v_2 * kT27.size) 0) :: (Gx3, .row 28 csx3 (cx3 * kT27.size) 0) :: Lr) gx0 ve0_4v_3 p4 fe0_4v_3) ?_
          rintro _ w5 ⟨S5, ve0_5v_3, rfl, z5, p5, fe0_5v_3⟩
          refine AnyG.last [] (Fc S5 w5 []) (by decide) ?_
          refine AnyG.pure (i := 25) (.binOp .neq 5 (.tmp 28) (.const (.int .u8 41)) 5) 29 4 (.bool (!(decide (y22.1 = 41)))) (by kernel_rfl) (by kernel_rfl) (by kernel_rfl) (Fc.here trivial) ?_
          refine AnyG.pure (i := 26) (.pick (.tmp 26) (.tmp 29) (.const (.bool false))) 30 4 (.bool (!(decide (y22.1 = 41)))) (by kernel_rfl) (by kernel_rfl) (by kernel_rfl) (Fc.here trivial) ?_
          refine AnyG.done (by kernel_rfl) ?_ _
          have p5 := p5.front 0 _ rfl
          have p5 := p5.front 3 _ rfl
          have p5 := p5.front 3 _ rfl
          have p5 := p5.front 3 _ rfl
          exact Goes.jump 38 [(0, .pointer (some ⟨gx0, 0, none⟩)), (2, .pointer (some ⟨gx2, 0, none⟩)), (3, .slice (Gp Gx3) x3.length cx3), (30, .bool (!(decide (y22.1 = 41))))] (by kernel_rfl) (ih_syntax_parser_sequence_l1 _ _ h nz wz S0 w0 Lr gx0 _ _ (((hx.trans z3).trans z4).trans z5) gx2 Gx2v_2 x2v.L.length cx2v_2 csx2v_2 Gx3 x3.length cx3 csx3 ve0_5v_3 p5 lx2v_1 (fx2v_2.ext ((z3.trans z4).trans z5)) rfl (fx3.ext ((z3.trans z4).trans z5)) rfl fe0_5v_3)
      · rw [decide_eq_false h15]
        refine AnyG.skip1 (i := 18) 22 (by kernel_rfl) (by kernel_rfl) (Fc.here ⟨((p3.mem 3 rfl).cell 3 _ rfl), ((p3.mem 3 rfl).cell 1 _ rfl), ((p3.mem 3 rfl).cell 0 _ rfl), trivial⟩) ?_
        refine AnyG.skipL1 (i := 19) 23 (by kernel_rfl) (by kernel_rfl) (.inl (by decide)) ?_
        refine AnyG.skip1 (i := 20) 24 (by kernel_rfl) (by kernel_rfl) (Fc.here ⟨((p3.mem 3 rfl).cell 3 _ rfl), ((p3.mem 3 rfl).cell 1 _ rfl), ((p3.mem 3 rfl).cell 0 _ rfl), trivial⟩) ?_
        refine AnyG.pure (i := 21) (.pick (.tmp 21) (.tmp 24) (.const (.bool false))) 25 4 (.bool false) (by kernel_rfl) (by kernel_rfl) (by kernel_rfl) (Fc.here ⟨((p3.mem 3 rfl).cell 3 _ rfl), ((p3.mem 3 rfl).cell 1 _ rfl), ((p3.mem 3 rfl).cell 0 _ rfl), trivial⟩) ?_
        refine AnyG.pure (i := 22) (.move (.tmp 25)) 26 4 (.bool false) (by kernel_rfl) (by kernel_rfl) (by kernel_rfl) (Fc.here ⟨((p3.mem 3 rfl).cell 3 _ rfl), ((p3.mem 3 rfl).cell 1 _ rfl), ((p3.mem 3 rfl).cell 0 _ rfl), trivial⟩) ?_
        refine AnyG.skip1 (i := 23) 27 (by kernel_rfl) (by kernel_rfl) (Fc.here ⟨((p3.mem 3 rfl).cell 3 _ rfl), ((p3.mem 3 rfl).cell 1 _ rfl), ((p3.mem 3 rfl).cell 0 _ rfl), trivial⟩) ?_
        refine AnyG.skipL1 (i := 24) 28 (by kernel_rfl) (by kernel_rfl) (.inl (by decide)) ?_
        refine AnyG.skip1 (i := 25) 29 (by kernel_rfl) (by kernel_rfl) (Fc.here ⟨((p3.mem 3 rfl).cell 3 _ rfl), ((p3.mem 3 rfl).cell 1 _ rfl), ((p3.mem 3 rfl).cell 0 _ rfl), trivial⟩) ?_
        refine AnyG.pure (i := 26) (.pick (.tmp 26) (.tmp 29) (.const (.bool false))) 30 4 (.bool false) (by kernel_rfl) (by kernel_rfl) (by kernel_rfl) (Fc.here ⟨((p3.mem 3 rfl).cell 3 _ rfl), ((p3.mem 3 rfl).cell 1 _ rfl), ((p3.mem 3 rfl).cell 0 _ rfl), trivial⟩) ?_
        refine AnyG.done (by kernel_rfl) ?_ _
        exact Goes.jump 38 [(0, .pointer (some ⟨gx0, 0, none⟩)), (2, .pointer (some ⟨gx2, 0, none⟩)), (3, .slice (Gp Gx3) x3.length cx3), (30, .bool false)] (by kernel_rfl) (ih_syntax_parser_sequence_l1 _ _ h nz wz S0 w0 Lr gx0 _ _ (hx.trans z3) gx2 Gx2v_2 x2v.L.length cx2v_2 csx2v_2 Gx3 x3.length cx3 csx3 (.pointer none) p3 lx2v_1 (fx2v_2.ext z3) rfl (fx3.ext z3) rfl rfl)
    · try dsimp only at h
      obtain ⟨a12, _, rfl, -, f13, q14⟩ := PtO.got (fe0v_3.ext z3) h9
      obtain rfl := q14
      refine AnyG.pure (i := 4) (.binOp .eql 47 (.tmp 7) (.const (.pointer none)) 47) 8 4 (.bool false) (by kernel_rfl) (by kernel_rfl) (by kernel_rfl) (Fc.here ⟨((p3.mem 3 rfl).cell 3 _ rfl), ((p3.mem 3 rfl).cell 1 _ rfl), ((p3.mem 3 rfl).cell 0 _ rfl), trivial⟩) ?_
      refine AnyG.pure (i := 5) (.move (.tmp 8)) 9 4 (.bool false) (by kernel_rfl) (by kernel_rfl) (by kernel_rfl) (Fc.here ⟨((p3.mem 3 rfl).cell 3 _ rfl), ((p3.mem 3 rfl).cell 1 _ rfl), ((p3.mem 3 rfl).cell 0 _ rfl), trivial⟩) ?_
      refine AnyG.skip1 (i := 6) 10 (by kernel_rfl) (by kernel_rfl) (Fc.here ⟨((p3.mem 3 rfl).cell 3 _ rfl), ((p3.mem 3 rfl).cell 1 _ rfl), ((p3.mem 3 rfl).cell 0 _ rfl), trivial⟩) ?_
      refine AnyG.skip1 (i := 7) 11 (by kernel_rfl) (by kernel_rfl) (Fc.here ⟨((p3.mem 3 rfl).cell 3 _ rfl), ((p3.mem 3 rfl).cell 1 _ rfl), ((p3.mem 3 rfl).cell 0 _ rfl), trivial⟩) ?_
      refine AnyG.skip1 (i := 8) 12 (by kernel_rfl) (by kernel_rfl) (Fc.here ⟨((p3.mem 3 rfl).cell 3 _ rfl), ((p3.mem 3 rfl).cell 1 _ rfl), ((p3.mem 3 rfl).cell 0 _ rfl), trivial⟩) ?_
      refine AnyG.skip1 (i := 9) 13 (by kernel_rfl) (by kernel_rfl) (Fc.here ⟨((p3.mem 3 rfl).cell 3 _ rfl), ((p3.mem 3 rfl).cell 1 _ rfl), ((p3.mem 3 rfl).cell 0 _ rfl), trivial⟩) ?_
      refine AnyG.skip1 (i := 10) 14 (by kernel_rfl) (by kernel_rfl) (Fc.here ⟨((p3.mem 3 rfl).cell 3 _ rfl), ((p3.mem 3 rfl).cell 1 _ rfl), ((p3.mem 3 rfl).cell 0 _ rfl), trivial⟩) ?_
      refine AnyG.skip1 (i := 11) 15 (by kernel_rfl) (by kernel_rfl) (Fc.here ⟨((p3.mem 3 rfl).cell 3 _ rfl), ((p3.mem 3 rfl).cell 1 _ rfl), ((p3.mem 3 rfl).cell 0 _ rfl), trivial⟩) ?_
      refine AnyG.skip1 (i := 12) 16 (by kernel_rfl) (by kernel_rfl) (Fc.here ⟨((p3.mem 3 rfl).cell 3 _ rfl), ((p3.mem 3 rfl).cell 1 _ rfl), ((p3.mem 3 rfl).cell 0 _ rfl), trivial⟩) ?_
      refine AnyG.skip1 (i := 13) 17 (by kernel_rfl) (by kernel_rfl) (Fc.here ⟨((p3.mem 3 rfl).cell 3 _ rfl), ((p3.mem 3 rfl).cell 1 _ rfl), ((p3.mem 3 rfl).cell 0 _ rfl), trivial⟩) ?_
      refine AnyG.skip1 (i := 14) 18 (by kernel_rfl) (by kernel_rfl) (Fc.here ⟨((p3.mem 3 rfl).cell 3 _ rfl), ((p3.mem 3 rfl).cell 1 _ rfl), ((p3.mem 3 rfl).cell 0 _ rfl), trivial⟩) ?_
      refine AnyG.skip1 (i := 15) 19 (by kernel_rfl) (by kernel_rfl) (Fc.here ⟨((p3.mem 3 rfl).cell 3 _ rfl), ((p3.mem 3 rfl).cell 1 _ rfl), ((p3.mem 3 rfl).cell 0 _ rfl), trivial⟩) ?_
      refine AnyG.pure (i := 16) (.pick (.tmp 9) (.tmp 19) (.const (.bool false))) 20 4 (.bool false) (by kernel_rfl) (by kernel_rfl) (by kernel_rfl) (Fc.here ⟨((p3.mem 3 rfl).cell 3 _ rfl), ((p3.mem 3 rfl).cell 1 _ rfl), ((p3.mem 3 rfl).cell 0 _ rfl), trivial⟩) ?_
      refine AnyG.pure (i := 17) (.move (.tmp 20)) 21 4 (.bool false) (by kernel_rfl) (by kernel_rfl) (by kernel_rfl) (Fc.here ⟨((p3.mem 3 rfl).cell 3 _ rfl), ((p3.mem 3 rfl).cell 1 _ rfl), ((p3.mem 3 rfl).cell 0 _ rfl), trivial⟩) ?_
      refine AnyG.skip1 (i := 18) 22 (by kernel_rfl) (by kernel_rfl) (Fc.here ⟨((p3.mem 3 rfl).cell 3 _ rfl), ((p3.mem 3 rfl).cell 1 _ rfl), ((p3.mem 3 rfl).cell 0 _ rfl), trivial⟩) ?_
      refine AnyG.skipL1 (i := 19) 23 (by kernel_rfl) (by kernel_rfl) (.inl (by decide)) ?_
      refine AnyG.skip1 (i := 20) 24 (by kernel_rfl) (by kernel_rfl) (Fc.here ⟨((p3.mem 3 rfl).cell 3 _ rfl), ((p3.mem 3 rfl).cell 1 _ rfl), ((p3.mem 3 rfl).cell 0 _ rfl), trivial⟩) ?_
      refine AnyG.pure (i := 21) (.pick (.tmp 21) (.tmp 24) (.const (.bool false))) 25 4 (.bool false) (by kernel_rfl) (by kernel_rfl) (by kernel_rfl) (Fc.here ⟨((p3.mem 3 rfl).cell 3 _ rfl), ((p3.mem 3 rfl).cell 1 _ rfl), ((p3.mem 3 rfl).cell 0 _ rfl), trivial⟩) ?_
      refine AnyG.pure (i := 22) (.move (.tmp 25)) 26 4 (.bool false) (by kernel_rfl) (by kernel_rfl) (by kernel_rfl) (Fc.here ⟨((p3.mem 3 rfl).cell 3 _ rfl), ((p3.mem 3 rfl).cell 1 _ rfl), ((p3.mem 3 rfl).cell 0 _ rfl), trivial⟩) ?_
      refine AnyG.skip1 (i := 23) 27 (by kernel_rfl) (by kernel_rfl) (Fc.here ⟨((p3.mem 3 rfl).cell 3 _ rfl), ((p3.mem 3 rfl).cell 1 _ rfl), ((p3.mem 3 rfl).cell 0 _ rfl), trivial⟩) ?_
      refine AnyG.skipL1 (i := 24) 28 (by kernel_rfl) (by kernel_rfl) (.inl (by decide)) ?_
      refine AnyG.skip1 (i := 25) 29 (by kernel_rfl) (by kernel_rfl) (Fc.here ⟨((p3.mem 3 rfl).cell 3 _ rfl), ((p3.mem 3 rfl).cell 1 _ rfl), ((p3.mem 3 rfl).cell 0 _ rfl), trivial⟩) ?_
      refine AnyG.pure (i := 26) (.pick (.tmp 26) (.tmp 29) (.const (.bool false))) 30 4 (.bool false) (by kernel_rfl) (by kernel_rfl) (by kernel_rfl) (Fc.here ⟨((p3.mem 3 rfl).cell 3 _ rfl), ((p3.mem 3 rfl).cell 1 _ rfl), ((p3.mem 3 rfl).cell 0 _ rfl), trivial⟩) ?_
      refine AnyG.done (by kernel_rfl) ?_ _
      exact Goes.jump 38 [(0, .pointer (some ⟨gx0, 0, none⟩)), (2, .pointer (some ⟨gx2, 0, none⟩)), (3, .slice (Gp Gx3) x3.length cx3), (30, .bool false)] (by kernel_rfl) (ih_syntax_parser_sequence_l1 _ _ h nz wz S0 w0 Lr gx0 _ _ (hx.trans z3) gx2 Gx2v_2 x2v.L.length cx2v_2 csx2v_2 Gx3 x3.length cx3 csx3 (.pointer (some a12)) p3 lx2v_1 (fx2v_2.ext z3) rfl (fx3.ext z3) rfl ⟨_, _, rfl, List.cons_ne_nil _ _, f13, rfl⟩)
  · intro rec_syntax_parser_sequence_l0 rec_syntax_parser_piece ih_syntax_parser_sequence_l0 ih_syntax_parser_piece ⟨x2v, x3, x30, e0v⟩ r h nz wz S0 w0 Lr gx0 S1 w1 hx gx2 Gx2v_2 nx2v_2 cx2v_2 csx2v_2 Gx3 nx3 cx3 csx3 ve0v_3 p1 lx2v_1 fx2v_2 lx2v_2 fx3 lx3 fe0v_3 junk
    try dsimp only at h
    subst lx2v_2
    subst lx3
    refine ite_some h (fun h25 h => ?_) (fun h25 h => ?_)
    · rw [h25]
      refine Goes.runs 6 [(31, .slice (Gp Gx3) x3.length cx3), (32, .pointer (some ⟨gx0, 0, none⟩))] [.inRegion (opsOf (sub [1, 1, 0, 0, 0, 1, 0] B34)) [2, 3, 4, 5], .inBlock 1, .inLoop (sub [1, 1, 0, 0, 0] B34), .inBlock 0, .code (sub [1, 1, 1] B34)] (by kernel_rfl) ?_
      have p1 := p1.front 3 _ rfl
      refine bind_some' h fun y26 e27 h => ?_
      refine Op_.call (.call { callee := .value (.func 55), args := #[(.tmp 32)], argTypes := #[46] }) 33 28 55 #[.pointer (some ⟨gx0, 0, none⟩)] (Goes.cs (by kernel_rfl)) (by kernel_rfl) (ih_syntax_parser_piece e0v y26 e27 nz wz S1 w1 ((some gx2, .row 28 [.int .i64 x2v.Kind, .int .u64 (gi x2v.Set 0), .int .u64 (gi x2v.Set 1), .int .u64 (gi x2v.Set 2), .int .u64 (gi x2v.Set 3), .slice (Gp Gx2v_2) x2v.L.length cx2v_2, .int .i64 x2v.Min, .int .i64 x2v.Max] 8 0) :: (Gx2v_2, .row 28 csx2v_2 (cx2v_2 * kT27.size) 0) :: (Gx3, .row 28 csx3 (cx3 * kT27.size) 0) :: Lr) gx0 ve0v_3 p1 fe0v_3) ?_
      rintro _ w6 ⟨S6, Ar_6_2, nr_6_2, cr_6_2, ve0_6v_3, rfl, z6, p6, lr_6_1, fr_6_2, rfl, fe0_6v_3⟩
      have f29 : Els kT27 S6 w6 ([.int .i64 y26.1.Kind, .int .u64 (gi y26.1.Set 0), .int .u64 (gi y26.1.Set 1), .int .u64 (gi y26.1.Set 2), .int .u64 (gi y26.1.Set 3), .slice Ar_6_2 y26.1.L.length cr_6_2, .int .i64 y26.1.Min, .int .i64 y26.1.Max] : List Value) [y26.1] := by exact (Els.cons (K := kT27) (vs := [.int .i64 y26.1.Kind, .int .u64 (gi y26.1.Set 0), .int .u64 (gi y26.1.Set 1), .int .u64 (gi y26.1.Set 2), .int .u64 (gi y26.1.Set 3), .slice Ar_6_2 y26.1.L.length cr_6_2, .int .i64 y26.1.Min, .int .i64 y26.1.Max]) (x := y26.1) (kT27_close ⟨[.int .i64 y26.1.Kind], [.int .u64 (gi y26.1.Set 0), .int .u64 (gi y26.1.Set 1), .int .u64 (gi y26.1.Set 2), .int .u64 (gi y26.1.Set 3), .slice Ar_6_2 y26.1.L.length cr_6_2, .int .i64 y26.1.Min, .int .i64 y26.1.Max], rfl, rfl, ⟨[.int .u64 (gi y26.1.Set 0), .int .u64 (gi y26.1.Set 1), .int .u64 (gi y26.1.Set 2), .int .u64 (gi y26.1.Set 3)], [.slice Ar_6_2 y26.1.L.length cr_6_2, .int .i64 y26.1.Min, .int .i64 y26.1.Max], rfl, ⟨lr_6_1, els_mk4 lr_6_1⟩, ⟨[.slice Ar_6_2 y26.1.L.length cr_6_2], [.int .i64 y26.1.Min, .int .i64 y26.1.Max], rfl, ⟨_, _, rfl, fr_6_2⟩, ⟨[.int .i64 y26.1.Min], [.int .i64 y26.1.Max], rfl, rfl, rfl⟩⟩⟩⟩) Els.nil)
      refine Op_.made (.buildSlice 26 1 #[(0, (.tmp 33))]) 34 26 (fun b => .slice (Gp (some b)) 1 1) 28 ([.int .i64 y26.1.Kind, .int .u64 (gi y26.1.Set 0), .int .u64 (gi y26.1.Set 1), .int .u64 (gi y26.1.Set 2), .int .u64 (gi y26.1.Set 3), .slice Ar_6_2 y26.1.L.length cr_6_2, .int .i64 y26.1.Min, .int .i64 y26.1.Max] : List Value) p6 (Goes.vs (by kernel_rfl)) (by kernel_rfl) ?_
      intro b28 w7 z7 p7
      have p7 : Hp nz wz S6 w7 (((some b28), .row 28 ([.int .i64 y26.1.Kind, .int .u64 (gi y26.1.Set 0), .int .u64 (gi y26.1.Set 1), .int .u64 (gi y26.1.Set 2), .int .u64 (gi y26.1.Set 3), .slice Ar_6_2 y26.1.L.length cr_6_2, .int .i64 y26.1.Min, .int .i64 y26.1.Max] : List Value) (1 * kT27.size) 0) :: (some gx0, .row 49 [.string y26.2.s, .int .i64 y26.2.at_, .int .i64 y26.2.deep, ve0_6v_3] 4 0) :: (some gx2, .row 28 [.int .i64 x2v.Kind, .int .u64 (gi x2v.Set 0), .int .u64 (gi x2v.Set 1), .int .u64 (gi x2v.Set 2), .int .u64 (gi x2v.Set 3), .slice (Gp Gx2v_2) x2v.L.length cx2v_2, .int .i64 x2v.Min, .int .i64 x2v.Max] 8 0) :: (Gx2v_2, .row 28 csx2v_2 (cx2v_2 * kT27.size) 0) :: (Gx3, .row 28 csx3 (cx3 * kT27.size) 0) :: Lr) := p7
      refine guard_some' h fun g34 h => ?_
      refine Op_.ap_n (K := kT27) 26 (.tmp 31) (.tmp 34) 35 26 28 4 (.agg #[.int .i64 0, .int .u64 0, .int .u64 0, .int .u64 0, .int .u64 0, .slice none 0 0, .int .i64 0, .int .i64 0]) 80 x3.length cx3 1 x3 [y26.1] (x3 ++ [y26.1]) (Gp (some b28)) 1 rfl rfl rfl p7 rfl (fx3.ext (z6.trans z7)) (Goes.vs (by kernel_rfl)) (by kernel_rfl) (by kernel_rfl) (by kernel_rfl) (by kernel_rfl) rfl (by decide) (f29.ext z7) (src_own p7 (q := 0) rfl) (by have := g34; omega) (by have := g34; omega) ?_
      intro w8 G35 c36 cs37 z8 p8 f38
      refine Goes.runs 4 [(3, .slice (Gp G35) ((x3 ++ [y26.1]).length) c36)] [.code (sub [1, 1, 0, 0, 0] B34), .inLoop (sub [1, 1, 0, 0, 0] B34), .inBlock 0, .code (sub [1, 1, 1] B34)] (by kernel_rfl) ?_
      have p8 := (p8.front 0 _ rfl).drop
      have p8 := p8.front 0 _ rfl
      have p8 := p8.front 3 _ rfl
      have p8 := p8.front 3 _ rfl
      have p8 := p8.front 3 _ rfl
      exact Goes.jump 38 [(0, .pointer (some ⟨gx0, 0, none⟩)), (2, .pointer (some ⟨gx2, 0, none⟩)), (3, .slice (Gp G35) ((x3 ++ [y26.1]).length) c36)] (by kernel_rfl) (ih_syntax_parser_sequence_l0 _ _ h nz wz S0 w0 Lr gx0 _ _ (((hx.trans z6).trans z7).trans z8) gx2 Gx2v_2 x2v.L.length cx2v_2 csx2v_2 G35 ((x3 ++ [y26.1]).length) c36 cs37 ve0_6v_3 p8 lx2v_1 (fx2v_2.ext ((z6.trans z7).trans z8)) rfl f38 rfl (fe0_6v_3.ext (z7.trans z8)))
    · have h25' : x30 = false := by simpa using h25
      rw [h25']
      refine Goes.runs 5 [(36, .slice (Gp Gx3) x3.length cx3)] [.inRegion (opsOf (sub [1, 1, 1, 0] B34)) [1, 2], .code (sub [1, 1, 1, 1] B34)] (by kernel_rfl) ?_
      obtain ⟨S9, z9, p9, f39⟩ := p1.freezeRd 2 rfl fx3 (by decide)
      refine bind_some' h fun y40 e41 h => ?_
      refine Op_.call (.call { callee := .value (.func 36), args := #[(.const (.int .i64 2)), (.tmp 36)], argTypes := #[3, 26] }) 37 28 36 #[.int .i64 2, .slice (Gp Gx3) x3.length cx3] (Goes.cs (by kernel_rfl)) (by kernel_rfl) (W.syntax_several 2 x3 y40 e41 nz wz S9 w1 ((some gx2, .row 28 [.int .i64 x2v.Kind, .int .u64 (gi x2v.Set 0), .int .u64 (gi x2v.Set 1), .int .u64 (gi x2v.Set 2), .int .u64 (gi x2v.Set 3), .slice (Gp Gx2v_2) x2v.L.length cx2v_2, .int .i64 x2v.Min, .int .i64 x2v.Max] 8 0) :: (Gx2v_2, .row 28 csx2v_2 (cx2v_2 * kT27.size) 0) :: (Gx3, .row 28 csx3 (cx3 * kT27.size) csx3.length) :: (some gx0, .row 49 [.string e0v.s, .int .i64 e0v.at_, .int .i64 e0v.deep, ve0v_3] 4 0) :: Lr) (Gp Gx3) x3.length cx3 p9 f39 rfl) ?_
      rintro _ w10 ⟨S10, Ar_10_2, nr_10_2, cr_10_2, rfl, z10, p10, lr_10_1, fr_10_2, rfl⟩
      have p10 := (p10.front 2 _ rfl).drop
      refine Op_.st 28 (.tmp 2) (.tmp 37) 0 0 gx2 0 (.agg #[.int .i64 y40.Kind, .int .u64 (gi y40.Set 0), .int .u64 (gi y40.Set 1), .int .u64 (gi y40.Set 2), .int .u64 (gi y40.Set 3), .slice Ar_10_2 y40.L.length cr_10_2, .int .i64 y40.Min, .int .i64 y40.Max]) [.int .i64 y40.Kind, .int .u64 (gi y40.Set 0), .int .u64 (gi y40.Set 1), .int .u64 (gi y40.Set 2), .int .u64 (gi y40.Set 3), .slice Ar_10_2 y40.L.length cr_10_2, .int .i64 y40.Min, .int .i64 y40.Max] p10 rfl (Goes.ss (by kernel_rfl)) (by kernel_rfl) (by kernel_rfl) (by kernel_rfl) (by kernel_rfl) (Nat.zero_le _) (by simp only [List.length_cons, List.length_nil]; omega) (by simp [Value.oneCell']) ?_
      intro w11 z11 p11
      refine Goes.runs 1 [] [.code (sub [1, 1, 1, 1] B34)] (by kernel_rfl) ?_
      obtain rfl := Option.some.inj h
      have p11 := (p11.front 1 _ rfl).drop
      exact Goes.ret (fn := Try.f34) (by kernel_rfl) (v := .agg #[.int .i64 y40.Kind, .int .u64 (gi y40.Set 0), .int .u64 (gi y40.Set 1), .int .u64 (gi y40.Set 2), .int .u64 (gi y40.Set 3), .slice Ar_10_2 y40.L.length cr_10_2, .int .i64 y40.Min, .int .i64 y40.Max]) (results_n1 (fn := Try.f34) (a := .cell 2 28) (by kernel_rfl) (resV_cell ⟨gx2, 0, none⟩ (by kernel_rfl) (run_loadN [.int .i64 y40.Kind, .int .u64 (gi y40.Set 0), .int .u64 (gi y40.Set 1), .int .u64 (gi y40.Set 2), .int .u64 (gi y40.Set 3), .slice Ar_10_2 y40.L.length cr_10_2, .int .i64 y40.Min, .int .i64 y40.Max] (by kernel_rfl) (by kernel_rfl) (At_part (us := []) (vs := [.int .i64 y40.Kind, .int .u64 (gi y40.Set 0), .int .u64 (gi y40.Set 1), .int .u64 (gi y40.Set 2), .int .u64 (gi y40.Set 3), .slice Ar_10_2 y40.L.length cr_10_2, .int .i64 y40.Min, .int .i64 y40.Max]) (ws := []) (p11.mem 0 rfl) 0 rfl)))) ⟨S10, Ar_10_2, y40.L.length, cr_10_2, ve0v_3, rfl, (((hx.trans z9).trans z10).trans z11), p11.drop, lr_10_1, (fr_10_2.ext z11), rfl, (fe0v_3.ext ((z9.trans z10).trans z11))⟩
  · intro rec_syntax_parser_atom ih_syntax_parser_atom x0v r h nz wz S0 w0 Lr gx0 vx0v_3 p0 fx0v_3
    try dsimp only at h
    refine calls_of_goes (fn := Try.f55) (c := B55) (by kernel_rfl) (by kernel_rfl) 36 (by kernel_rfl) ?_
    refine Goes.jump 37 [(0, .pointer (some ⟨gx0, 0, none⟩))] (by kernel_rfl) (fun junk => ?_)
    refine Goes.runs 2 [] [.inRegion (opsOf (sub [0] B55)) [0], .code (sub [1] B55)] (by kernel_rfl) ?_
    refine Op_.alloc 28 2 0 (.agg #[.int .i64 0, .int .u64 0, .int .u64 0, .int .u64 0, .int .u64 0, .slice none 0 0, .int .i64 0, .int .i64 0]) [.int .i64 0, .int .u64 0, .int .u64 0, .int .u64 0, .int .u64 0, .slice none 0 0, .int .i64 0, .int .i64 0] p0 (Goes.vs (by kernel_rfl)) (by kernel_rfl) (by kernel_rfl) ?_
    intro b2 w2 z2 p2
    refine Goes.runs 4 [(7, .pointer (some ⟨gx0, 0, none⟩))] [.inRegion (opsOf (sub [1, 0] B55)) [1, 2, 3], .code (sub [1, 1] B55)] (by kernel_rfl) ?_
    have p2 := p2.front 1 _ rfl
    refine bind_some' h fun y4 e5 h => ?_
    refine Op_.call (.call { callee := .value (.func 73), args := #[(.tmp 7)], argTypes := #[46] }) 8 28 73 #[.pointer (some ⟨gx0, 0, none⟩)] (Goes.cs (by kernel_rfl)) (by kernel_rfl) (ih_syntax_parser_atom x0v y4 e5 nz wz S0 w2 ((some b2, .row 28 [.int .i64 0, .int .u64 0, .int .u64 0, .int .u64 0, .int .u64 0, .slice none 0 0, .int .i64 0, .int .i64 0] 8 0) :: Lr) gx0 vx0v_3 p2 (fx0v_3.ext z2)) ?_
    rintro _ w3 ⟨S3, Ar_3_2, nr_3_2, cr_3_2, ve0_3v_3, rfl, z3, p3, lr_3_1, fr_3_2, rfl, fe0_3v_3⟩
    refine Op_.alloc 28 3 0 (.agg #[.int .i64 0, .int .u64 0, .int .u64 0, .int .u64 0, .int .u64 0, .slice none 0 0, .int .i64 0, .int .i64 0]) [.int .i64 0, .int .u64 0, .int .u64 0, .int .u64 0, .int .u64 0, .slice none 0 0, .int .i64 0, .int .i64 0] p3 (Goes.vs (by kernel_rfl)) (by kernel_rfl) (by kernel_rfl) ?_
    intro b6 w4 z4 p4
    refine Op_.st 28 (.tmp 3) (.tmp 8) 0 0 b6 0 (.agg #[.int .i64 y4.1.Kind, .int .u64 (gi y4.1.Set 0), .int .u64 (gi y4.1.Set 1), .int .u64 (gi y4.1.Set 2), .int .u64 (gi y4.1.Set 3), .slice Ar_3_2 y4.1.L.length cr_3_2, .int .i64 y4.1.Min, .int .i64 y4.1.Max]) [.int .i64 y4.1.Kind, .int .u64 (gi y4.1.Set 0), .int .u64 (gi y4.1.Set 1), .int .u64 (gi y4.1.Set 2), .int .u64 (gi y4.1.Set 3), .slice Ar_3_2 y4.1.L.length cr_3_2, .int .i64 y4.1.Min, .int .i64 y4.1.Max] p4 rfl (Goes.ss (by kernel_rfl)) (by kernel_rfl) (by kernel_rfl) (by kernel_rfl) (by kernel_rfl) (Nat.zero_le _) (by simp only [List.length_cons, List.length_nil]; omega) (by simp [Value.oneCell']) ?_
    intro w5 z5 p5
    refine Goes.runs 12 [(4, .int .i64 1), (5, .int .i64 1), (9, .pointer (some ⟨gx0, 0, none⟩)), (10, .pointer (some ⟨gx0, 0, none⟩)), (11, .pointer (some ⟨gx0, 1, none⟩))] [.inRegion (opsOf (sub [1, 1, 1, 0, 0] B55)) [3, 4], .code (sub [1, 1, 1, 0, 1] B55), .code (sub [1, 1, 1, 1] B55)] (by kernel_rfl) ?_
    refine Op_.ld1 3 (.tmp 11) 12 3 ⟨gx0, 1, none⟩ (.int .i64 y4.2.at_) (Goes.vs (by kernel_rfl)) (by kernel_rfl) (by kernel_rfl) ((p5.mem 1 rfl).cell 1 _ rfl) ?_
    refine Goes.runs 6 [(6, .int .i64 y4.2.at_), (15, .pointer (some ⟨gx0, 0, none⟩))] [.inRegion (opsOf (sub [1, 1, 1, 0, 1, 0, 0] B55)) [1, 2], .code (sub [1, 1, 1, 0, 1, 0, 1] B55), .inBlock 0, .code (sub [1, 1, 1, 1] B55)] (by kernel_rfl) ?_
    have p5 := p5.front 1 _ rfl
    refine bind_some' h fun y8 e9 h => ?_
    refine Op_.call (.call { callee := .value (.func 35), args := #[(.tmp 15), (.const (.int .u8 42))], argTypes := #[46, 5] }) 16 4 35 #[.pointer (some ⟨gx0, 0, none⟩), .int .u8 42] (Goes.cs (by kernel_rfl)) (by kernel_rfl) (W.syntax_parser_take y4.2 42 y8 e9 nz wz S3 w5 ((some b6, .row 28 [.int .i64 y4.1.Kind, .int .u64 (gi y4.1.Set 0), .int .u64 (gi y4.1.Set 1), .int .u64 (gi y4.1.Set 2), .int .u64 (gi y4.1.Set 3), .slice Ar_3_2 y4.1.L.length cr_3_2, .int .i64 y4.1.Min, .int .i64 y4.1.Max] 8 0) :: (some b2, .row 28 [.int .i64 0, .int .u64 0, .int .u64 0, .int .u64 0, .int .u64 0, .slice none 0 0, .int .i64 0, .int .i64 0] 8 0) :: Lr) gx0 ve0_3v_3 p5 (fe0_3v_3.ext (z4.trans z5))) ?_
    rintro _ w6 ⟨S6, ve0_6v_3, rfl, z6, p6, fe0_6v_3⟩
    refine Goes.runs 2 [(14, .bool y8.1)] [.code (sub [1, 1, 1, 0, 1, 0, 1] B55), .inBlock 0, .code (sub [1, 1, 1, 1] B55)] (by kernel_rfl) ?_
    refine ite_some h (fun h10 h => ?_) (fun h10 h => ?_)
    · rw [h10]
      refine Goes.runs 8 [(4, .int .i64 0), (5, .int .i64 (-1))] [.inRegion (opsOf (sub [1, 1, 1, 1, 0] B55)) [0, 1, 2, 3, 4, 5], .code (sub [1, 1, 1, 1, 1] B55)] (by kernel_rfl) ?_
      refine Op_.ldN 28 (.tmp 3) 32 28 ⟨b6, 0, none⟩ [.int .i64 y4.1.Kind, .int .u64 (gi y4.1.Set 0), .int .u64 (gi y4.1.Set 1), .int .u64 (gi y4.1.Set 2), .int .u64 (gi y4.1.Set 3), .slice Ar_3_2 y4.1.L.length cr_3_2, .int .i64 y4.1.Min, .int .i64 y4.1.Max] (Goes.vs (by kernel_rfl)) (by kernel_rfl) (by kernel_rfl) (by kernel_rfl) (At_part (us := []) (vs := [.int .i64 y4.1.Kind, .int .u64 (gi y4.1.Set 0), .int .u64 (gi y4.1.Set 1), .int .u64 (gi y4.1.Set 2), .int .u64 (gi y4.1.Set 3), .slice Ar_3_2 y4.1.L.length cr_3_2, .int .i64 y4.1.Min, .int .i64 y4.1.Max]) (ws := []) (p6.mem 1 rfl) 0 rfl) ?_
      have f12 : Els kT27 S6 w6 ([.int .i64 y4.1.Kind, .int .u64 (gi y4.1.Set 0), .int .u64 (gi y4.1.Set 1), .int .u64 (gi y4.1.Set 2), .int .u64 (gi y4.1.Set 3), .slice Ar_3_2 y4.1.L.length cr_3_2, .int .i64 y4.1.Min, .int .i64 y4.1.Max] : List Value) [y4.1] := by exact (Els.cons (K := kT27) (vs := [.int .i64 y4.1.Kind, .int .u64 (gi y4.1.Set 0), .int .u64 (gi y4.1.Set 1), .int .u64 (gi y4.1.Set 2), .int .u64 (gi y4.1.Set 3), .slice Ar_3_2 y4.1.L.length cr_3_2, .int .i64 y4.1.Min, .int .i64 y4.1.Max]) (x := y4.1) (kT27_close ⟨[.int .i64 y4.1.Kind], [.int .u64 (gi y4.1.Set 0), .int .u64 (gi y4.1.Set 1), .int .u64 (gi y4.1.Set 2), .int .u64 (gi y4.1.Set 3), .slice Ar_3_2 y4.1.L.length cr_3_2, .int .i64 y4.1.Min, .int .i64 y4.1.Max], rfl, rfl, ⟨[.int .u64 (gi y4.1.Set 0), .int .u64 (gi y4.1.Set 1), .int .u64 (gi y4.1.Set 2), .int .u64 (gi y4.1.Set 3)], [.slice Ar_3_2 y4.1.L.length cr_3_2, .int .i64 y4.1.Min, .int .i64 y4.1.Max], rfl, ⟨lr_3_1, els_mk4 lr_3_1⟩, ⟨[.slice Ar_3_2 y4.1.L.length cr_3_2], [.int .i64 y4.1.Min, .int .i64 y4.1.Max], rfl, ⟨_, _, rfl, (fr_3_2.ext ((z4.trans z5).trans z6))⟩, ⟨[.int .i64 y4.1.Min], [.int .i64 y4.1.Max], rfl, rfl, rfl⟩⟩⟩⟩) Els.nil)
      refine Op_.made (.buildSlice 26 1 #[(0, (.tmp 32))]) 33 26 (fun b => .slice (Gp (some b)) 1 1) 28 ([.int .i64 y4.1.Kind, .int .u64 (gi y4.1.Set 0), .int .u64 (gi y4.1.Set 1), .int .u64 (gi y4.1.Set 2), .int .u64 (gi y4.1.Set 3), .slice Ar_3_2 y4.1.L.length cr_3_2, .int .i64 y4.1.Min, .int .i64 y4.1.Max] : List Value) p6 (Goes.vs (by kernel_rfl)) (by kernel_rfl) ?_
      intro b11 w7 z7 p7
      have p7 : Hp nz wz S6 w7 (((some b11), .row 28 ([.int .i64 y4.1.Kind, .int .u64 (gi y4.1.Set 0), .int .u64 (gi y4.1.Set 1), .int .u64 (gi y4.1.Set 2), .int .u64 (gi y4.1.Set 3), .slice Ar_3_2 y4.1.L.length cr_3_2, .int .i64 y4.1.Min, .int .i64 y4.1.Max] : List Value) (1 * kT27.size) 0) :: (some gx0, .row 49 [.string y8.2.s, .int .i64 y8.2.at_, .int .i64 y8.2.deep, ve0_6v_3] 4 0) :: (some b6, .row 28 [.int .i64 y4.1.Kind, .int .u64 (gi y4.1.Set 0), .int .u64 (gi y4.1.Set 1), .int .u64 (gi y4.1.Set 2), .int .u64 (gi y4.1.Set 3), .slice Ar_3_2 y4.1.L.length cr_3_2, .int .i64 y4.1.Min, .int .i64 y4.1.Max] 8 0) :: (some b2, .row 28 [.int .i64 0, .int .u64 0, .int .u64 0, .int .u64 0, .int .u64 0, .slice none 0 0, .int .i64 0, .int .i64 0] 8 0) :: Lr) := p7
      refine Goes.runs 3 [(34, .int .i64 0), (35, .int .i64 (-1)), (36, .agg #[.int .i64 4, .int .u64 0, .int .u64 0, .int .u64 0, .int .u64 0, .slice (Gp (some b11)) 1 1, .int .i64 0, .int .i64 (-1)])] [.inRegion (opsOf (sub [1, 1, 1, 1, 0] B55)) [5], .code (sub [1, 1, 1, 1, 1] B55)] (by kernel_rfl) ?_
      refine Op_.st 28 (.tmp 2) (.tmp 36) 0 3 b2 0 (.agg #[.int .i64 4, .int .u64 0, .int .u64 0, .int .u64 0, .int .u64 0, .slice (Gp (some b11)) 1 1, .int .i64 0, .int .i64 (-1)]) [.int .i64 4, .int .u64 0, .int .u64 0, .int .u64 0, .int .u64 0, .slice (Gp (some b11)) 1 1, .int .i64 0, .int .i64 (-1)] p7 rfl (Goes.ss (by kernel_rfl)) (by kernel_rfl) (by kernel_rfl) (by kernel_rfl) (by kernel_rfl) (Nat.zero_le _) (by simp only [List.length_cons, List.length_nil]; omega) (by simp [Value.oneCell']) ?_
      intro w8 z8 p8
      refine Goes.runs 1 [] [.code (sub [1, 1, 1, 1, 1] B55)] (by kernel_rfl) ?_
      obtain ⟨S9, z9, p9, f14⟩ := p8.freezeRd 0 rfl (f12.ext (z7.trans z8)) (by decide)
      obtain rfl := Option.some.inj h
      have p9 := (p9.front 0 _ rfl).drop
      have p9 := (p9.front 1 _ rfl).drop
      have p9 := p9.front 0 _ rfl
      have p9 := p9.front 1 _ rfl
      exact Goes.ret (fn := Try.f55) (by kernel_rfl) (v := .agg #[.int .i64 4, .int .u64 0, .int .u64 0, .int .u64 0, .int .u64 0, .slice (Gp (some b11)) 1 1, .int .i64 0, .int .i64 (-1)]) (results_n1 (fn := Try.f55) (a := .cell 2 28) (by kernel_rfl) (resV_cell ⟨b2, 0, none⟩ (by kernel_rfl) (run_loadN [.int .i64 4, .int .u64 0, .int .u64 0, .int .u64 0, .int .u64 0, .slice (Gp (some b11)) 1 1, .int .i64 0, .int .i64 (-1)] (by kernel_rfl) (by kernel_rfl) (At_part (us := []) (vs := [.int .i64 4, .int .u64 0, .int .u64 0, .int .u64 0, .int .u64 0, .slice (Gp (some b11)) 1 1, .int .i64 0, .int .i64 (-1)]) (ws := []) (p9.mem 0 rfl) 0 rfl)))) ⟨S9, (Gp (some b11)), 1, 1, ve0_6v_3, rfl, (((((((((Ext.refl S0 w0).trans z2).trans z3).trans z4).trans z5).trans z6).trans z7).trans z8).trans z9), p9.drop, rfl, f14, rfl, (fe0_6v_3.ext ((z7.trans z8).trans z9))⟩
    · have h10' : y8.1 = false := by simpa using h10
      rw [h10']
      refine Goes.runs 4 [(18, .pointer (some ⟨gx0, 0, none⟩))] [.inRegion (opsOf (sub [1, 1, 1, 0, 1, 0, 1, 1, 0] B55)) [1, 2], .code (sub [1, 1, 1, 0, 1, 0, 1, 1, 1] B55), .inBlock 0, .code (sub [1, 1, 1, 1] B55)] (by kernel_rfl) ?_
      refine bind_some' h fun y15 e16 h => ?_
      refine Op_.call (.call { callee := .value (.func 35), args := #[(.tmp 18), (.const (.int .u8 43))], argTypes := #[46, 5] }) 19 4 35 #[.pointer (some ⟨gx0, 0, none⟩), .int .u8 43] (Goes.cs (by kernel_rfl)) (by kernel_rfl) (W.syntax_parser_take y8.2 43 y15 e16 nz wz S6 w6 ((some b6, .row 28 [.int .i64 y4.1.Kind, .int .u64 (gi y4.1.Set 0), .int .u64 (gi y4.1.Set 1), .int .u64 (gi y4.1.Set 2), .int .u64 (gi y4.1.Set 3), .slice Ar_3_2 y4.1.L.length cr_3_2, .int .i64 y4.1.Min, .int .i64 y4.1.Max] 8 0) :: (some b2, .row 28 [.int .i64 0, .int .u64 0, .int .u64 0, .int .u64 0, .int .u64 0, .slice none 0 0, .int .i64 0, .int .i64 0] 8 0) :: Lr) gx0 ve0_6v_3 p6 fe0_6v_3) ?_
      rintro _ w10 ⟨S10, ve0_10v_3, rfl, z10, p10, fe0_10v_3⟩
      refine Goes.runs 2 [(17, .bool y15.1)] [.code (sub [1, 1, 1, 0, 1, 0, 1, 1, 1] B55), .inBlock 0, .code (sub [1, 1, 1, 1] B55)] (by kernel_rfl) ?_
      refine ite_some h (fun h17 h => ?_) (fun h17 h => ?_)
      · rw [h17]
        refine Goes.runs 7 [(5, .int .i64 (-1))] [.inRegion (opsOf (sub [1, 1, 1, 1, 0] B55)) [0, 1, 2, 3, 4, 5], .code (sub [1, 1, 1, 1, 1] B55)] (by kernel_rfl) ?_
        refine Op_.ldN 28 (.tmp 3) 32 28 ⟨b6, 0, none⟩ [.int .i64 y4.1.Kind, .int .u64 (gi y4.1.Set 0), .int .u64 (gi y4.1.Set 1), .int .u64 (gi y4.1.Set 2), .int .u64 (gi y4.1.Set 3), .slice Ar_3_2 y4.1.L.length cr_3_2, .int .i64 y4.1.Min, .int .i64 y4.1.Max] (Goes.vs (by kernel_rfl)) (by kernel_rfl) (by kernel_rfl) (by kernel_rfl) (At_part (us := []) (vs := [.int .i64 y4.1.Kind, .int .u64 (gi y4.1.Set 0), .int .u64 (gi y4.1.Set 1), .int .u64 (gi y4.1.Set 2), .int .u64 (gi y4.1.Set 3), .slice Ar_3_2 y4.1.L.length cr_3_2, .int .i64 y4.1.Min, .int .i64 y4.1.Max]) (ws := []) (p10.mem 1 rfl) 0 rfl) ?_
        have f19 : Els kT27 S10 w10 ([.int .i64 y4.1.Kind, .int .u64 (gi y4.1.Set 0), .int .u64 (gi y4.1.Set 1), .int .u64 (gi y4.1.Set 2), .int .u64 (gi y4.1.Set 3), .slice Ar_3_2 y4.1.L.length cr_3_2, .int .i64 y4.1.Min, .int .i64 y4.1.Max] : List Value) [y4.1] := by exact (Els.cons (K := kT27) (vs := [.int .i64 y4.1.Kind, .int .u64 (gi y4.1.Set 0), .int .u64 (gi y4.1.Set 1), .int .u64 (gi y4.1.Set 2), .int .u64 (gi y4.1.Set 3), .slice Ar_3_2 y4.1.L.length cr_3_2, .int .i64 y4.1.Min, .int .i64 y4.1.Max]) (x := y4.1) (kT27_close ⟨[.int .i64 y4.1.Kind], [.int .u64 (gi y4.1.Set 0), .int .u64 (gi y4.1.Set 1), .int .u64 (gi y4.1.Set 2), .int .u64 (gi y4.1.Set 3), .slice Ar_3_2 y4.1.L.length cr_3_2, .int .i64 y4.1.Min, .int .i64 y4.1.Max], rfl, rfl, ⟨[.int .u64 (gi y4.1.Set 0), .int .u64 (gi y4.1.Set 1), .int .u64 (gi y4.1.Set 2), .int .u64 (gi y4.1.Set 3)], [.slice Ar_3_2 y4.1.L.length cr_3_2, .int .i64 y4.1.Min, .int .i64 y4.1.Max], rfl, ⟨lr_3_1, els_mk4 lr_3_1⟩, ⟨[.slice Ar_3_2 y4.1.L.length cr_3_2], [.int .i64 y4.1.Min, .int .i64 y4.1.Max], rfl, ⟨_, _, rfl, (fr_3_2.ext (((z4.trans z5).trans z6).trans z10))⟩, ⟨[.int .i64 y4.1.Min], [.int .i64 y4.1.Max], rfl, rfl, rfl⟩⟩⟩⟩) Els.nil)
        refine Op_.made (.buildSlice 26 1 #[(0, (.tmp 32))]) 33 26 (fun b => .slice (Gp (some b)) 1 1) 28 ([.int .i64 y4.1.Kind, .int .u64 (gi y4.1.Set 0), .int .u64 (gi y4.1.Set 1), .int .u64 (gi y4.1.Set 2), .int .u64 (gi y4.1.Set 3), .slice Ar_3_2 y4.1.L.length cr_3_2, .int .i64 y4.1.Min, .int .i64 y4.1.Max] : List Value) p10 (Goes.vs (by kernel_rfl)) (by kernel_rfl) ?_
        intro b18 w11 z11 p11
        have p11 : Hp nz wz S10 w11 (((some b18), .row 28 ([.int .i64 y4.1.Kind, .int .u64 (gi y4.1.Set 0), .int .u64 (gi y4.1.Set 1), .int .u64 (gi y4.1.Set 2), .int .u64 (gi y4.1.Set 3), .slice Ar_3_2 y4.1.L.length cr_3_2, .int .i64 y4.1.Min, .int .i64 y4.1.Max] : List Value) (1 * kT27.size) 0) :: (some gx0, .row 49 [.string y15.2.s, .int .i64 y15.2.at_, .int .i64 y15.2.deep, ve0_10v_3] 4 0) :: (some b6, .row 28 [.int .i64 y4.1.Kind, .int .u64 (gi y4.1.Set 0), .int .u64 (gi y4.1.Set 1), .int .u64 (gi y4.1.Set 2), .int .u64 (gi y4.1.Set 3), .slice Ar_3_2 y4.1.L.length cr_3_2, .int .i64 y4.1.Min, .int .i64 y4.1.Max] 8 0) :: (some b2, .row 28 [.int .i64 0, .int .u64 0, .int .u64 0, .int .u64 0, .int .u64 0, .slice none 0 0, .int .i64 0, .int .i64 0] 8 0) :: Lr) := p11
        refine Goes.runs 3 [(34, .int .i64 1), (35, .int .i64 (-1)), (36, .agg #[.int .i64 4, .int .u64 0, .int .u64 0, .int .u64 0, .int .u64 0, .slice (Gp (some b18)) 1 1, .int .i64 1, .int .i64 (-1)])] [.inRegion (opsOf (sub [1, 1, 1, 1, 0] B55)) [5], .code (sub [1, 1, 1, 1, 1] B55)] (by kernel_rfl) ?_
        refine Op_.st 28 (.tmp 2) (.tmp 36) 0 3 b2 0 (.agg #[.int .i64 4, .int .u64 0, .int .u64 0, .int .u64 0, .int .u64 0, .slice (Gp (some b18)) 1 1, .int .i64 1, .int .i64 (-1)]) [.int .i64 4, .int .u64 0, .int .u64 0, .int .u64 0, .int .u64 0, .slice (Gp (some b18)) 1 1, .int .i64 1, .int .i64 (-1)] p11 rfl (Goes.ss (by kernel_rfl)) (by kernel_rfl) (by kernel_rfl) (by kernel_rfl) (by kernel_rfl) (Nat.zero_le _) (by simp only [List.length_cons, List.length_nil]; omega) (by simp [Value.oneCell']) ?_
        intro w12 z12 p12
        refine Goes.runs 1 [] [.code (sub [1, 1, 1, 1, 1] B55)] (by kernel_rfl) ?_
        obtain ⟨S13, z13, p13, f21⟩ := p12.freezeRd 0 rfl (f19.ext (z11.trans z12)) (by decide)
        obtain rfl := Option.some.inj h
        have p13 := (p13.front 0 _ rfl).drop
        have p13 := (p13.front 1 _ rfl).drop
        have p13 := p13.front 0 _ rfl
        have p13 := p13.front 1 _ rfl
        exact Goes.ret (fn := Try.f55) (by kernel_rfl) (v := .agg #[.int .i64 4, .int .u64 0, .int .u64 0, .int .u64 0, .int .u64 0, .slice (Gp (some b18)) 1 1, .int .i64 1, .int .i64 (-1)]) (results_n1 (fn := Try.f55) (a := .cell 2 28) (by kernel_rfl) (resV_cell ⟨b2, 0, none⟩ (by kernel_rfl) (run_loadN [.int .i64 4, .int .u64 0, .int .u64 0, .int .u64 0, .int .u64 0, .slice (Gp (some b18)) 1 1, .int .i64 1, .int .i64 (-1)] (by kernel_rfl) (by kernel_rfl) (At_part (us := []) (vs := [.int .i64 4, .int .u64 0, .int .u64 0, .int .u64 0, .int .u64 0, .slice (Gp (some b18)) 1 1, .int .i64 1, .int .i64 (-1)]) (ws := []) (p13.mem 0 rfl) 0 rfl)))) ⟨S13, (Gp (some b18)), 1, 1, ve0_10v_3, rfl, ((((((((((Ext.refl S0 w0).trans z2).trans z3).trans z4).trans z5).trans z6).trans z10).trans z11).trans z12).trans z13), p13.drop, rfl, f21, rfl, (fe0_10v_3.ext ((z11.trans z12).trans z13))⟩
      · have h17' : y15.1 = false := by simpa using h17
        rw [h17']
        refine Goes.runs 4 [(21, .pointer (some ⟨gx0, 0, none⟩))] [.inRegion (opsOf (sub [1, 1, 1, 0, 1, 0, 1, 1, 1, 1, 0] B55)) [1, 2], .code (sub [1, 1, 1, 0, 1, 0, 1, 1, 1, 1, 1] B55), .inBlock 0, .code (sub [1, 1, 1, 1] B55)] (by kernel_rfl) ?_
        refine bind_some' h fun y22 e23 h => ?_
        refine Op_.call (.call { callee := .value (.func 35), args := #[(.tmp 21), (.const (.int .u8 63))], argTypes := #[46, 5] }) 22 4 35 #[.pointer (some ⟨gx0, 0, none⟩), .int .u8 63] (Goes.cs (by kernel_rfl)) (by kernel_rfl) (W.syntax_parser_take y15.2 63 y22 e23 nz wz S10 w10 ((some b6, .row 28 [.int .i64 y4.1.Kind, .int .u64 (gi y4.1.Set 0), .int .u64 (gi y4.1.Set 1), .int .u64 (gi y4.1.Set 2), .int .u64 (gi y4.1.Set 3), .slice Ar_3_2 y4.1.L.length cr_3_2, .int .i64 y4.1.Min, .int .i64 y4.1.Max] 8 0) :: (some b2, .row 28 [.int .i64 0, .int .u64 0, .int .u64 0, .int .u64 0, .int .u64 0, .slice none 0 0, .int .i64 0, .int .i64 0] 8 0) :: Lr) gx0 ve0_10v_3 p10 fe0_10v_3) ?_
        rintro _ w14 ⟨S14, ve0_14v_3, rfl, z14, p14, fe0_14v_3⟩
        refine Goes.runs 2 [(20, .bool y22.1)] [.code (sub [1, 1, 1, 0, 1, 0, 1, 1, 1, 1, 1] B55), .inBlock 0, .code (sub [1, 1, 1, 1] B55)] (by kernel_rfl) ?_
        refine ite_some h (fun h24 h => ?_) (fun h24 h => ?_)
        · rw [h24]
          refine Goes.runs 7 [(4, .int .i64 0)] [.inRegion (opsOf (sub [1, 1, 1, 1, 0] B55)) [0, 1, 2, 3, 4, 5], .code (sub [1, 1, 1, 1, 1] B55)] (by kernel_rfl) ?_
          refine Op_.ldN 28 (.tmp 3) 32 28 ⟨b6, 0, none⟩ [.int .i64 y4.1.Kind, .int .u64 (gi y4.1.Set 0), .int .u64 (gi y4.1.Set 1), .int .u64 (gi y4.1.Set 2), .int .u64 (gi y4.1.Set 3), .slice Ar_3_2 y4.1.L.length cr_3_2, .int .i64 y4.1.Min, .int .i64 y4.1.Max] (Goes.vs (by kernel_rfl)) (by kernel_rfl) (by kernel_rfl) (by kernel_rfl) (At_part (us := []) (vs := [.int .i64 y4.1.Kind, .int .u64 (gi y4.1.Set 0), .int .u64 (gi y4.1.Set 1), .int .u64 (gi y4.1.Set 2), .int .u64 (gi y4.1.Set 3), .slice Ar_3_2 y4.1.L.length cr_3_2, .int .i64 y4.1.Min, .int .i64 y4.1.Max]) (ws := []) (p14.mem 1 rfl) 0 rfl) ?_
          have f26 : Els kT27 S14 w14 ([.int .i64 y4.1.Kind, .int .u64 (gi y4.1.Set 0), .int .u64 (gi y4.1.Set 1), .int .u64 (gi y4.1.Set 2), .int .u64 (gi y4.1.Set 3), .slice Ar_3_2 y4.1.L.length cr_3_2, .int .i64 y4.1.Min, .int .i64 y4.1.Max] : List Value) [y4.1] := by exact (Els.cons (K := kT27) (vs := [.int .i64 y4.1.Kind, .int .u64 (gi y4.1.Set 0), .int .u64 (gi y4.1.Set 1), .int .u64 (gi y4.1.Set 2), .int .u64 (gi y4.1.Set 3), .slice Ar_3_2 y4.1.L.length cr_3_2, .int .i64 y4.1.Min, .int .i64 y4.1.Max]) (x := y4.1) (kT27_close ⟨[.int .i64 y4.1.Kind], [.int .u64 (gi y4.1.Set 0), .int .u64 (gi y4.1.Set 1), .int .u64 (gi y4.1.Set 2), .int .u64 (gi y4.1.Set 3), .slice Ar_3_2 y4.1.L.length cr_3_2, .int .i64 y4.1.Min, .int .i64 y4.1.Max], rfl, rfl, ⟨[.int .u64 (gi y4.1.Set 0), .int .u64 (gi y4.1.Set 1), .int .u64 (gi y4.1.Set 2), .int .u64 (gi y4.1.Set 3)], [.slice Ar_3_2 y4.1.L.length cr_3_2, .int .i64 y4.1.Min, .int .i64 y4.1.Max], rfl, ⟨lr_3_1, els_mk4 lr_3_1⟩, ⟨[.slice Ar_3_2 y4.1.L.length cr_3_2], [.int .i64 y4.1.Min, .int .i64 y4.1.Max], rfl, ⟨_, _, rfl, (fr_3_2.ext ((((z4.trans z5).trans z6).trans z10).trans z14))⟩, ⟨[.int .i64 y4.1.Min], [.int .i64 y4.1.Max], rfl, rfl, rfl⟩⟩⟩⟩) Els.nil)
          refine Op_.made (.buildSlice 26 1 #[(0, (.tmp 32))]) 33 26 (fun b => .slice (Gp (some b)) 1 1) 28 ([.int .i64 y4.1.Kind, .int .u64 (gi y4.1.Set 0), .int .u64 (gi y4.1.Set 1), .int .u64 (gi y4.1.Set 2), .int .u64 (gi y4.1.Set 3), .slice Ar_3_2 y4.1.L.length cr_3_2, .int .i64 y4.1.Min, .int .i64 y4.1.Max] : List Value) p14 (Goes.vs (by kernel_rfl)) (by kernel_rfl) ?_
          intro b25 w15 z15 p15
          have p15 : Hp nz wz S14 w15 (((some b25), .row 28 ([.int .i64 y4.1.Kind, .int .u64 (gi y4.1.Set 0), .int .u64 (gi y4.1.Set 1), .int .u64 (gi y4.1.Set 2), .int .u64 (gi y4.1.Set 3), .slice Ar_3_2 y4.1.L.length cr_3_2, .int .i64 y4.1.Min, .int .i64 y4.1.Max] : List Value) (1 * kT27.size) 0) :: (some gx0, .row 49 [.string y22.2.s, .int .i64 y22.2.at_, .int .i64 y22.2.deep, ve0_14v_3] 4 0) :: (some b6, .row 28 [.int .i64 y4.1.Kind, .int .u64 (gi y4.1.Set 0), .int .u64 (gi y4.1.Set 1), .int .u64 (gi y4.1.Set 2), .int .u64 (gi y4.1.Set 3), .slice Ar_3_2 y4.1.L.length cr_3_2, .int .i64 y4.1.Min, .int .i64 y4.1.Max] 8 0) :: (some b2, .row 28 [.int .i64 0, .int .u64 0, .int .u64 0, .int .u64 0, .int .u64 0, .slice none 0 0, .int .i64 0, .int .i64 0] 8 0) :: Lr) := p15
          refine Goes.runs 3 [(34, .int .i64 0), (35, .int .i64 1), (36, .agg #[.int .i64 4, .int .u64 0, .int .u64 0, .int .u64 0, .int .u64 0, .slice (Gp (some b25)) 1 1, .int .i64 0, .int .i64 1])] [.inRegion (opsOf (sub [1, 1, 1, 1, 0] B55)) [5], .code (sub [1, 1, 1, 1, 1] B55)] (by kernel_rfl) ?_
          refine Op_.st 28 (.tmp 2) (.tmp 36) 0 3 b2 0 (.agg #[.int .i64 4, .int .u64 0, .int .u64 0, .int .u64 0, .int .u64 0, .slice (Gp (some b25)) 1 1, .int .i64 0, .int .i64 1]) [.int .i64 4, .int .u64 0, .int .u64 0, .int .u64 0, .int .u64 0, .slice (Gp (some b25)) 1 1, .int .i64 0, .int .i64 1] p15 rfl (Goes.ss (by kernel_rfl)) (by kernel_rfl) (by kernel_rfl) (by kernel_rfl) (by kernel_rfl) (Nat.zero_le _) (by simp only [List.length_cons, List.length_nil]; omega) (by simp [Value.oneCell']) ?_
          intro w16 z16 p16
          refine Goes.runs 1 [] [.code (sub [1, 1, 1, 1, 1] B55)] (by kernel_rfl) ?_
          obtain ⟨S17, z17, p17, f28⟩ := p16.freezeRd 0 rfl (f26.ext (z15.trans z16)) (by decide)
          obtain rfl := Option.some.inj h
          have p17 := (p17.front 0 _ rfl).drop
          have p17 := (p17.front 1 _ rfl).drop
          have p17 := p17.front 0 _ rfl
          have p17 := p17.front 1 _ rfl
          exact Goes.ret (fn := Try.f55) (by kernel_rfl) (v := .agg #[.int .i64 4, .int .u64 0, .int .u64 0, .int .u64 0, .int .u64 0, .slice (Gp (some b25)) 1 1, .int .i64 0, .int .i64 1]) (results_n1 (fn := Try.f55) (a := .cell 2 28) (by kernel_rfl) (resV_cell ⟨b2, 0, none⟩ (by kernel_rfl) (run_loadN [.int .i64 4, .int .u64 0, .int .u64 0, .int .u64 0, .int .u64 0, .slice (Gp (some b25)) 1 1, .int .i64 0, .int .i64 1] (by kernel_rfl) (by kernel_rfl) (At_part (us := []) (vs := [.int .i64 4, .int .u64 0, .int .u64 0, .int .u64 0, .int .u64 0, .slice (Gp (some b25)) 1 1, .int .i64 0, .int .i64 1]) (ws := []) (p17.mem 0 rfl) 0 rfl)))) ⟨S17, (Gp (some b25)), 1, 1, ve0_14v_3, rfl, (((((((((((Ext.refl S0 w0).trans z2).trans z3).trans z4).trans z5).trans z6).trans z10).trans z14).trans z15).trans z16).trans z17), p17.drop, rfl, f28, rfl, (fe0_14v_3.ext ((z15.trans z16).trans z17))⟩
        · have h24' : y22.1 = false := by simpa using h24
          rw [h24']
          refine Goes.runs 4 [(24, .pointer (some ⟨gx0, 0, none⟩))] [.inRegion (opsOf (sub [1, 1, 1, 0, 1, 0, 1, 1, 1, 1, 1, 1, 0] B55)) [1, 2], .code (sub [1, 1, 1, 0, 1, 0, 1, 1, 1, 1, 1, 1, 1] B55), .inBlock 0, .code (sub [1, 1, 1, 1] B55)] (by kernel_rfl) ?_
          refine bind_some' h fun y29 e30 h => ?_
          refine Op_.call (.call { callee := .value (.func 35), args := #[(.tmp 24), (.const (.int .u8 123))], argTypes := #[46, 5] }) 25 4 35 #[.pointer (some ⟨gx0, 0, none⟩), .int .u8 123] (Goes.cs (by kernel_rfl)) (by kernel_rfl) (W.syntax_parser_take y22.2 123 y29 e30 nz wz S14 w14 ((some b6, .row 28 [.int .i64 y4.1.Kind, .int .u64 (gi y4.1.Set 0), .int .u64 (gi y4.1.Set 1), .int .u64 (gi y4.1.Set 2), .int .u64 (gi y4.1.Set 3), .slice Ar_3_2 y4.1.L.length cr_3_2, .int .i64 y4.1.Min, .int .i64 y4.1.Max] 8 0) :: (some b2, .row 28 [.int .i64 0, .int .u64 0, .int .u64 0, .int .u64 0, .int .u64 0, .slice none 0 0, .int .i64 0, .int .i64 0] 8 0) :: Lr) gx0 ve0_14v_3 p14 fe0_14v_3) ?_
          rintro _ w18 ⟨S18, ve0_18v_3, rfl, z18, p18, fe0_18v_3⟩
          refine Goes.runs 2 [(23, .bool y29.1)] [.code (sub [1, 1, 1, 0, 1, 0, 1, 1, 1, 1, 1, 1, 1] B55), .inBlock 0, .code (sub [1, 1, 1, 1] B55)] (by kernel_rfl) ?_
          refine ite_some h (fun h31 h => ?_) (fun h31 h => ?_)
          · rw [h31]
            refine Goes.runs 4 [(27, .pointer (some ⟨gx0, 0, none⟩)), (28, .int .i64 y4.2.at_)] [.inRegion (opsOf (sub [1, 1, 1, 0, 1, 0, 1, 1, 1, 1, 1, 1, 1, 0] B55)) [2, 3, 4, 5, 6, 7], .inBlock 0, .code (sub [1, 1, 1, 1] B55)] (by kernel_rfl) ?_
            refine bind_some' h fun y32 e33 h => ?_
            refine Op_.call (.call { callee := .value (.func 74), args := #[(.tmp 27), (.tmp 28)], argTypes := #[46, 3] }) 29 129 74 #[.pointer (some ⟨gx0, 0, none⟩), .int .i64 y4.2.at_] (Goes.cs (by kernel_rfl)) (by kernel_rfl) (W.syntax_parser_counted y29.2 y4.2.at_ y32 e33 nz wz S18 w18 ((some b6, .row 28 [.int .i64 y4.1.Kind, .int .u64 (gi y4.1.Set 0), .int .u64 (gi y4.1.Set 1), .int .u64 (gi y4.1.Set 2), .int .u64 (gi y4.1.Set 3), .slice Ar_3_2 y4.1.L.length cr_3_2, .int .i64 y4.1.Min, .int .i64 y4.1.Max] 8 0) :: (some b2, .row 28 [.int .i64 0, .int .u64 0, .int .u64 0, .int .u64 0, .int .u64 0, .slice none 0 0, .int .i64 0, .int .i64 0] 8 0) :: Lr) gx0 ve0_18v_3 p18 fe0_18v_3) ?_
            rintro _ w19 ⟨S19, ve0_19v_3, rfl, z19, p19, fe0_19v_3⟩
            refine Goes.runs 9 [(26, .tuple #[.int .i64 y32.1, .int .i64 y32.2.1]), (30, .int .i64 y32.1), (31, .int .i64 y32.2.1), (4, .int .i64 y32.1), (5, .int .i64 y32.2.1)] [.inRegion (opsOf (sub [1, 1, 1, 1, 0] B55)) [0, 1, 2, 3, 4, 5], .code (sub [1, 1, 1, 1, 1] B55)] (by kernel_rfl) ?_
            refine Op_.ldN 28 (.tmp 3) 32 28 ⟨b6, 0, none⟩ [.int .i64 y4.1.Kind, .int .u64 (gi y4.1.Set 0), .int .u64 (gi y4.1.Set 1), .int .u64 (gi y4.1.Set 2), .int .u64 (gi y4.1.Set 3), .slice Ar_3_2 y4.1.L.length cr_3_2, .int .i64 y4.1.Min, .int .i64 y4.1.Max] (Goes.vs (by kernel_rfl)) (by kernel_rfl) (by kernel_rfl) (by kernel_rfl) (At_part (us := []) (vs := [.int .i64 y4.1.Kind, .int .u64 (gi y4.1.Set 0), .int .u64 (gi y4.1.Set 1), .int .u64 (gi y4.1.Set 2), .int .u64 (gi y4.1.Set 3), .slice Ar_3_2 y4.1.L.length cr_3_2, .int .i64 y4.1.Min, .int .i64 y4.1.Max]) (ws := []) (p19.mem 1 rfl) 0 rfl) ?_
            have f35 : Els kT27 S19 w19 ([.int .i64 y4.1.Kind, .int .u64 (gi y4.1.Set 0), .int .u64 (gi y4.1.Set 1), .int .u64 (gi y4.1.Set 2), .int .u64 (gi y4.1.Set 3), .slice Ar_3_2 y4.1.L.length cr_3_2, .int .i64 y4.1.Min, .int .i64 y4.1.Max] : List Value) [y4.1] := by exact (Els.cons (K := kT27) (vs := [.int .i64 y4.1.Kind, .int .u64 (gi y4.1.Set 0), .int .u64 (gi y4.1.Set 1), .int .u64 (gi y4.1.Set 2), .int .u64 (gi y4.1.Set 3), .slice Ar_3_2 y4.1.L.length cr_3_2, .int .i64 y4.1.Min, .int .i64 y4.1.Max]) (x := y4.1) (kT27_close ⟨[.int .i64 y4.1.Kind], [.int .u64 (gi y4.1.Set 0), .int .u64 (gi y4.1.Set 1), .int .u64 (gi y4.1.Set 2), .int .u64 (gi y4.1.Set 3), .slice Ar_3_2 y4.1.L.length cr_3_2, .int .i64 y4.1.Min, .int .i64 y4.1.Max], rfl, rfl, ⟨[.int .u64 (gi y4.1.Set 0), .int .u64 (gi y4.1.Set 1), .int .u64 (gi y4.1.Set 2), .int .u64 (gi y4.1.Set 3)], [.slice Ar_3_2 y4.1.L.length cr_3_2, .int .i64 y4.1.Min, .int .i64 y4.1.Max], rfl, ⟨lr_3_1, els_mk4 lr_3_1⟩, ⟨[.slice Ar_3_2 y4.1.L.length cr_3_2], [.int .i64 y4.1.Min, .int .i64 y4.1.Max], rfl, ⟨_, _, rfl, (fr_3_2.ext ((((((z4.trans z5).trans z6).trans z10).trans z14).trans z18).trans z19))⟩, ⟨[.int .i64 y4.1.Min], [.int .i64 y4.1.Max], rfl, rfl, rfl⟩⟩⟩⟩) Els.nil)
            refine Op_.made (.buildSlice 26 1 #[(0, (.tmp 32))]) 33 26 (fun b => .slice (Gp (some b)) 1 1) 28 ([.int .i64 y4.1.Kind, .int .u64 (gi y4.1.Set 0), .int .u64 (gi y4.1.Set 1), .int .u64 (gi y4.1.Set 2), .int .u64 (gi y4.1.Set 3), .slice Ar_3_2 y4.1.L.length cr_3_2, .int .i64 y4.1.Min, .int .i64 y4.1.Max] : List Value) p19 (Goes.vs (by kernel_rfl)) (by kernel_rfl) ?_
            intro b34 w20 z20 p20
            have p20 : Hp nz wz S19 w20 (((some b34), .row 28 ([.int .i64 y4.1.Kind, .int .u64 (gi y4.1.Set 0), .int .u64 (gi y4.1.Set 1), .int .u64 (gi y4.1.Set 2), .int .u64 (gi y4.1.Set 3), .slice Ar_3_2 y4.1.L.length cr_3_2, .int .i64 y4.1.Min, .int .i64 y4.1.Max] : List Value) (1 * kT27.size) 0) :: (some gx0, .row 49 [.string y32.2.2.s, .int .i64 y32.2.2.at_, .int .i64 y32.2.2.deep, ve0_19v_3] 4 0) :: (some b6, .row 28 [.int .i64 y4.1.Kind, .int .u64 (gi y4.1.Set 0), .int .u64 (gi y4.1.Set 1), .int .u64 (gi y4.1.Set 2), .int .u64 (gi y4.1.Set 3), .slice Ar_3_2 y4.1.L.length cr_3_2, .int .i64 y4.1.Min, .int .i64 y4.1.Max] 8 0) :: (some b2, .row 28 [.int .i64 0, .int .u64 0, .int .u64 0, .int .u64 0, .int .u64 0, .slice none 0 0, .int .i64 0, .int .i64 0] 8 0) :: Lr) := p20
            refine Goes.runs 3 [(34, .int .i64 y32.1), (35, .int .i64 y32.2.1), (36, .agg #[.int .i64 4, .int .u64 0, .int .u64 0, .int .u64 0, .int .u64 0, .slice (Gp (some b34)) 1 1, .int .i64 y32.1, .int .i64 y32.2.1])] [.inRegion (opsOf (sub [1, 1, 1, 1, 0] B55)) [5], .code (sub [1, 1, 1, 1, 1] B55)] (by kernel_rfl) ?_
            refine Op_.st 28 (.tmp 2) (.tmp 36) 0 3 b2 0 (.agg #[.int .i64 4, .int .u64 0, .int .u64 0, .int .u64 0, .int .u64 0, .slice (Gp (some b34)) 1 1, .int .i64 y32.1, .int .i64 y32.2.1]) [.int .i64 4, .int .u64 0, .int .u64 0, .int .u64 0, .int .u64 0, .slice (Gp (some b34)) 1 1, .int .i64 y32.1, .int .i64 y32.2.1] p20 rfl (Goes.ss (by kernel_rfl)) (by kernel_rfl) (by kernel_rfl) (by kernel_rfl) (by kernel_rfl) (Nat.zero_le _) (by simp only [List.length_cons, List.length_nil]; omega) (by simp [Value.oneCell']) ?_
            intro w21 z21 p21
            refine Goes.runs 1 [] [.code (sub [1, 1, 1, 1, 1] B55)] (by kernel_rfl) ?_
            obtain ⟨S22, z22, p22, f37⟩ := p21.freezeRd 0 rfl (f35.ext (z20.trans z21)) (by decide)
            obtain rfl := Option.some.inj h
            have p22 := (p22.front 0 _ rfl).drop
            have p22 := (p22.front 1 _ rfl).drop
            have p22 := p22.front 0 _ rfl
            have p22 := p22.front 1 _ rfl
            exact Goes.ret (fn := Try.f55) (by kernel_rfl) (v := .agg #[.int .i64 4, .int .u64 0, .int .u64 0, .int .u64 0, .int .u64 0, .slice (Gp (some b34)) 1 1, .int .i64 y32.1, .int .i64 y32.2.1]) (results_n1 (fn := Try.f55) (a := .cell 2 28) (by kernel_rfl) (resV_cell ⟨b2, 0, none⟩ (by kernel_rfl) (run_loadN [.int .i64 4, .int .u64 0, .int .u64 0, .int .u64 0, .int .u64 0, .slice (Gp (some b34)) 1 1, .int .i64 y32.1, .int .i64 y32.2.1] (by kernel_rfl) (by kernel_rfl) (At_part (us := []) (vs := [.int .i64 4, .int .u64 0, .int .u64 0, .int .u64 0, .int .u64 0, .slice (Gp (some b34)) 1 1, .int .i64 y32.1, .int .i64 y32.2.1]) (ws := []) (p22.mem 0 rfl) 0 rfl)))) ⟨S22, (Gp (some b34)), 1, 1, ve0_19v_3, rfl, (((((((((((((Ext.refl S0 w0).trans z2).trans z3).trans z4).trans z5).trans z6).trans z10).trans z14).trans z18).trans z19).trans z20).trans z21).trans z22), p22.drop, rfl, f37, rfl, (fe0_19v_3.ext ((z20.trans z21).trans z22))⟩
          · have h31' : y29.1 = false := by simpa using h31
            rw [h31']
            refine Goes.runs 3 [] [.inRegion (opsOf (sub [1, 1, 1, 0, 1, 0, 1, 1, 1, 1, 1, 1, 1, 1, 0] B55)) [0, 1], .code (sub [1, 1, 1, 0, 1, 0, 1, 1, 1, 1, 1, 1, 1, 1, 1] B55), .inBlock 0, .code (sub [1, 1, 1, 1] B55)] (by kernel_rfl) ?_
            refine Op_.ldN 28 (.tmp 3) 13 28 ⟨b6, 0, none⟩ [.int .i64 y4.1.Kind, .int .u64 (gi y4.1.Set 0), .int .u64 (gi y4.1.Set 1), .int .u64 (gi y4.1.Set 2), .int .u64 (gi y4.1.Set 3), .slice Ar_3_2 y4.1.L.length cr_3_2, .int .i64 y4.1.Min, .int .i64 y4.1.Max] (Goes.vs (by kernel_rfl)) (by kernel_rfl) (by kernel_rfl) (by kernel_rfl) (At_part (us := []) (vs := [.int .i64 y4.1.Kind, .int .u64 (gi y4.1.Set 0), .int .u64 (gi y4.1.Set 1), .int .u64 (gi y4.1.Set 2), .int .u64 (gi y4.1.Set 3), .slice Ar_3_2 y4.1.L.length cr_3_2, .int .i64 y4.1.Min, .int .i64 y4.1.Max]) (ws := []) (p18.mem 1 rfl) 0 rfl) ?_
            refine Op_.st 28 (.tmp 2) (.tmp 13) 0 2 b2 0 (.agg #[.int .i64 y4.1.Kind, .int .u64 (gi y4.1.Set 0), .int .u64 (gi y4.1.Set 1), .int .u64 (gi y4.1.Set 2), .int .u64 (gi y4.1.Set 3), .slice Ar_3_2 y4.1.L.length cr_3_2, .int .i64 y4.1.Min, .int .i64 y4.1.Max]) [.int .i64 y4.1.Kind, .int .u64 (gi y4.1.Set 0), .int .u64 (gi y4.1.Set 1), .int .u64 (gi y4.1.Set 2), .int .u64 (gi y4.1.Set 3), .slice Ar_3_2 y4.1.L.length cr_3_2, .int .i64 y4.1.Min, .int .i64 y4.1.Max] p18 rfl (Goes.ss (by kernel_rfl)) (by kernel_rfl) (by kernel_rfl) (by kernel_rfl) (by kernel_rfl) (Nat.zero_le _) (by simp only [List.length_cons, List.length_nil]; omega) (by simp [Value.oneCell']) ?_
            intro w23 z23 p23
            refine Goes.runs 1 [] [.code (sub [1, 1, 1, 0, 1, 0, 1, 1, 1, 1, 1, 1, 1, 1, 1] B55), .inBlock 0, .code (sub [1, 1, 1, 1] B55)] (by kernel_rfl) ?_
            obtain rfl := Option.some.inj h
            have p23 := (p23.front 1 _ rfl).drop
            have p23 := p23.front 0 _ rfl
            have p23 := p23.front 1 _ rfl
            exact Goes.ret (fn := Try.f55) (by kernel_rfl) (v := .agg #[.int .i64 y4.1.Kind, .int .u64 (gi y4.1.Set 0), .int .u64 (gi y4.1.Set 1), .int .u64 (gi y4.1.Set 2), .int .u64 (gi y4.1.Set 3), .slice Ar_3_2 y4.1.L.length cr_3_2, .int .i64 y4.1.Min, .int .i64 y4.1.Max]) (results_n1 (fn := Try.f55) (a := .cell 2 28) (by kernel_rfl) (resV_cell ⟨b2, 0, none⟩ (by kernel_rfl) (run_loadN [.int .i64 y4.1.Kind, .int .u64 (gi y4.1.Set 0), .int .u64 (gi y4.1.Set 1), .int .u64 (gi y4.1.Set 2), .int .u64 (gi y4.1.Set 3), .slice Ar_3_2 y4.1.L.length cr_3_2, .int .i64 y4.1.Min, .int .i64 y4.1.Max] (by kernel_rfl) (by kernel_rfl) (At_part (us := []) (vs := [.int .i64 y4.1.Kind, .int .u64 (gi y4.1.Set 0), .int .u64 (gi y4.1.Set 1), .int .u64 (gi y4.1.Set 2), .int .u64 (gi y4.1.Set 3), .slice Ar_3_2 y4.1.L.length cr_3_2, .int .i64 y4.1.Min, .int .i64 y4.1.Max]) (ws := []) (p23.mem 0 rfl) 0 rfl)))) ⟨S18, Ar_3_2, y4.1.L.length, cr_3_2, ve0_18v_3, rfl, ((((((((((Ext.refl S0 w0).trans z2).trans z3).trans z4).trans z5).trans z6).trans z10).trans z14).trans z18).trans z23), p23.drop, lr_3_1, (fr_3_2.ext ((((((z4.trans z5).trans z6).trans z10).trans z14).trans z18).trans z23)), rfl, (fe0_18v_3.ext z23)⟩
  · intro rec_syntax_parser_atom_l0 ih_syntax_parser_atom_l0 x0v r h nz wz S0 w0 Lr gx0 vx0v_3 p0 fx0v_3
    try dsimp only at h
    refine calls_of_goes (fn := Try.f73) (c := B73) (by kernel_rfl) (by kernel_rfl) 72 (by kernel_rfl) ?_
    refine Goes.jump 73 [(0, .pointer (some ⟨gx0, 0, none⟩))] (by kernel_rfl) (fun junk => ?_)
    refine Goes.runs 2 [] [.inRegion (opsOf (sub [0] B73)) [0], .code (sub [1] B73)] (by kernel_rfl) ?_
    refine Op_.alloc 28 2 0 (.agg #[.int .i64 0, .int .u64 0, .int .u64 0, .int .u64 0, .int .u64 0, .slice none 0 0, .int .i64 0, .int .i64 0]) [.int .i64 0, .int .u64 0, .int .u64 0, .int .u64 0, .int .u64 0, .slice none 0 0, .int .i64 0, .int .i64 0] p0 (Goes.vs (by kernel_rfl)) (by kernel_rfl) (by kernel_rfl) ?_
    intro b2 w2 z2 p2
    refine Goes.runs 4 [(4, .pointer (some ⟨gx0, 0, none⟩))] [.inRegion (opsOf (sub [1, 0] B73)) [1, 2], .code (sub [1, 1] B73)] (by kernel_rfl) ?_
    have p2 := p2.front 1 _ rfl
    refine bind_some' h fun y4 e5 h => ?_
    refine Op_.call (.call { callee := .value (.func 54), args := #[(.tmp 4)], argTypes := #[46] }) 5 5 54 #[.pointer (some ⟨gx0, 0, none⟩)] (Goes.cs (by kernel_rfl)) (by kernel_rfl) (W.syntax_parser_peek x0v y4 e5 nz wz S0 w2 ((some b2, .row 28 [.int .i64 0, .int .u64 0, .int .u64 0, .int .u64 0, .int .u64 0, .slice none 0 0, .int .i64 0, .int .i64 0] 8 0) :: Lr) gx0 vx0v_3 p2 (fx0v_3.ext z2)) ?_
    rintro _ w3 ⟨S3, ve0_3v_3, rfl, z3, p3, fe0_3v_3⟩
    refine Goes.runs 9 [(3, .int .u8 y4.1), (7, .int .u8 y4.1), (8, .bool (decide (y4.1 < 32))), (9, .bool (decide (y4.1 < 32)))] [.inRegion (opsOf (sub [1, 1, 0, 0, 0] B73)) [3, 4, 5, 6, 7, 8, 9, 10, 11], .code (sub [1, 1, 0, 0, 1] B73), .inBlock 0, .code (sub [1, 1, 1] B73)] (by kernel_rfl) ?_
    refine ite_some h (fun h6 h => ?_) (fun h6 h => ?_)
    · rw [decide_eq_true h6]
      refine Goes.runs 10 [(10, undef), (11, undef), (12, .bool true), (13, .bool true), (14, undef), (15, undef), (16, undef), (17, .bool true), (6, .bool true)] [.code (sub [1, 1, 0, 0, 1] B73), .inBlock 0, .code (sub [1, 1, 1] B73)] (by kernel_rfl) ?_
      have p3 : Hp nz wz S3 w3 ((none, .row 28 [] (0 * kT27.size) 0) :: (some gx0, .row 49 [.string y4.2.s, .int .i64 y4.2.at_, .int .i64 y4.2.deep, ve0_3v_3] 4 0) :: (some b2, .row 28 [.int .i64 0, .int .u64 0, .int .u64 0, .int .u64 0, .int .u64 0, .slice none 0 0, .int .i64 0, .int .i64 0] 8 0) :: Lr) := p3.nilRow' 28
      have p3 := p3.front 1 _ rfl
      have p3 := p3.front 1 _ rfl
      have p3 := p3.front 2 _ rfl
      exact Goes.jump 73 [(0, .pointer (some ⟨gx0, 0, none⟩)), (2, .pointer (some ⟨b2, 0, none⟩)), (3, .int .u8 y4.1), (6, .bool true)] (by kernel_rfl) (ih_syntax_parser_atom_l0 _ _ h nz wz S0 w0 Lr gx0 _ _ (((Ext.refl S0 w0).trans z2).trans z3) b2 none 0 0 [] ve0_3v_3 p3 rfl (Els.nil (K := kT27)) rfl fe0_3v_3)
    · rw [decide_eq_false h6]
      refine Goes.runs 4 [(10, .int .u8 y4.1), (11, .bool (decide (y4.1 > 126))), (12, .bool (decide (y4.1 > 126))), (13, .bool (decide (y4.1 > 126)))] [.inRegion (opsOf (sub [1, 1, 0, 0, 0] B73)) [7, 8, 9, 10, 11], .code (sub [1, 1, 0, 0, 1] B73), .inBlock 0, .code (sub [1, 1, 1] B73)] (by kernel_rfl) ?_
      refine ite_some h (fun h10 h => ?_) (fun h10 h => ?_)
      · rw [decide_eq_true h10]
        refine Goes.runs 6 [(14, undef), (15, undef), (16, undef), (17, .bool true), (6, .bool true)] [.code (sub [1, 1, 0, 0, 1] B73), .inBlock 0, .code (sub [1, 1, 1] B73)] (by kernel_rfl) ?_
        have p3 : Hp nz wz S3 w3 ((none, .row 28 [] (0 * kT27.size) 0) :: (some gx0, .row 49 [.string y4.2.s, .int .i64 y4.2.at_, .int .i64 y4.2.deep, ve0_3v_3] 4 0) :: (some b2, .row 28 [.int .i64 0, .int .u64 0, .int .u64 0, .int .u64 0, .int .u64 0, .slice none 0 0, .int .i64 0, .int .i64 0] 8 0) :: Lr) := p3.nilRow' 28
        have p3 := p3.front 1 _ rfl
        have p3 := p3.front 1 _ rfl
        have p3 := p3.front 2 _ rfl
        exact Goes.jump 73 [(0, .pointer (some ⟨gx0, 0, none⟩)), (2, .pointer (some ⟨b2, 0, none⟩)), (3, .int .u8 y4.1), (6, .bool true)] (by kernel_rfl) (ih_syntax_parser_atom_l0 _ _ h nz wz S0 w0 Lr gx0 _ _ (((Ext.refl S0 w0).trans z2).trans z3) b2 none 0 0 [] ve0_3v_3 p3 rfl (Els.nil (K := kT27)) rfl fe0_3v_3)
      · rw [decide_eq_false h10]
        refine Goes.runs 1 [(14, .int .u8 y4.1)] [.inRegion (opsOf (sub [1, 1, 0, 0, 0] B73)) [8, 9, 10, 11], .code (sub [1, 1, 0, 0, 1] B73), .inBlock 0, .code (sub [1, 1, 1] B73)] (by kernel_rfl) ?_
        refine bind_some' h fun y12 e13 h => ?_
        refine Op_.call (.call { callee := .value (.func 52), args := #[(.const (.string ⟨#[93, 41, 42, 43, 63, 123, 125, 94, 36, 124]⟩)), (.tmp 14)], argTypes := #[9, 5] }) 15 3 52 #[.string (⟨#[93, 41, 42, 43, 63, 123, 125, 94, 36, 124]⟩ : ByteArray), .int .u8 y4.1] (Goes.cs (by kernel_rfl)) (by kernel_rfl) (W.strings_IndexByte (⟨#[93, 41, 42, 43, 63, 123, 125, 94, 36, 124]⟩ : ByteArray) y4.1 y12 e13 nz wz S3 w3 ((some gx0, .row 49 [.string y4.2.s, .int .i64 y4.2.at_, .int .i64 y4.2.deep, ve0_3v_3] 4 0) :: (some b2, .row 28 [.int .i64 0, .int .u64 0, .int .u64 0, .int .u64 0, .int .u64 0, .slice none 0 0, .int .i64 0, .int .i64 0] 8 0) :: Lr)  p3 ) ?_
        rintro _ w4 ⟨S4, rfl, z4, p4⟩
        refine Goes.runs 4 [(16, .bool (decide (y12 ≥ 0))), (17, .bool (decide (y12 ≥ 0))), (6, .bool (decide (y12 ≥ 0)))] [.code (sub [1, 1, 0, 0, 1] B73), .inBlock 0, .code (sub [1, 1, 1] B73)] (by kernel_rfl) ?_
        have p4 : Hp nz wz S4 w4 ((none, .row 28 [] (0 * kT27.size) 0) :: (some gx0, .row 49 [.string y4.2.s, .int .i64 y4.2.at_, .int .i64 y4.2.deep, ve0_3v_3] 4 0) :: (some b2, .row 28 [.int .i64 0, .int .u64 0, .int .u64 0, .int .u64 0, .int .u64 0, .slice none 0 0, .int .i64 0, .int .i64 0] 8 0) :: Lr) := p4.nilRow' 28
        have p4 := p4.front 1 _ rfl
        have p4 := p4.front 1 _ rfl
        have p4 := p4.front 2 _ rfl
        exact Goes.jump 73 [(0, .pointer (some ⟨gx0, 0, none⟩)), (2, .pointer (some ⟨b2, 0, none⟩)), (3, .int .u8 y4.1), (6, .bool (decide (y12 ≥ 0)))] (by kernel_rfl) (ih_syntax_parser_atom_l0 _ _ h nz wz S0 w0 Lr gx0 _ _ ((((Ext.refl S0 w0).trans z2).trans z3).trans z4) b2 none 0 0 [] ve0_3v_3 p4 rfl (Els.nil (K := kT27)) rfl (fe0_3v_3.ext z4))
  · intro rec_syntax_parser_atom_l1 ih_syntax_parser_atom_l1 ⟨x2v, x3, x6, e0v⟩ r h nz wz S0 w0 Lr gx0 S1 w1 hx gx2 Gx2v_2 nx2v_2 cx2v_2 csx2v_2 ve0v_3 p1 lx2v_1 fx2v_2 lx2v_2 fe0v_3 junk
    try dsimp only at h
    subst lx2v_2
    refine ite_some h (fun h15 h => ?_) (fun h15 h => ?_)
    · rw [h15]
      refine Goes.runs 7 [(18, .pointer (some ⟨gx0, 0, none⟩)), (19, .pointer (some ⟨gx0, 0, none⟩)), (20, .pointer (some ⟨gx0, 0, none⟩)), (21, .pointer (some ⟨gx0, 1, none⟩))] [.inRegion (opsOf (sub [1, 1, 0, 0, 1, 0, 0] B73)) [4, 5, 6], .code (sub [1, 1, 0, 0, 1, 0, 1] B73), .inBlock 0, .code (sub [1, 1, 1] B73)] (by kernel_rfl) ?_
      refine Op_.ld1 3 (.tmp 21) 22 3 ⟨gx0, 1, none⟩ (.int .i64 e0v.at_) (Goes.vs (by kernel_rfl)) (by kernel_rfl) (by kernel_rfl) ((p1.mem 2 rfl).cell 1 _ rfl) ?_
      have p1 := p1.front 2 _ rfl
      refine bind_some' h fun y16 e17 h => ?_
      refine Op_.call (.call { callee := .value (.func 19), args := #[(.tmp 18), (.tmp 22)], argTypes := #[46, 3] }) 23 28 19 #[.pointer (some ⟨gx0, 0, none⟩), .int .i64 e0v.at_] (Goes.cs (by kernel_rfl)) (by kernel_rfl) (W.syntax_parser_fail e0v e0v.at_ y16 e17 nz wz S1 w1 ((some gx2, .row 28 [.int .i64 x2v.Kind, .int .u64 (gi x2v.Set 0), .int .u64 (gi x2v.Set 1), .int .u64 (gi x2v.Set 2), .int .u64 (gi x2v.Set 3), .slice (Gp Gx2v_2) x2v.L.length cx2v_2, .int .i64 x2v.Min, .int .i64 x2v.Max] 8 0) :: (Gx2v_2, .row 28 csx2v_2 (cx2v_2 * kT27.size) 0) :: Lr) gx0 ve0v_3 p1 fe0v_3) ?_
      rintro _ w5 ⟨S5, Ar_5_2, nr_5_2, cr_5_2, ve0_5v_3, rfl, z5, p5, lr_5_1, fr_5_2, rfl, fe0_5v_3⟩
      refine Op_.st 28 (.tmp 2) (.tmp 23) 0 1 gx2 0 (.agg #[.int .i64 y16.1.Kind, .int .u64 (gi y16.1.Set 0), .int .u64 (gi y16.1.Set 1), .int .u64 (gi y16.1.Set 2), .int .u64 (gi y16.1.Set 3), .slice Ar_5_2 y16.1.L.length cr_5_2, .int .i64 y16.1.Min, .int .i64 y16.1.Max]) [.int .i64 y16.1.Kind, .int .u64 (gi y16.1.Set 0), .int .u64 (gi y16.1.Set 1), .int .u64 (gi y16.1.Set 2), .int .u64 (gi y16.1.Set 3), .slice Ar_5_2 y16.1.L.length cr_5_2, .int .i64 y16.1.Min, .int .i64 y16.1.Max] p5 rfl (Goes.ss (by kernel_rfl)) (by kernel_rfl) (by kernel_rfl) (by kernel_rfl) (by kernel_rfl) (Nat.zero_le _) (by simp only [List.length_cons, List.length_nil]; omega) (by simp [Value.oneCell']) ?_
      intro w6 z6 p6
      refine Goes.runs 1 [] [.code (sub [1, 1, 0, 0, 1, 0, 1] B73), .inBlock 0, .code (sub [1, 1, 1] B73)] (by kernel_rfl) ?_
      obtain rfl := Option.some.inj h
      have p6 := (p6.front 2 _ rfl).drop
      have p6 := p6.front 0 _ rfl
      have p6 := p6.front 1 _ rfl
      exact Goes.ret (fn := Try.f73) (by kernel_rfl) (v := .agg #[.int .i64 y16.1.Kind, .int .u64 (gi y16.1.Set 0), .int .u64 (gi y16.1.Set 1), .int .u64 (gi y16.1.Set 2), .int .u64 (gi y16.1.Set 3), .slice Ar_5_2 y16.1.L.length cr_5_2, .int .i64 y16.1.Min, .int .i64 y16.1.Max]) (results_n1 (fn := Try.f73) (a := .cell 2 28) (by kernel_rfl) (resV_cell ⟨gx2, 0, none⟩ (by kernel_rfl) (run_loadN [.int .i64 y16.1.Kind, .int .u64 (gi y16.1.Set 0), .int .u64 (gi y16.1.Set 1), .int .u64 (gi y16.1.Set 2), .int .u64 (gi y16.1.Set 3), .slice Ar_5_2 y16.1.L.length cr_5_2, .int .i64 y16.1.Min, .int .i64 y16.1.Max] (by kernel_rfl) (by kernel_rfl) (At_part (us := []) (vs := [.int .i64 y16.1.Kind, .int .u64 (gi y16.1.Set 0), .int .u64 (gi y16.1.Set 1), .int .u64 (gi y16.1.Set 2), .int .u64 (gi y16.1.Set 3), .slice Ar_5_2 y16.1.L.length cr_5_2, .int .i64 y16.1.Min, .int .i64 y16.1.Max]) (ws := []) (p6.mem 0 rfl) 0 rfl)))) ⟨S5, Ar_5_2, y16.1.L.length, cr_5_2, ve0_5v_3, rfl, ((hx.trans z5).trans z6), p6.drop, lr_5_1, (fr_5_2.ext z6), rfl, (fe0_5v_3.ext z6)⟩
    · have h15' : x6 = false := by simpa using h15
      rw [h15']
      refine Goes.runs 6 [(25, .int .u8 x3), (26, .bool (decide (x3 = 40))), (27, .bool (decide (x3 = 40)))] [.inRegion (opsOf (sub [1, 1, 0, 0, 1, 1, 0] B73)) [3, 4, 5, 6, 7, 8, 9], .code (sub [1, 1, 0, 0, 1, 1, 1] B73), .inBlock 0, .code (sub [1, 1, 1] B73)] (by kernel_rfl) ?_
      refine ite_some h (fun h18 h => ?_) (fun h18 h => ?_)
      · rw [decide_eq_true h18]
        refine Goes.runs 3 [(28, .pointer (some ⟨gx0, 0, none⟩)), (29, .pointer (some ⟨gx0, 0, none⟩)), (30, .pointer (some ⟨gx0, 2, none⟩))] [.inRegion (opsOf (sub [1, 1, 0, 0, 1, 1, 0] B73)) [6, 7, 8, 9], .code (sub [1, 1, 0, 0, 1, 1, 1] B73), .inBlock 0, .code (sub [1, 1, 1] B73)] (by kernel_rfl) ?_
        refine Op_.ld1 3 (.tmp 30) 31 3 ⟨gx0, 2, none⟩ (.int .i64 e0v.deep) (Goes.vs (by kernel_rfl)) (by kernel_rfl) (by kernel_rfl) ((p1.mem 2 rfl).cell 2 _ rfl) ?_
        refine Goes.runs 4 [(32, .bool (decide (e0v.deep = 32))), (33, .bool (decide (e0v.deep = 32))), (24, .bool (decide (e0v.deep = 32)))] [.code (sub [1, 1, 0, 0, 1, 1, 1] B73), .inBlock 0, .code (sub [1, 1, 1] B73)] (by kernel_rfl) ?_
        exact Goes.jump 73 [(0, .pointer (some ⟨gx0, 0, none⟩)), (2, .pointer (some ⟨gx2, 0, none⟩)), (3, .int .u8 x3), (24, .bool (decide (e0v.deep = 32)))] (by kernel_rfl) (ih_syntax_parser_atom_l1 _ _ h nz wz S0 w0 Lr gx0 _ _ hx gx2 Gx2v_2 x2v.L.length cx2v_2 csx2v_2 ve0v_3 p1 lx2v_1 fx2v_2 rfl fe0v_3)
      · rw [decide_eq_false h18]
        refine Goes.runs 8 [(28, undef), (29, undef), (30, undef), (31, undef), (32, undef), (33, .bool false), (24, .bool false)] [.code (sub [1, 1, 0, 0, 1, 1, 1] B73), .inBlock 0, .code (sub [1, 1, 1] B73)] (by kernel_rfl) ?_
        exact Goes.jump 73 [(0, .pointer (some ⟨gx0, 0, none⟩)), (2, .pointer (some ⟨gx2, 0, none⟩)), (3, .int .u8 x3), (24, .bool false)] (by kernel_rfl) (ih_syntax_parser_atom_l1 _ _ h nz wz S0 w0 Lr gx0 _ _ hx gx2 Gx2v_2 x2v.L.length cx2v_2 csx2v_2 ve0v_3 p1 lx2v_1 fx2v_2 rfl fe0v_3)
  · intro rec_syntax_parser_group ih_syntax_parser_group ⟨x2v, x3, x24, e0v⟩ r h nz wz S0 w0 Lr gx0 S1 w1 hx gx2 Gx2v_2 nx2v_2 cx2v_2 csx2v_2 ve0v_3 p1 lx2v_1 fx2v_2 lx2v_2 fe0v_3 junk
    try dsimp only at h
    subst lx2v_2
    refine ite_some h (fun h21 h => ?_) (fun h21 h => ?_)
    · rw [h21]
      refine Goes.runs 7 [(34, .pointer (some ⟨gx0, 0, none⟩)), (35, .pointer (some ⟨gx0, 0, none⟩)), (36, .pointer (some ⟨gx0, 0, none⟩)), (37, .pointer (some ⟨gx0, 1, none⟩))] [.inRegion (opsOf (sub [1, 1, 0, 0, 1, 1, 1, 0, 0] B73)) [4, 5, 6], .code (sub [1, 1, 0, 0, 1, 1, 1, 0, 1] B73), .inBlock 0, .code (sub [1, 1, 1] B73)] (by kernel_rfl) ?_
      refine Op_.ld1 3 (.tmp 37) 38 3 ⟨gx0, 1, none⟩ (.int .i64 e0v.at_) (Goes.vs (by kernel_rfl)) (by kernel_rfl) (by kernel_rfl) ((p1.mem 2 rfl).cell 1 _ rfl) ?_
      have p1 := p1.front 2 _ rfl
      refine bind_some' h fun y22 e23 h => ?_
      refine Op_.call (.call { callee := .value (.func 19), args := #[(.tmp 34), (.tmp 38)], argTypes := #[46, 3] }) 39 28 19 #[.pointer (some ⟨gx0, 0, none⟩), .int .i64 e0v.at_] (Goes.cs (by kernel_rfl)) (by kernel_rfl) (W.syntax_parser_fail e0v e0v.at_ y22 e23 nz wz S1 w1 ((some gx2, .row 28 [.int .i64 x2v.Kind, .int .u64 (gi x2v.Set 0), .int .u64 (gi x2v.Set 1), .int .u64 (gi x2v.Set 2), .int .u64 (gi x2v.Set 3), .slice (Gp Gx2v_2) x2v.L.length cx2v_2, .int .i64 x2v.Min, .int .i64 x2v.Max] 8 0) :: (Gx2v_2, .row 28 csx2v_2 (cx2v_2 * kT27.size) 0) :: Lr) gx0 ve0v_3 p1 fe0v_3) ?_
      rintro _ w7 ⟨S7, Ar_7_2, nr_7_2, cr_7_2, ve0_7v_3, rfl, z7, p7, lr_7_1, fr_7_2, rfl, fe0_7v_3⟩
      refine Op_.st 28 (.tmp 2) (.tmp 39) 0 1 gx2 0 (.agg #[.int .i64 y22.1.Kind, .int .u64 (gi y22.1.Set 0), .int .u64 (gi y22.1.Set 1), .int .u64 (gi y22.1.Set 2), .int .u64 (gi y22.1.Set 3), .slice Ar_7_2 y22.1.L.length cr_7_2, .int .i64 y22.1.Min, .int .i64 y22.1.Max]) [.int .i64 y22.1.Kind, .int .u64 (gi y22.1.Set 0), .int .u64 (gi y22.1.Set 1), .int .u64 (gi y22.1.Set 2), .int .u64 (gi y22.1.Set 3), .slice Ar_7_2 y22.1.L.length cr_7_2, .int .i64 y22.1.Min, .int .i64 y22.1.Max] p7 rfl (Goes.ss (by kernel_rfl)) (by kernel_rfl) (by kernel_rfl) (by kernel_rfl) (by kernel_rfl) (Nat.zero_le _) (by simp only [List.length_cons, List.length_nil]; omega) (by simp [Value.oneCell']) ?_
      intro w8 z8 p8
      refine Goes.runs 1 [] [.code (sub [1, 1, 0, 0, 1, 1, 1, 0, 1] B73), .inBlock 0, .code (sub [1, 1, 1] B73)] (by kernel_rfl) ?_
      obtain rfl := Option.some.inj h
      have p8 := (p8.front 2 _ rfl).drop
      have p8 := p8.front 0 _ rfl
      have p8 := p8.front 1 _ rfl
      exact Goes.ret (fn := Try.f73) (by kernel_rfl) (v := .agg #[.int .i64 y22.1.Kind, .int .u64 (gi y22.1.Set 0), .int .u64 (gi y22.1.Set 1), .int .u64 (gi y22.1.Set 2), .int .u64 (gi y22.1.Set 3), .slice Ar_7_2 y22.1.L.length cr_7_2, .int .i64 y22.1.Min, .int .i64 y22.1.Max]) (results_n1 (fn := Try.f73) (a := .cell 2 28) (by kernel_rfl) (resV_cell ⟨gx2, 0, none⟩ (by kernel_rfl) (run_loadN [.int .i64 y22.1.Kind, .int .u64 (gi y22.1.Set 0), .int .u64 (gi y22.1.Set 1), .int .u64 (gi y22.1.Set 2), .int .u64 (gi y22.1.Set 3), .slice Ar_7_2 y22.1.L.length cr_7_2, .int .i64 y22.1.Min, .int .i64 y22.1.Max] (by kernel_rfl) (by kernel_rfl) (At_part (us := []) (vs := [.int .i64 y22.1.Kind, .int .u64 (gi y22.1.Set 0), .int .u64 (gi y22.1.Set 1), .int .u64 (gi y22.1.Set 2), .int .u64 (gi y22.1.Set 3), .slice Ar_7_2 y22.1.L.length cr_7_2, .int .i64 y22.1.Min, .int .i64 y22.1.Max]) (ws := []) (p8.mem 0 rfl) 0 rfl)))) ⟨S7, Ar_7_2, y22.1.L.length, cr_7_2, ve0_7v_3, rfl, ((hx.trans z7).trans z8), p8.drop, lr_7_1, (fr_7_2.ext z8), rfl, (fe0_7v_3.ext z8)⟩
    · have h21' : x24 = false := by simpa using h21
      rw [h21']
      refine Goes.runs 4 [(41, .pointer (some ⟨gx0, 0, none⟩))] [.inRegion (opsOf (sub [1, 1, 0, 0, 1, 1, 1, 1, 0] B73)) [1, 2], .code (sub [1, 1, 0, 0, 1, 1, 1, 1, 1] B73), .inBlock 0, .code (sub [1, 1, 1] B73)] (by kernel_rfl) ?_
      have p1 := p1.front 2 _ rfl
      refine bind_some' h fun y24 e25 h => ?_
      refine Op_.call (.call { callee := .value (.func 35), args := #[(.tmp 41), (.const (.int .u8 46))], argTypes := #[46, 5] }) 42 4 35 #[.pointer (some ⟨gx0, 0, none⟩), .int .u8 46] (Goes.cs (by kernel_rfl)) (by kernel_rfl) (W.syntax_parser_take e0v 46 y24 e25 nz wz S1 w1 ((some gx2, .row 28 [.int .i64 x2v.Kind, .int .u64 (gi x2v.Set 0), .int .u64 (gi x2v.Set 1), .int .u64 (gi x2v.Set 2), .int .u64 (gi x2v.Set 3), .slice (Gp Gx2v_2) x2v.L.length cx2v_2, .int .i64 x2v.Min, .int .i64 x2v.Max] 8 0) :: (Gx2v_2, .row 28 csx2v_2 (cx2v_2 * kT27.size) 0) :: Lr) gx0 ve0v_3 p1 fe0v_3) ?_
      rintro _ w9 ⟨S9, ve0_9v_3, rfl, z9, p9, fe0_9v_3⟩
      refine Goes.runs 2 [(40, .bool y24.1)] [.code (sub [1, 1, 0, 0, 1, 1, 1, 1, 1] B73), .inBlock 0, .code (sub [1, 1, 1] B73)] (by kernel_rfl) ?_
      refine ite_some h (fun h26 h => ?_) (fun h26 h => ?_)
      · rw [h26]
        refine Goes.runs 3 [] [.inRegion (opsOf (sub [1, 1, 0, 0, 1, 1, 1, 1, 1, 0, 0] B73)) [0, 1, 2, 3], .code (sub [1, 1, 0, 0, 1, 1, 1, 1, 1, 0, 1] B73), .inBlock 0, .code (sub [1, 1, 1] B73)] (by kernel_rfl) ?_
        refine bind_some' h fun y27 e28 h => ?_
        refine Op_.call (.call { callee := .value (.func 82), args := #[(.const (.int .u8 10))], argTypes := #[5] }) 43 25 82 #[.int .u8 10] (Goes.cs (by kernel_rfl)) (by kernel_rfl) (W.syntax_one 10 y27 e28 nz wz S9 w9 ((some gx0, .row 49 [.string y24.2.s, .int .i64 y24.2.at_, .int .i64 y24.2.deep, ve0_9v_3] 4 0) :: (some gx2, .row 28 [.int .i64 x2v.Kind, .int .u64 (gi x2v.Set 0), .int .u64 (gi x2v.Set 1), .int .u64 (gi x2v.Set 2), .int .u64 (gi x2v.Set 3), .slice (Gp Gx2v_2) x2v.L.length cx2v_2, .int .i64 x2v.Min, .int .i64 x2v.Max] 8 0) :: (Gx2v_2, .row 28 csx2v_2 (cx2v_2 * kT27.size) 0) :: Lr)  p9 ) ?_
        rintro _ w10 ⟨S10, vsr_10, rfl, z10, p10, fr_10, lr_10⟩
        refine bind_some' h fun y29 e30 h => ?_
        refine Op_.call (.call { callee := .value (.func 81), args := #[(.tmp 43)], argTypes := #[25] }) 44 25 81 #[.agg vsr_10.toArray] (Goes.cs (by kernel_rfl)) (by kernel_rfl) (W.syntax_not y27 y29 e30 nz wz S10 w10 ((some gx0, .row 49 [.string y24.2.s, .int .i64 y24.2.at_, .int .i64 y24.2.deep, ve0_9v_3] 4 0) :: (some gx2, .row 28 [.int .i64 x2v.Kind, .int .u64 (gi x2v.Set 0), .int .u64 (gi x2v.Set 1), .int .u64 (gi x2v.Set 2), .int .u64 (gi x2v.Set 3), .slice (Gp Gx2v_2) x2v.L.length cx2v_2, .int .i64 x2v.Min, .int .i64 x2v.Max] 8 0) :: (Gx2v_2, .row 28 csx2v_2 (cx2v_2 * kT27.size) 0) :: Lr) vsr_10 p10 fr_10 lr_10) ?_
        rintro _ w11 ⟨S11, vsr_11, rfl, z11, p11, fr_11, lr_11⟩
        have l31 := Els.len1 fr_11 lr_11 rfl
        obtain rfl := els_lit4 fr_11 lr_11
        refine Goes.runs 1 [(45, .agg #[.int .i64 1, .int .u64 (gi y29 0), .int .u64 (gi y29 1), .int .u64 (gi y29 2), .int .u64 (gi y29 3), .slice none 0 0, .int .i64 0, .int .i64 0])] [.inRegion (opsOf (sub [1, 1, 0, 0, 1, 1, 1, 1, 1, 0, 0] B73)) [3], .code (sub [1, 1, 0, 0, 1, 1, 1, 1, 1, 0, 1] B73), .inBlock 0, .code (sub [1, 1, 1] B73)] (by kernel_rfl) ?_
        refine Op_.st 28 (.tmp 2) (.tmp 45) 0 1 gx2 0 (.agg #[.int .i64 1, .int .u64 (gi y29 0), .int .u64 (gi y29 1), .int .u64 (gi y29 2), .int .u64 (gi y29 3), .slice none 0 0, .int .i64 0, .int .i64 0]) [.int .i64 1, .int .u64 (gi y29 0), .int .u64 (gi y29 1), .int .u64 (gi y29 2), .int .u64 (gi y29 3), .slice none 0 0, .int .i64 0, .int .i64 0] p11 rfl (Goes.ss (by kernel_rfl)) (by kernel_rfl) (by kernel_rfl) (by kernel_rfl) (by kernel_rfl) (Nat.zero_le _) (by simp only [List.length_cons, List.length_nil]; omega) (by simp [Value.oneCell']) ?_
        intro w12 z12 p12
        refine Goes.runs 1 [] [.code (sub [1, 1, 0, 0, 1, 1, 1, 1, 1, 0, 1] B73), .inBlock 0, .code (sub [1, 1, 1] B73)] (by kernel_rfl) ?_
        obtain rfl := Option.some.inj h
        have p12 := (p12.front 2 _ rfl).drop
        have p12 := p12.front 0 _ rfl
        have p12 := p12.front 1 _ rfl
        exact Goes.ret (fn := Try.f73) (by kernel_rfl) (v := .agg #[.int .i64 1, .int .u64 (gi y29 0), .int .u64 (gi y29 1), .int .u64 (gi y29 2), .int .u64 (gi y29 3), .slice none 0 0, .int .i64 0, .int .i64 0]) (results_n1 (fn := Try.f73) (a := .cell 2 28) (by kernel_rfl) (resV_cell ⟨gx2, 0, none⟩ (by kernel_rfl) (run_loadN [.int .i64 1, .int .u64 (gi y29 0), .int .u64 (gi y29 1), .int .u64 (gi y29 2), .int .u64 (gi y29 3), .slice none 0 0, .int .i64 0, .int .i64 0] (by kernel_rfl) (by kernel_rfl) (At_part (us := []) (vs := [.int .i64 1, .int .u64 (gi y29 0), .int .u64 (gi y29 1), .int .u64 (gi y29 2), .int .u64 (gi y29 3), .slice none 0 0, .int .i64 0, .int .i64 0]) (ws := []) (p12.mem 0 rfl) 0 rfl)))) ⟨S11, none, 0, 0, ve0_9v_3, rfl, ((((hx.trans z9).trans z10).trans z11).trans z12), p12.drop, l31, Rd.none_, rfl, (fe0_9v_3.ext ((z10.trans z11).trans z12))⟩
      · have h26' : y24.1 = false := by simpa using h26
        rw [h26']
        refine Goes.runs 4 [(47, .pointer (some ⟨gx0, 0, none⟩))] [.inRegion (opsOf (sub [1, 1, 0, 0, 1, 1, 1, 1, 1, 1, 0] B73)) [1, 2], .code (sub [1, 1, 0, 0, 1, 1, 1, 1, 1, 1, 1] B73), .inBlock 0, .code (sub [1, 1, 1] B73)] (by kernel_rfl) ?_
        refine bind_some' h fun y32 e33 h => ?_
        refine Op_.call (.call { callee := .value (.func 35), args := #[(.tmp 47), (.const (.int .u8 91))], argTypes := #[46, 5] }) 48 4 35 #[.pointer (some ⟨gx0, 0, none⟩), .int .u8 91] (Goes.cs (by kernel_rfl)) (by kernel_rfl) (W.syntax_parser_take y24.2 91 y32 e33 nz wz S9 w9 ((some gx2, .row 28 [.int .i64 x2v.Kind, .int .u64 (gi x2v.Set 0), .int .u64 (gi x2v.Set 1), .int .u64 (gi x2v.Set 2), .int .u64 (gi x2v.Set 3), .slice (Gp Gx2v_2) x2v.L.length cx2v_2, .int .i64 x2v.Min, .int .i64 x2v.Max] 8 0) :: (Gx2v_2, .row 28 csx2v_2 (cx2v_2 * kT27.size) 0) :: Lr) gx0 ve0_9v_3 p9 fe0_9v_3) ?_
        rintro _ w13 ⟨S13, ve0_13v_3, rfl, z13, p13, fe0_13v_3⟩
        refine Goes.runs 2 [(46, .bool y32.1)] [.code (sub [1, 1, 0, 0, 1, 1, 1, 1, 1, 1, 1] B73), .inBlock 0, .code (sub [1, 1, 1] B73)] (by kernel_rfl) ?_
        refine ite_some h (fun h34 h => ?_) (fun h34 h => ?_)
        · rw [h34]
          refine Goes.runs 4 [(49, .pointer (some ⟨gx0, 0, none⟩))] [.inRegion (opsOf (sub [1, 1, 0, 0, 1, 1, 1, 1, 1, 1, 1, 0, 0] B73)) [1, 2], .code (sub [1, 1, 0, 0, 1, 1, 1, 1, 1, 1, 1, 0, 1] B73), .inBlock 0, .code (sub [1, 1, 1] B73)] (by kernel_rfl) ?_
          refine bind_some' h fun y35 e36 h => ?_
          refine Op_.call (.call { callee := .value (.func 83), args := #[(.tmp 49)], argTypes := #[46] }) 50 28 83 #[.pointer (some ⟨gx0, 0, none⟩)] (Goes.cs (by kernel_rfl)) (by kernel_rfl) (W.syntax_parser_class y32.2 y35 e36 nz wz S13 w13 ((some gx2, .row 28 [.int .i64 x2v.Kind, .int .u64 (gi x2v.Set 0), .int .u64 (gi x2v.Set 1), .int .u64 (gi x2v.Set 2), .int .u64 (gi x2v.Set 3), .slice (Gp Gx2v_2) x2v.L.length cx2v_2, .int .i64 x2v.Min, .int .i64 x2v.Max] 8 0) :: (Gx2v_2, .row 28 csx2v_2 (cx2v_2 * kT27.size) 0) :: Lr) gx0 ve0_13v_3 p13 fe0_13v_3) ?_
          rintro _ w14 ⟨S14, Ar_14_2, nr_14_2, cr_14_2, ve0_14v_3, rfl, z14, p14, lr_14_1, fr_14_2, rfl, fe0_14v_3⟩
          refine Op_.st 28 (.tmp 2) (.tmp 50) 0 1 gx2 0 (.agg #[.int .i64 y35.1.Kind, .int .u64 (gi y35.1.Set 0), .int .u64 (gi y35.1.Set 1), .int .u64 (gi y35.1.Set 2), .int .u64 (gi y35.1.Set 3), .slice Ar_14_2 y35.1.L.length cr_14_2, .int .i64 y35.1.Min, .int .i64 y35.1.Max]) [.int .i64 y35.1.Kind, .int .u64 (gi y35.1.Set 0), .int .u64 (gi y35.1.Set 1), .int .u64 (gi y35.1.Set 2), .int .u64 (gi y35.1.Set 3), .slice Ar_14_2 y35.1.L.length cr_14_2, .int .i64 y35.1.Min, .int .i64 y35.1.Max] p14 rfl (Goes.ss (by kernel_rfl)) (by kernel_rfl) (by kernel_rfl) (by kernel_rfl) (by kernel_rfl) (Nat.zero_le _) (by simp only [List.length_cons, List.length_nil]; omega) (by simp [Value.oneCell']) ?_
          intro w15 z15 p15
          refine Goes.runs 1 [] [.code (sub [1, 1, 0, 0, 1, 1, 1, 1, 1, 1, 1, 0, 1] B73), .inBlock 0, .code (sub [1, 1, 1] B73)] (by kernel_rfl) ?_
          obtain rfl := Option.some.inj h
          have p15 := (p15.front 2 _ rfl).drop
          have p15 := p15.front 0 _ rfl
          have p15 := p15.front 1 _ rfl
          exact Goes.ret (fn := Try.f73) (by kernel_rfl) (v := .agg #[.int .i64 y35.1.Kind, .int .u64 (gi y35.1.Set 0), .int .u64 (gi y35.1.Set 1), .int .u64 (gi y35.1.Set 2), .int .u64 (gi y35.1.Set 3), .slice Ar_14_2 y35.1.L.length cr_14_2, .int .i64 y35.1.Min, .int .i64 y35.1.Max]) (results_n1 (fn := Try.f73) (a := .cell 2 28) (by kernel_rfl) (resV_cell ⟨gx2, 0, none⟩ (by kernel_rfl) (run_loadN [.int .i64 y35.1.Kind, .int .u64 (gi y35.1.Set 0), .int .u64 (gi y35.1.Set 1), .int .u64 (gi y35.1.Set 2), .int .u64 (gi y35.1.Set 3), .slice Ar_14_2 y35.1.L.length cr_14_2, .int .i64 y35.1.Min, .int .i64 y35.1.Max] (by kernel_rfl) (by kernel_rfl) (At_part (us := []) (vs := [.int .i64 y35.1.Kind, .int .u64 (gi y35.1.Set 0), .int .u64 (gi y35.1.Set 1), .int .u64 (gi y35.1.Set 2), .int .u64 (gi y35.1.Set 3), .slice Ar_14_2 y35.1.L.length cr_14_2, .int .i64 y35.1.Min, .int .i64 y35.1.Max]) (ws := []) (p15.mem 0 rfl) 0 rfl)))) ⟨S14, Ar_14_2, y35.1.L.length, cr_14_2, ve0_14v_3, rfl, ((((hx.trans z9).trans z13).trans z14).trans z15), p15.drop, lr_14_1, (fr_14_2.ext z15), rfl, (fe0_14v_3.ext z15)⟩
        · have h34' : y32.1 = false := by simpa using h34
          rw [h34']
          refine Goes.runs 4 [(52, .pointer (some ⟨gx0, 0, none⟩))] [.inRegion (opsOf (sub [1, 1, 0, 0, 1, 1, 1, 1, 1, 1, 1, 1, 0] B73)) [1, 2], .code (sub [1, 1, 0, 0, 1, 1, 1, 1, 1, 1, 1, 1, 1] B73), .inBlock 0, .code (sub [1, 1, 1] B73)] (by kernel_rfl) ?_
          refine bind_some' h fun y37 e38 h => ?_
          refine Op_.call (.call { callee := .value (.func 35), args := #[(.tmp 52), (.const (.int .u8 40))], argTypes := #[46, 5] }) 53 4 35 #[.pointer (some ⟨gx0, 0, none⟩), .int .u8 40] (Goes.cs (by kernel_rfl)) (by kernel_rfl) (W.syntax_parser_take y32.2 40 y37 e38 nz wz S13 w13 ((some gx2, .row 28 [.int .i64 x2v.Kind, .int .u64 (gi x2v.Set 0), .int .u64 (gi x2v.Set 1), .int .u64 (gi x2v.Set 2), .int .u64 (gi x2v.Set 3), .slice (Gp Gx2v_2) x2v.L.length cx2v_2, .int .i64 x2v.Min, .int .i64 x2v.Max] 8 0) :: (Gx2v_2, .row 28 csx2v_2 (cx2v_2 * kT27.size) 0) :: Lr) gx0 ve0_13v_3 p13 fe0_13v_3) ?_
          rintro _ w16 ⟨S16, ve0_16v_3, rfl, z16, p16, fe0_16v_3⟩
          refine Goes.runs 2 [(51, .bool y37.1)] [.code (sub [1, 1, 0, 0, 1, 1, 1, 1, 1, 1, 1, 1, 1] B73), .inBlock 0, .code (sub [1, 1, 1] B73)] (by kernel_rfl) ?_
          refine ite_some h (fun h39 h => ?_) (fun h39 h => ?_)
          · rw [h39]
            refine Goes.runs 4 [(54, .pointer (some ⟨gx0, 0, none⟩))] [.inRegion (opsOf (sub [1, 1, 0, 0, 1, 1, 1, 1, 1, 1, 1, 1, 1, 0, 0] B73)) [1, 2], .code (sub [1, 1, 0, 0, 1, 1, 1, 1, 1, 1, 1, 1, 1, 0, 1] B73), .inBlock 0, .code (sub [1, 1, 1] B73)] (by kernel_rfl) ?_
            refine bind_some' h fun y40 e41 h => ?_
            refine Op_.call (.call { callee := .value (.func 84), args := #[(.tmp 54)], argTypes := #[46] }) 55 28 84 #[.pointer (some ⟨gx0, 0, none⟩)] (Goes.cs (by kernel_rfl)) (by kernel_rfl) (ih_syntax_parser_group y37.2 y40 e41 nz wz S16 w16 ((some gx2, .row 28 [.int .i64 x2v.Kind, .int .u64 (gi x2v.Set 0), .int .u64 (gi x2v.Set 1), .int .u64 (gi x2v.Set 2), .int .u64 (gi x2v.Set 3), .slice (Gp Gx2v_2) x2v.L.length cx2v_2, .int .i64 x2v.Min, .int .i64 x2v.Max] 8 0) :: (Gx2v_2, .row 28 csx2v_2 (cx2v_2 * kT27.size) 0) :: Lr) gx0 ve0_16v_3 p16 fe0_16v_3) ?_
            rintro _ w17 ⟨S17, Ar_17_2, nr_17_2, cr_17_2, ve0_17v_3, rfl, z17, p17, lr_17_1, fr_17_2, rfl, fe0_17v_3⟩
            refine Op_.st 28 (.tmp 2) (.tmp 55) 0 1 gx2 0 (.agg #[.int .i64 y40.1.Kind, .int .u64 (gi y40.1.Set 0), .int .u64 (gi y40.1.Set 1), .int .u64 (gi y40.1.Set 2), .int .u64 (gi y40.1.Set 3), .slice Ar_17_2 y40.1.L.length cr_17_2, .int .i64 y40.1.Min, .int .i64 y40.1.Max]) [.int .i64 y40.1.Kind, .int .u64 (gi y40.1.Set 0), .int .u64 (gi y40.1.Set 1), .int .u64 (gi y40.1.Set 2), .int .u64 (gi y40.1.Set 3), .slice Ar_17_2 y40.1.L.length cr_17_2, .int .i64 y40.1.Min, .int .i64 y40.1.Max] p17 rfl (Goes.ss (by kernel_rfl)) (by kernel_rfl) (by kernel_rfl) (by kernel_rfl) (by kernel_rfl) (Nat.zero_le _) (by simp only [List.length_cons, List.length_nil]; omega) (by simp [Value.oneCell']) ?_
            intro w18 z18 p18
            refine Goes.runs 1 [] [.code (sub [1, 1, 0, 0, 1, 1, 1, 1, 1, 1, 1, 1, 1, 0, 1] B73), .inBlock 0, .code (sub [1, 1, 1] B73)] (by kernel_rfl) ?_
            obtain rfl := Option.some.inj h
            have p18 := (p18.front 2 _ rfl).drop
            have p18 := p18.front 0 _ rfl
            have p18 := p18.front 1 _ rfl
            exact Goes.ret (fn := Try.f73) (by kernel_rfl) (v := .agg #[.int .i64 y40.1.Kind, .int .u64 (gi y40.1.Set 0), .int .u64 (gi y40.1.Set 1), .int .u64 (gi y40.1.Set 2), .int .u64 (gi y40.1.Set 3), .slice Ar_17_2 y40.1.L.length cr_17_2, .int .i64 y40.1.Min, .int .i64 y40.1.Max]) (results_n1 (fn := Try.f73) (a := .cell 2 28) (by kernel_rfl) (resV_cell ⟨gx2, 0, none⟩ (by kernel_rfl) (run_loadN [.int .i64 y40.1.Kind, .int .u64 (gi y40.1.Set 0), .int .u64 (gi y40.1.Set 1), .int .u64 (gi y40.1.Set 2), .int .u64 (gi y40.1.Set 3), .slice Ar_17_2 y40.1.L.length cr_17_2, .int .i64 y40.1.Min, .int .i64 y40.1.Max] (by kernel_rfl) (by kernel_rfl) (At_part (us := []) (vs := [.int .i64 y40.1.Kind, .int .u64 (gi y40.1.Set 0), .int .u64 (gi y40.1.Set 1), .int .u64 (gi y40.1.Set 2), .int .u64 (gi y40.1.Set 3), .slice Ar_17_2 y40.1.L.length cr_17_2, .int .i64 y40.1.Min, .int .i64 y40.1.Max]) (ws := []) (p18.mem 0 rfl) 0 rfl)))) ⟨S17, Ar_17_2, y40.1.L.length, cr_17_2, ve0_17v_3, rfl, (((((hx.trans z9).trans z13).trans z16).trans z17).trans z18), p18.drop, lr_17_1, (fr_17_2.ext z18), rfl, (fe0_17v_3.ext z18)⟩
          · have h39' : y37.1 = false := by simpa using h39
            rw [h39']
            refine Goes.runs 4 [(57, .pointer (some ⟨gx0, 0, none⟩))] [.inRegion (opsOf (sub [1, 1, 0, 0, 1, 1, 1, 1, 1, 1, 1, 1, 1, 1, 0] B73)) [1, 2], .code (sub [1, 1, 0, 0, 1, 1, 1, 1, 1, 1, 1, 1, 1, 1, 1] B73), .inBlock 0, .code (sub [1, 1, 1] B73)] (by kernel_rfl) ?_
            refine bind_some' h fun y42 e43 h => ?_
            refine Op_.call (.call { callee := .value (.func 35), args := #[(.tmp 57), (.const (.int .u8 92))], argTypes := #[46, 5] }) 58 4 35 #[.pointer (some ⟨gx0, 0, none⟩), .int .u8 92] (Goes.cs (by kernel_rfl)) (by kernel_rfl) (W.syntax_parser_take y37.2 92 y42 e43 nz wz S16 w16 ((some gx2, .row 28 [.int .i64 x2v.Kind, .int .u64 (gi x2v.Set 0), .int .u64 (gi x2v.Set 1), .int .u64 (gi x2v.Set 2), .int .u64 (gi x2v.Set 3), .slice (Gp Gx2v_2) x2v.L.length cx2v_2, .int .i64 x2v.Min, .int .i64 x2v.Max] 8 0) :: (Gx2v_2, .row 28 csx2v_2 (cx2v_2 * kT27.size) 0) :: Lr) gx0 ve0_16v_3 p16 fe0_16v_3) ?_
            rintro _ w19 ⟨S19, ve0_19v_3, rfl, z19, p19, fe0_19v_3⟩
            refine Goes.runs 2 [(56, .bool y42.1)] [.code (sub [1, 1, 0, 0, 1, 1, 1, 1, 1, 1, 1, 1, 1, 1, 1] B73), .inBlock 0, .code (sub [1, 1, 1] B73)] (by kernel_rfl) ?_
            refine ite_some h (fun h44 h => ?_) (fun h44 h => ?_)
            · rw [h44]
              refine Goes.runs 4 [(59, .pointer (some ⟨gx0, 0, none⟩))] [.inRegion (opsOf (sub [1, 1, 0, 0, 1, 1, 1, 1, 1, 1, 1, 1, 1, 1, 1, 0, 0] B73)) [1, 2, 3, 4], .code (sub [1, 1, 0, 0, 1, 1, 1, 1, 1, 1, 1, 1, 1, 1, 1, 0, 1] B73), .inBlock 0, .code (sub [1, 1, 1] B73)] (by kernel_rfl) ?_
              refine bind_some' h fun y45 e46 h => ?_
              refine Op_.call (.call { callee := .value (.func 85), args := #[(.tmp 59)], argTypes := #[46] }) 60 136 85 #[.pointer (some ⟨gx0, 0, none⟩)] (Goes.cs (by kernel_rfl)) (by kernel_rfl) (W.syntax_parser_escape y42.2 y45 e46 nz wz S19 w19 ((some gx2, .row 28 [.int .i64 x2v.Kind, .int .u64 (gi x2v.Set 0), .int .u64 (gi x2v.Set 1), .int .u64 (gi x2v.Set 2), .int .u64 (gi x2v.Set 3), .slice (Gp Gx2v_2) x2v.L.length cx2v_2, .int .i64 x2v.Min, .int .i64 x2v.Max] 8 0) :: (Gx2v_2, .row 28 csx2v_2 (cx2v_2 * kT27.size) 0) :: Lr) gx0 ve0_19v_3 p19 fe0_19v_3) ?_
              rintro _ w20 ⟨S20, ve0_20v_3, rfl, z20, p20, lr_20_0, fe0_20v_3⟩
              refine Goes.runs 2 [(61, .agg #[.int .u64 (gi y45.1.set_ 0), .int .u64 (gi y45.1.set_ 1), .int .u64 (gi y45.1.set_ 2), .int .u64 (gi y45.1.set_ 3)]), (62, .agg #[.int .i64 1, .int .u64 (gi y45.1.set_ 0), .int .u64 (gi y45.1.set_ 1), .int .u64 (gi y45.1.set_ 2), .int .u64 (gi y45.1.set_ 3), .slice none 0 0, .int .i64 0, .int .i64 0])] [.inRegion (opsOf (sub [1, 1, 0, 0, 1, 1, 1, 1, 1, 1, 1, 1, 1, 1, 1, 0, 0] B73)) [4], .code (sub [1, 1, 0, 0, 1, 1, 1, 1, 1, 1, 1, 1, 1, 1, 1, 0, 1] B73), .inBlock 0, .code (sub [1, 1, 1] B73)] (by kernel_rfl) ?_
              refine Op_.st 28 (.tmp 2) (.tmp 62) 0 1 gx2 0 (.agg #[.int .i64 1, .int .u64 (gi y45.1.set_ 0), .int .u64 (gi y45.1.set_ 1), .int .u64 (gi y45.1.set_ 2), .int .u64 (gi y45.1.set_ 3), .slice none 0 0, .int .i64 0, .int .i64 0]) [.int .i64 1, .int .u64 (gi y45.1.set_ 0), .int .u64 (gi y45.1.set_ 1), .int .u64 (gi y45.1.set_ 2), .int .u64 (gi y45.1.set_ 3), .slice none 0 0, .int .i64 0, .int .i64 0] p20 rfl (Goes.ss (by kernel_rfl)) (by kernel_rfl) (by kernel_rfl) (by kernel_rfl) (by kernel_rfl) (Nat.zero_le _) (by simp only [List.length_cons, List.length_nil]; omega) (by simp [Value.oneCell']) ?_
              intro w21 z21 p21
              refine Goes.runs 1 [] [.code (sub [1, 1, 0, 0, 1, 1, 1, 1, 1, 1, 1, 1, 1, 1, 1, 0, 1] B73), .inBlock 0, .code (sub [1, 1, 1] B73)] (by kernel_rfl) ?_
              obtain rfl := Option.some.inj h
              have p21 := (p21.front 2 _ rfl).drop
              have p21 := p21.front 0 _ rfl
              have p21 := p21.front 1 _ rfl
              exact Goes.ret (fn := Try.f73) (by kernel_rfl) (v := .agg #[.int .i64 1, .int .u64 (gi y45.1.set_ 0), .int .u64 (gi y45.1.set_ 1), .int .u64 (gi y45.1.set_ 2), .int .u64 (gi y45.1.set_ 3), .slice none 0 0, .int .i64 0, .int .i64 0]) (results_n1 (fn := Try.f73) (a := .cell 2 28) (by kernel_rfl) (resV_cell ⟨gx2, 0, none⟩ (by kernel_rfl) (run_loadN [.int .i64 1, .int .u64 (gi y45.1.set_ 0), .int .u64 (gi y45.1.set_ 1), .int .u64 (gi y45.1.set_ 2), .int .u64 (gi y45.1.set_ 3), .slice none 0 0, .int .i64 0, .int .i64 0] (by kernel_rfl) (by kernel_rfl) (At_part (us := []) (vs := [.int .i64 1, .int .u64 (gi y45.1.set_ 0), .int .u64 (gi y45.1.set_ 1), .int .u64 (gi y45.1.set_ 2), .int .u64 (gi y45.1.set_ 3), .slice none 0 0, .int .i64 0, .int .i64 0]) (ws := []) (p21.mem 0 rfl) 0 rfl)))) ⟨S20, none, 0, 0, ve0_20v_3, rfl, ((((((hx.trans z9).trans z13).trans z16).trans z19).trans z20).trans z21), p21.drop, lr_20_0, Rd.none_, rfl, (fe0_20v_3.ext z21)⟩
            · have h44' : y42.1 = false := by simpa using h44
              rw [h44']
              refine Goes.runs 8 [(63, .pointer (some ⟨gx0, 0, none⟩)), (64, .pointer (some ⟨gx0, 0, none⟩)), (65, .pointer (some ⟨gx0, 1, none⟩))] [.inRegion (opsOf (sub [1, 1, 1, 0] B73)) [3, 4, 5, 6, 7], .code (sub [1, 1, 1, 1] B73)] (by kernel_rfl) ?_
              refine Op_.ld1 3 (.tmp 65) 66 3 ⟨gx0, 1, none⟩ (.int .i64 y42.2.at_) (Goes.vs (by kernel_rfl)) (by kernel_rfl) (by kernel_rfl) ((p19.mem 0 rfl).cell 1 _ rfl) ?_
              refine Goes.runs 3 [(67, .int .i64 (wr .i64 (y42.2.at_ + 1))), (68, .pointer (some ⟨gx0, 0, none⟩)), (69, .pointer (some ⟨gx0, 1, none⟩))] [.inRegion (opsOf (sub [1, 1, 1, 0] B73)) [7], .code (sub [1, 1, 1, 1] B73)] (by kernel_rfl) ?_
              refine Op_.st 3 (.tmp 69) (.tmp 67) 0 0 gx0 1 (.int .i64 (wr .i64 (y42.2.at_ + 1))) [.int .i64 (wr .i64 (y42.2.at_ + 1))] p19 rfl (Goes.ss (by kernel_rfl)) (by kernel_rfl) (by kernel_rfl) (by kernel_rfl) (by kernel_rfl) (Nat.zero_le _) (by simp only [List.length_cons, List.length_nil]; omega) (by simp [Value.oneCell']) ?_
              intro w22 z22 p22
              refine Goes.runs 4 [(70, .int .u8 x3)] [.inRegion (opsOf (sub [1, 1, 1, 1, 0] B73)) [1, 2, 3], .code (sub [1, 1, 1, 1, 1] B73)] (by kernel_rfl) ?_
              refine bind_some' h fun y47 e48 h => ?_
              refine Op_.call (.call { callee := .value (.func 82), args := #[(.tmp 70)], argTypes := #[5] }) 71 25 82 #[.int .u8 x3] (Goes.cs (by kernel_rfl)) (by kernel_rfl) (W.syntax_one x3 y47 e48 nz wz S19 w22 ((some gx0, .row 49 [.string y42.2.s, .int .i64 (wr .i64 (y42.2.at_ + 1)), .int .i64 y42.2.deep, ve0_19v_3] 4 0) :: (some gx2, .row 28 [.int .i64 x2v.Kind, .int .u64 (gi x2v.Set 0), .int .u64 (gi x2v.Set 1), .int .u64 (gi x2v.Set 2), .int .u64 (gi x2v.Set 3), .slice (Gp Gx2v_2) x2v.L.length cx2v_2, .int .i64 x2v.Min, .int .i64 x2v.Max] 8 0) :: (Gx2v_2, .row 28 csx2v_2 (cx2v_2 * kT27.size) 0) :: Lr)  p22 ) ?_
              rintro _ w23 ⟨S23, vsr_23, rfl, z23, p23, fr_23, lr_23⟩
              have l49 := Els.len1 fr_23 lr_23 rfl
              obtain rfl := els_lit4 fr_23 lr_23
              refine Goes.runs 1 [(72, .agg #[.int .i64 1, .int .u64 (gi y47 0), .int .u64 (gi y47 1), .int .u64 (gi y47 2), .int .u64 (gi y47 3), .slice none 0 0, .int .i64 0, .int .i64 0])] [.inRegion (opsOf (sub [1, 1, 1, 1, 0] B73)) [3], .code (sub [1, 1, 1, 1, 1] B73)] (by kernel_rfl) ?_
              refine Op_.st 28 (.tmp 2) (.tmp 72) 0 1 gx2 0 (.agg #[.int .i64 1, .int .u64 (gi y47 0), .int .u64 (gi y47 1), .int .u64 (gi y47 2), .int .u64 (gi y47 3), .slice none 0 0, .int .i64 0, .int .i64 0]) [.int .i64 1, .int .u64 (gi y47 0), .int .u64 (gi y47 1), .int .u64 (gi y47 2), .int .u64 (gi y47 3), .slice none 0 0, .int .i64 0, .int .i64 0] p23 rfl (Goes.ss (by kernel_rfl)) (by kernel_rfl) (by kernel_rfl) (by kernel_rfl) (by kernel_rfl) (Nat.zero_le _) (by simp only [List.length_cons, List.length_nil]; omega) (by simp [Value.oneCell']) ?_
              intro w24 z24 p24
              refine Goes.runs 1 [] [.code (sub [1, 1, 1, 1, 1] B73)] (by kernel_rfl) ?_
              obtain rfl := Option.some.inj h
              have p24 := (p24.front 2 _ rfl).drop
              have p24 := p24.front 0 _ rfl
              have p24 := p24.front 1 _ rfl
              exact Goes.ret (fn := Try.f73) (by kernel_rfl) (v := .agg #[.int .i64 1, .int .u64 (gi y47 0), .int .u64 (gi y47 1), .int .u64 (gi y47 2), .int .u64 (gi y47 3), .slice none 0 0, .int .i64 0, .int .i64 0]) (results_n1 (fn := Try.f73) (a := .cell 2 28) (by kernel_rfl) (resV_cell ⟨gx2, 0, none⟩ (by kernel_rfl) (run_loadN [.int .i64 1, .int .u64 (gi y47 0), .int .u64 (gi y47 1), .int .u64 (gi y47 2), .int .u64 (gi y47 3), .slice none 0 0, .int .i64 0, .int .i64 0] (by kernel_rfl) (by kernel_rfl) (At_part (us := []) (vs := [.int .i64 1, .int .u64 (gi y47 0), .int .u64 (gi y47 1), .int .u64 (gi y47 2), .int .u64 (gi y47 3), .slice none 0 0, .int .i64 0, .int .i64 0]) (ws := []) (p24.mem 0 rfl) 0 rfl)))) ⟨S23, none, 0, 0, ve0_19v_3, rfl, (((((((hx.trans z9).trans z13).trans z16).trans z19).trans z22).trans z23).trans z24), p24.drop, l49, Rd.none_, rfl, (fe0_19v_3.ext ((z22.trans z23).trans z24))⟩
  · intro rec_syntax_parser_group_l0 ih_syntax_parser_group_l0 x0v r h nz wz S0 w0 Lr gx0 vx0v_3 p0 fx0v_3
    try dsimp only at h
    refine calls_of_goes (fn := Try.f84) (c := B84) (by kernel_rfl) (by kernel_rfl) 26 (by kernel_rfl) ?_
    refine Goes.jump 27 [(0, .pointer (some ⟨gx0, 0, none⟩))] (by kernel_rfl) (fun junk => ?_)
    refine Goes.runs 2 [] [.inRegion (opsOf (sub [0] B84)) [0], .code (sub [1] B84)] (by kernel_rfl) ?_
    refine Op_.alloc 28 2 0 (.agg #[.int .i64 0, .int .u64 0, .int .u64 0, .int .u64 0, .int .u64 0, .slice none 0 0, .int .i64 0, .int .i64 0]) [.int .i64 0, .int .u64 0, .int .u64 0, .int .u64 0, .int .u64 0, .slice none 0 0, .int .i64 0, .int .i64 0] p0 (Goes.vs (by kernel_rfl)) (by kernel_rfl) (by kernel_rfl) ?_
    intro b2 w2 z2 p2
    refine Goes.runs 5 [(4, .pointer (some ⟨gx0, 0, none⟩))] [.inRegion (opsOf (sub [1, 0, 0] B84)) [1], .code (sub [1, 0, 1] B84), .code (sub [1, 1] B84)] (by kernel_rfl) ?_
    have p2 := p2.front 1 _ rfl
    refine bind_some' h fun y4 e5 h => ?_
    refine Op_.call (.call { callee := .value (.func 35), args := #[(.tmp 4), (.const (.int .u8 63))], argTypes := #[46, 5] }) 5 4 35 #[.pointer (some ⟨gx0, 0, none⟩), .int .u8 63] (Goes.cs (by kernel_rfl)) (by kernel_rfl) (W.syntax_parser_take x0v 63 y4 e5 nz wz S0 w2 ((some b2, .row 28 [.int .i64 0, .int .u64 0, .int .u64 0, .int .u64 0, .int .u64 0, .slice none 0 0, .int .i64 0, .int .i64 0] 8 0) :: Lr) gx0 vx0v_3 p2 (fx0v_3.ext z2)) ?_
    rintro _ w3 ⟨S3, ve0_3v_3, rfl, z3, p3, fe0_3v_3⟩
    refine Goes.runs 1 [] [.code (sub [1, 0, 1] B84), .code (sub [1, 1] B84)] (by kernel_rfl) ?_
    refine ite_some h (fun h6 h => ?_) (fun h6 h => ?_)
    · rw [h6]
      refine Goes.runs 3 [(6, .pointer (some ⟨gx0, 0, none⟩))] [.inRegion (opsOf (sub [1, 0, 1, 0] B84)) [1], .code (sub [1, 1] B84)] (by kernel_rfl) ?_
      refine bind_some' h fun y7 e8 h => ?_
      refine Op_.call (.call { callee := .value (.func 87), args := #[(.tmp 6), (.const (.int .u8 58))], argTypes := #[46, 5] }) 7 0 87 #[.pointer (some ⟨gx0, 0, none⟩), .int .u8 58] (Goes.cs (by kernel_rfl)) (by kernel_rfl) (W.syntax_parser_need y4.2 58 y7 e8 nz wz S3 w3 ((some b2, .row 28 [.int .i64 0, .int .u64 0, .int .u64 0, .int .u64 0, .int .u64 0, .slice none 0 0, .int .i64 0, .int .i64 0] 8 0) :: Lr) gx0 ve0_3v_3 p3 fe0_3v_3) ?_
      rintro _ w4 ⟨S4, ve0_4v_3, rfl, z4, p4, fe0_4v_3⟩
      refine Goes.runs 1 [] [.code (sub [1, 1] B84)] (by kernel_rfl) ?_
      have p4 : Hp nz wz S4 w4 ((none, .row 28 [] (0 * kT27.size) 0) :: (some gx0, .row 49 [.string y7.s, .int .i64 y7.at_, .int .i64 y7.deep, ve0_4v_3] 4 0) :: (some b2, .row 28 [.int .i64 0, .int .u64 0, .int .u64 0, .int .u64 0, .int .u64 0, .slice none 0 0, .int .i64 0, .int .i64 0] 8 0) :: Lr) := p4.nilRow' 28
      have p4 := p4.front 1 _ rfl
      have p4 := p4.front 1 _ rfl
      have p4 := p4.front 2 _ rfl
      exact Goes.jump 27 [(0, .pointer (some ⟨gx0, 0, none⟩)), (2, .pointer (some ⟨b2, 0, none⟩))] (by kernel_rfl) (ih_syntax_parser_group_l0 _ _ h nz wz S0 w0 Lr gx0 _ _ ((((Ext.refl S0 w0).trans z2).trans z3).trans z4) b2 none 0 0 [] ve0_4v_3 p4 rfl (Els.nil (K := kT27)) rfl fe0_4v_3)
    · have h6' : y4.1 = false := by simpa using h6
      rw [h6']
      refine Goes.runs 2 [] [.code (sub [1, 1] B84)] (by kernel_rfl) ?_
      have p3 : Hp nz wz S3 w3 ((none, .row 28 [] (0 * kT27.size) 0) :: (some gx0, .row 49 [.string y4.2.s, .int .i64 y4.2.at_, .int .i64 y4.2.deep, ve0_3v_3] 4 0) :: (some b2, .row 28 [.int .i64 0, .int .u64 0, .int .u64 0, .int .u64 0, .int .u64 0, .slice none 0 0, .int .i64 0, .int .i64 0] 8 0) :: Lr) := p3.nilRow' 28
      have p3 := p3.front 1 _ rfl
      have p3 := p3.front 1 _ rfl
      have p3 := p3.front 2 _ rfl
      exact Goes.jump 27 [(0, .pointer (some ⟨gx0, 0, none⟩)), (2, .pointer (some ⟨b2, 0, none⟩))] (by kernel_rfl) (ih_syntax_parser_group_l0 _ _ h nz wz S0 w0 Lr gx0 _ _ (((Ext.refl S0 w0).trans z2).trans z3) b2 none 0 0 [] ve0_3v_3 p3 rfl (Els.nil (K := kT27)) rfl fe0_3v_3)
  · intro rec_syntax_parser_alternation ih_syntax_parser_alternation ⟨x2v, e0v⟩ r h nz wz S0 w0 Lr gx0 S1 w1 hx gx2 Gx2v_2 nx2v_2 cx2v_2 csx2v_2 ve0v_3 p1 lx2v_1 fx2v_2 lx2v_2 fe0v_3 junk
    try dsimp only at h
    subst lx2v_2
    refine Goes.runs 5 [(8, .pointer (some ⟨gx0, 0, none⟩)), (9, .pointer (some ⟨gx0, 0, none⟩)), (10, .pointer (some ⟨gx0, 2, none⟩))] [.inRegion (opsOf (sub [1, 1, 0] B84)) [3, 4, 5, 6, 7], .code (sub [1, 1, 1] B84)] (by kernel_rfl) ?_
    refine Op_.ld1 3 (.tmp 10) 11 3 ⟨gx0, 2, none⟩ (.int .i64 e0v.deep) (Goes.vs (by kernel_rfl)) (by kernel_rfl) (by kernel_rfl) ((p1.mem 2 rfl).cell 2 _ rfl) ?_
    refine Goes.runs 3 [(12, .int .i64 (wr .i64 (e0v.deep + 1))), (13, .pointer (some ⟨gx0, 0, none⟩)), (14, .pointer (some ⟨gx0, 2, none⟩))] [.inRegion (opsOf (sub [1, 1, 0] B84)) [7], .code (sub [1, 1, 1] B84)] (by kernel_rfl) ?_
    refine Op_.st 3 (.tmp 14) (.tmp 12) 0 2 gx0 2 (.int .i64 (wr .i64 (e0v.deep + 1))) [.int .i64 (wr .i64 (e0v.deep + 1))] p1 rfl (Goes.ss (by kernel_rfl)) (by kernel_rfl) (by kernel_rfl) (by kernel_rfl) (by kernel_rfl) (Nat.zero_le _) (by simp only [List.length_cons, List.length_nil]; omega) (by simp [Value.oneCell']) ?_
    intro w5 z5 p5
    refine Goes.runs 4 [(15, .pointer (some ⟨gx0, 0, none⟩))] [.inRegion (opsOf (sub [1, 1, 1, 0] B84)) [1, 2, 3], .code (sub [1, 1, 1, 1] B84)] (by kernel_rfl) ?_
    have p5 := p5.front 2 _ rfl
    refine bind_some' h fun y13 e14 h => ?_
    refine Op_.call (.call { callee := .value (.func 18), args := #[(.tmp 15)], argTypes := #[46] }) 16 28 18 #[.pointer (some ⟨gx0, 0, none⟩)] (Goes.cs (by kernel_rfl)) (by kernel_rfl) (ih_syntax_parser_alternation (⟨e0v.s, e0v.at_, wr .i64 (e0v.deep + 1), e0v.bad⟩ : T48) y13 e14 nz wz S1 w5 ((some gx2, .row 28 [.int .i64 x2v.Kind, .int .u64 (gi x2v.Set 0), .int .u64 (gi x2v.Set 1), .int .u64 (gi x2v.Set 2), .int .u64 (gi x2v.Set 3), .slice (Gp Gx2v_2) x2v.L.length cx2v_2, .int .i64 x2v.Min, .int .i64 x2v.Max] 8 0) :: (Gx2v_2, .row 28 csx2v_2 (cx2v_2 * kT27.size) 0) :: Lr) gx0 ve0v_3 p5 (fe0v_3.ext z5)) ?_
    rintro _ w6 ⟨S6, Ar_6_2, nr_6_2, cr_6_2, ve0_6v_3, rfl, z6, p6, lr_6_1, fr_6_2, rfl, fe0_6v_3⟩
    refine Op_.alloc 28 3 0 (.agg #[.int .i64 0, .int .u64 0, .int .u64 0, .int .u64 0, .int .u64 0, .slice none 0 0, .int .i64 0, .int .i64 0]) [.int .i64 0, .int .u64 0, .int .u64 0, .int .u64 0, .int .u64 0, .slice none 0 0, .int .i64 0, .int .i64 0] p6 (Goes.vs (by kernel_rfl)) (by kernel_rfl) (by kernel_rfl) ?_
    intro b15 w7 z7 p7
    refine Op_.st 28 (.tmp 3) (.tmp 16) 0 0 b15 0 (.agg #[.int .i64 y13.1.Kind, .int .u64 (gi y13.1.Set 0), .int .u64 (gi y13.1.Set 1), .int .u64 (gi y13.1.Set 2), .int .u64 (gi y13.1.Set 3), .slice Ar_6_2 y13.1.L.length cr_6_2, .int .i64 y13.1.Min, .int .i64 y13.1.Max]) [.int .i64 y13.1.Kind, .int .u64 (gi y13.1.Set 0), .int .u64 (gi y13.1.Set 1), .int .u64 (gi y13.1.Set 2), .int .u64 (gi y13.1.Set 3), .slice Ar_6_2 y13.1.L.length cr_6_2, .int .i64 y13.1.Min, .int .i64 y13.1.Max] p7 rfl (Goes.ss (by kernel_rfl)) (by kernel_rfl) (by kernel_rfl) (by kernel_rfl) (by kernel_rfl) (Nat.zero_le _) (by simp only [List.length_cons, List.length_nil]; omega) (by simp [Value.oneCell']) ?_
    intro w8 z8 p8
    refine Goes.runs 6 [(17, .pointer (some ⟨gx0, 0, none⟩)), (18, .pointer (some ⟨gx0, 0, none⟩)), (19, .pointer (some ⟨gx0, 2, none⟩))] [.inRegion (opsOf (sub [1, 1, 1, 1, 0] B84)) [3, 4, 5, 6, 7], .code (sub [1, 1, 1, 1, 1] B84)] (by kernel_rfl) ?_
    refine Op_.ld1 3 (.tmp 19) 20 3 ⟨gx0, 2, none⟩ (.int .i64 y13.2.deep) (Goes.vs (by kernel_rfl)) (by kernel_rfl) (by kernel_rfl) ((p8.mem 1 rfl).cell 2 _ rfl) ?_
    refine Goes.runs 3 [(21, .int .i64 (wr .i64 (y13.2.deep - 1))), (22, .pointer (some ⟨gx0, 0, none⟩)), (23, .pointer (some ⟨gx0, 2, none⟩))] [.inRegion (opsOf (sub [1, 1, 1, 1, 0] B84)) [7], .code (sub [1, 1, 1, 1, 1] B84)] (by kernel_rfl) ?_
    refine Op_.st 3 (.tmp 23) (.tmp 21) 0 1 gx0 2 (.int .i64 (wr .i64 (y13.2.deep - 1))) [.int .i64 (wr .i64 (y13.2.deep - 1))] p8 rfl (Goes.ss (by kernel_rfl)) (by kernel_rfl) (by kernel_rfl) (by kernel_rfl) (by kernel_rfl) (Nat.zero_le _) (by simp only [List.length_cons, List.length_nil]; omega) (by simp [Value.oneCell']) ?_
    intro w9 z9 p9
    refine Goes.runs 4 [(24, .pointer (some ⟨gx0, 0, none⟩))] [.inRegion (opsOf (sub [1, 1, 1, 1, 1, 0] B84)) [1], .code (sub [1, 1, 1, 1, 1, 1] B84)] (by kernel_rfl) ?_
    have p9 := p9.front 1 _ rfl
    refine bind_some' h fun y17 e18 h => ?_
    refine Op_.call (.call { callee := .value (.func 87), args := #[(.tmp 24), (.const (.int .u8 41))], argTypes := #[46, 5] }) 25 0 87 #[.pointer (some ⟨gx0, 0, none⟩), .int .u8 41] (Goes.cs (by kernel_rfl)) (by kernel_rfl) (W.syntax_parser_need (⟨y13.2.s, y13.2.at_, wr .i64 (y13.2.deep - 1), y13.2.bad⟩ : T48) 41 y17 e18 nz wz S6 w9 ((some b15, .row 28 [.int .i64 y13.1.Kind, .int .u64 (gi y13.1.Set 0), .int .u64 (gi y13.1.Set 1), .int .u64 (gi y13.1.Set 2), .int .u64 (gi y13.1.Set 3), .slice Ar_6_2 y13.1.L.length cr_6_2, .int .i64 y13.1.Min, .int .i64 y13.1.Max] 8 0) :: (some gx2, .row 28 [.int .i64 x2v.Kind, .int .u64 (gi x2v.Set 0), .int .u64 (gi x2v.Set 1), .int .u64 (gi x2v.Set 2), .int .u64 (gi x2v.Set 3), .slice (Gp Gx2v_2) x2v.L.length cx2v_2, .int .i64 x2v.Min, .int .i64 x2v.Max] 8 0) :: (Gx2v_2, .row 28 csx2v_2 (cx2v_2 * kT27.size) 0) :: Lr) gx0 ve0_6v_3 p9 (fe0_6v_3.ext ((z7.trans z8).trans z9))) ?_
    rintro _ w10 ⟨S10, ve0_10v_3, rfl, z10, p10, fe0_10v_3⟩
    refine Goes.runs 3 [] [.inRegion (opsOf (sub [1, 1, 1, 1, 1, 1, 0] B84)) [0, 1], .code (sub [1, 1, 1, 1, 1, 1, 1] B84)] (by kernel_rfl) ?_
    refine Op_.ldN 28 (.tmp 3) 26 28 ⟨b15, 0, none⟩ [.int .i64 y13.1.Kind, .int .u64 (gi y13.1.Set 0), .int .u64 (gi y13.1.Set 1), .int .u64 (gi y13.1.Set 2), .int .u64 (gi y13.1.Set 3), .slice Ar_6_2 y13.1.L.length cr_6_2, .int .i64 y13.1.Min, .int .i64 y13.1.Max] (Goes.vs (by kernel_rfl)) (by kernel_rfl) (by kernel_rfl) (by kernel_rfl) (At_part (us := []) (vs := [.int .i64 y13.1.Kind, .int .u64 (gi y13.1.Set 0), .int .u64 (gi y13.1.Set 1), .int .u64 (gi y13.1.Set 2), .int .u64 (gi y13.1.Set 3), .slice Ar_6_2 y13.1.L.length cr_6_2, .int .i64 y13.1.Min, .int .i64 y13.1.Max]) (ws := []) (p10.mem 1 rfl) 0 rfl) ?_
    refine Op_.st 28 (.tmp 2) (.tmp 26) 0 2 gx2 0 (.agg #[.int .i64 y13.1.Kind, .int .u64 (gi y13.1.Set 0), .int .u64 (gi y13.1.Set 1), .int .u64 (gi y13.1.Set 2), .int .u64 (gi y13.1.Set 3), .slice Ar_6_2 y13.1.L.length cr_6_2, .int .i64 y13.1.Min, .int .i64 y13.1.Max]) [.int .i64 y13.1.Kind, .int .u64 (gi y13.1.Set 0), .int .u64 (gi y13.1.Set 1), .int .u64 (gi y13.1.Set 2), .int .u64 (gi y13.1.Set 3), .slice Ar_6_2 y13.1.L.length cr_6_2, .int .i64 y13.1.Min, .int .i64 y13.1.Max] p10 rfl (Goes.ss (by kernel_rfl)) (by kernel_rfl) (by kernel_rfl) (by kernel_rfl) (by kernel_rfl) (Nat.zero_le _) (by simp only [List.length_cons, List.length_nil]; omega) (by simp [Value.oneCell']) ?_
    intro w11 z11 p11
    refine Goes.runs 1 [] [.code (sub [1, 1, 1, 1, 1, 1, 1] B84)] (by kernel_rfl) ?_
    obtain rfl := Option.some.inj h
    have p11 := (p11.front 1 _ rfl).drop
    have p11 := (p11.front 2 _ rfl).drop
    have p11 := p11.front 0 _ rfl
    have p11 := p11.front 1 _ rfl
    exact Goes.ret (fn := Try.f84) (by kernel_rfl) (v := .agg #[.int .i64 y13.1.Kind, .int .u64 (gi y13.1.Set 0), .int .u64 (gi y13.1.Set 1), .int .u64 (gi y13.1.Set 2), .int .u64 (gi y13.1.Set 3), .slice Ar_6_2 y13.1.L.length cr_6_2, .int .i64 y13.1.Min, .int .i64 y13.1.Max]) (results_n1 (fn := Try.f84) (a := .cell 2 28) (by kernel_rfl) (resV_cell ⟨gx2, 0, none⟩ (by kernel_rfl) (run_loadN [.int .i64 y13.1.Kind, .int .u64 (gi y13.1.Set 0), .int .u64 (gi y13.1.Set 1), .int .u64 (gi y13.1.Set 2), .int .u64 (gi y13.1.Set 3), .slice Ar_6_2 y13.1.L.length cr_6_2, .int .i64 y13.1.Min, .int .i64 y13.1.Max] (by kernel_rfl) (by kernel_rfl) (At_part (us := []) (vs := [.int .i64 y13.1.Kind, .int .u64 (gi y13.1.Set 0), .int .u64 (gi y13.1.Set 1), .int .u64 (gi y13.1.Set 2), .int .u64 (gi y13.1.Set 3), .slice Ar_6_2 y13.1.L.length cr_6_2, .int .i64 y13.1.Min, .int .i64 y13.1.Max]) (ws := []) (p11.mem 0 rfl) 0 rfl)))) ⟨S10, Ar_6_2, y13.1.L.length, cr_6_2, ve0_10v_3, rfl, (((((((hx.trans z5).trans z6).trans z7).trans z8).trans z9).trans z10).trans z11), p11.drop, lr_6_1, (fr_6_2.ext ((((z7.trans z8).trans z9).trans z10).trans z11)), rfl, (fe0_10v_3.ext z11)⟩

theorem W.syntax_parser_alternation : ∀ a r, M.syntax_parser_alternation a = some r → LF.syntax_parser_alternation a r := (W.syntax_parser_alternation_all).1

theorem W.syntax_parser_alternation_l0 : ∀ a r, M.syntax_parser_alternation_l0 a = some r → LL.syntax_parser_alternation_l0 a r := (W.syntax_parser_alternation_all).2.1

theorem W.syntax_parser_sequence : ∀ a r, M.syntax_parser_sequence a = some r → LF.syntax_parser_sequence a r := (W.syntax_parser_alternation_all).2.2.1

theorem W.syntax_parser_sequence_l0 : ∀ a r, M.syntax_parser_sequence_l0 a = some r → LL.syntax_parser_sequence_l0 a r := (W.syntax_parser_alternation_all).2.2.2.1

theorem W.syntax_parser_sequence_l1 : ∀ a r, M.syntax_parser_sequence_l1 a = some r → LL.syntax_parser_sequence_l1 a r := (W.syntax_parser_alternation_all).2.2.2.2.1

theorem W.syntax_parser_piece : ∀ a r, M.syntax_parser_piece a = some r → LF.syntax_parser_piece a r := (W.syntax_parser_alternation_all).2.2.2.2.2.1

theorem W.syntax_parser_atom : ∀ a r, M.syntax_parser_atom a = some r → LF.syntax_parser_atom a r := (W.syntax_parser_alternation_all).2.2.2.2.2.2.1

theorem W.syntax_parser_atom_l0 : ∀ a r, M.syntax_parser_atom_l0 a = some r → LL.syntax_parser_atom_l0 a r := (W.syntax_parser_alternation_all).2.2.2.2.2.2.2.1

theorem W.syntax_parser_atom_l1 : ∀ a r, M.syntax_parser_atom_l1 a = some r → LL.syntax_parser_atom_l1 a r := (W.syntax_parser_alternation_all).2.2.2.2.2.2.2.2.1

theorem W.syntax_parser_group : ∀ a r, M.syntax_parser_group a = some r → LF.syntax_parser_group a r := (W.syntax_parser_alternation_all).2.2.2.2.2.2.2.2.2.1

theorem W.syntax_parser_group_l0 : ∀ a r, M.syntax_parser_group_l0 a = some r → LL.syntax_parser_group_l0 a r := (W.syntax_parser_alternation_all).2.2.2.2.2.2.2.2.2.2

/-! tidepole/syntax.Parse -/
def Post.syntax_Parse (nz : Nat) (wz : World) (S0 : Fz) (w0 : World) (Lr : List Ent) (r : T27 × Int × Int) (v : Value) (w' : World) : Prop :=
  ∃ (S' : Fz) (Aq_0_2 : Option Addr) (nq_0_2 : Nat) (cq_0_2 : Nat), v = .tuple #[.agg #[.int .i64 r.1.Kind, .int .u64 (gi r.1.Set 0), .int .u64 (gi r.1.Set 1), .int .u64 (gi r.1.Set 2), .int .u64 (gi r.1.Set 3), .slice Aq_0_2 nq_0_2 cq_0_2, .int .i64 r.1.Min, .int .i64 r.1.Max], .int .i64 r.2.1, .int .i64 r.2.2] ∧ Ext S0 w0 S' w' ∧ Hp nz wz S' w' (Lr) ∧ r.1.Set.length = 4 ∧ Rd kT27 S' w' Aq_0_2 cq_0_2 r.1.L ∧ r.1.L.length = nq_0_2

def L.syntax_Parse_l2 (nz : Nat) (wz : World) (S0 : Fz) (w0 : World) (Lr : List Ent) : T27 × T48 × T27 × Bool → (T27 × Int × Int) → Prop := fun ⟨x2v, x5v, x6v, x40⟩ r => ∀ S1 w1, Ext S0 w0 S1 w1 → ∀ (gx2 : Nat) (Gx2v_2 : Option Nat) (nx2v_2 : Nat) (cx2v_2 : Nat) (csx2v_2 : List Value) (gx5 : Nat) (vx5v_3 : Value) (gx6 : Nat) (Ax6v_2 : Option Addr) (nx6v_2 : Nat) (cx6v_2 : Nat) (_ : Hp nz wz S1 w1 ((some gx2, .row 28 [.int .i64 x2v.Kind, .int .u64 (gi x2v.Set 0), .int .u64 (gi x2v.Set 1), .int .u64 (gi x2v.Set 2), .int .u64 (gi x2v.Set 3), .slice (Gp Gx2v_2) nx2v_2 cx2v_2, .int .i64 x2v.Min, .int .i64 x2v.Max] 8 0) :: (Gx2v_2, .row 28 csx2v_2 (cx2v_2 * kT27.size) 0) :: (some gx5, .row 49 [.string x5v.s, .int .i64 x5v.at_, .int .i64 x5v.deep, vx5v_3] 4 0) :: (some gx6, .row 28 [.int .i64 x6v.Kind, .int .u64 (gi x6v.Set 0), .int .u64 (gi x6v.Set 1), .int .u64 (gi x6v.Set 2), .int .u64 (gi x6v.Set 3), .slice Ax6v_2 nx6v_2 cx6v_2, .int .i64 x6v.Min, .int .i64 x6v.Max] 8 0) :: Lr)) (_ : x2v.Set.length = 4) (_ : Els kT27 S1 w1 csx2v_2 x2v.L) (_ : x2v.L.length = nx2v_2) (_ : PtO kT52 S1 w1 vx5v_3 x5v.bad) (_ : x6v.Set.length = 4) (_ : Rd kT27 S1 w1 Ax6v_2 cx6v_2 x6v.L) (_ : x6v.L.length = nx6v_2) (junk : Nat → Value),
  Goes Try.prog (base 8) [.code (sub [1, 1, 1, 1, 1, 0, 1] B8), .code (sub [1, 1, 1, 1, 1, 1] B8)] ⟨lfr 50 [(2, .pointer (some ⟨gx2, 0, none⟩)), (5, .pointer (some ⟨gx5, 0, none⟩)), (6, .pointer (some ⟨gx6, 0, none⟩)), (40, .bool x40)] junk, []⟩ w1 (Done Try.prog 8 (Rets (Post.syntax_Parse nz wz S0 w0 Lr r)))

theorem W.syntax_Parse_l2 (nz : Nat) (wz : World) (S0 : Fz) (w0 : World) (Lr : List Ent) : ∀ a r, M.syntax_Parse_l2 a = some r → L.syntax_Parse_l2 nz wz S0 w0 Lr a r := by
  intro ⟨x2v, x5v, x6v, x40⟩ r h S1 w1 hx gx2 Gx2v_2 nx2v_2 cx2v_2 csx2v_2 gx5 vx5v_3 gx6 Ax6v_2 nx6v_2 cx6v_2 p1 lx2v_1 fx2v_2 lx2v_2 fx5v_3 lx6v_1 fx6v_2 lx6v_2 junk
  rw [M.syntax_Parse_l2] at h
  try dsimp only at h
  subst lx2v_2
  subst lx6v_2
  refine ite_some h (fun h41 h => ?_) (fun h41 h => ?_)
  · rw [h41]
    refine Goes.runs 2 [] [.code (sub [1, 1, 1, 1, 1, 0, 1, 0, 0] B8), .code (sub [1, 1, 1, 1, 1, 0, 1, 0, 1] B8), .code (sub [1, 1, 1, 1, 1, 1] B8)] (by kernel_rfl) ?_
    have z9 : Ext S1 w1 S1 (w1).drew := Ext.draw
    have p9 := p1.draw
    refine Goes.drawn (s := []) (F := Fc S1 (w1).drew [(⟨gx5, 3, none⟩, vx5v_3)]) 8 11 (by kernel_rfl) (by kernel_rfl) (by kernel_rfl) (by kernel_rfl) ?_
    generalize (w1).drew = w9 at z9 p9 ⊢
    refine AnyG.pure (i := 0) (.build 28 #[]) 41 28 (.agg #[.int .i64 0, .int .u64 0, .int .u64 0, .int .u64 0, .int .u64 0, .slice none 0 0, .int .i64 0, .int .i64 0]) (by kernel_rfl) (by kernel_rfl) (by kernel_rfl) (Fc.here ⟨((p9.mem 2 rfl).cell 3 _ rfl), trivial⟩) ?_
    refine AnyG.pure (i := 1) (.move (.tmp 5)) 42 46 (.pointer (some ⟨gx5, 0, none⟩)) (by kernel_rfl) (by kernel_rfl) (by kernel_rfl) (Fc.here ⟨((p9.mem 2 rfl).cell 3 _ rfl), trivial⟩) ?_
    refine AnyG.pure (i := 2) (.nilCheck (.tmp 42)) 43 0 (.pointer (some ⟨gx5, 0, none⟩)) (by kernel_rfl) (by kernel_rfl) (by kernel_rfl) (Fc.here ⟨((p9.mem 2 rfl).cell 3 _ rfl), trivial⟩) ?_
    refine AnyG.pure (i := 3) (.fieldAddr 49 (.tmp 43) 3) 44 0 (.pointer (some ⟨gx5, 3, none⟩)) (by kernel_rfl) (by kernel_rfl) (by kernel_rfl) (Fc.here ⟨((p9.mem 2 rfl).cell 3 _ rfl), trivial⟩) ?_
    refine AnyG.ld1 (i := 4) 47 (.tmp 44) 45 47 ⟨gx5, 3, none⟩ (vx5v_3) (by kernel_rfl) (by kernel_rfl) (Fc.here ⟨((p9.mem 2 rfl).cell 3 _ rfl), trivial⟩) (by kernel_rfl) (by kernel_rfl) (fun _ h => h.2.at_ 0 rfl) ?_
    refine let_some h fun v48 h42 h => ?_
    rcases v48 with _ | y43
    · try dsimp only at h
      obtain rfl := PtO.nil (fx5v_3.ext z9) h42
      cases h
    · try dsimp only at h
      obtain ⟨a45, _, rfl, -, f46, q47⟩ := PtO.got (fx5v_3.ext z9) h42
      obtain rfl := q47
      refine AnyG.pure (i := 5) (.nilCheck (.tmp 45)) 46 0 (.pointer (some a45)) (by kernel_rfl) (by kernel_rfl) (by kernel_rfl) (Fc.here ⟨((p9.mem 2 rfl).cell 3 _ rfl), trivial⟩) ?_
      refine AnyG.pure (i := 6) (.fieldAddr 53 (.tmp 46) 0) 47 0 (.pointer (some (Addr.add a45 0))) (by kernel_rfl) (by kernel_rfl) (by kernel_rfl) (Fc.here ⟨((p9.mem 2 rfl).cell 3 _ rfl), trivial⟩) ?_
      refine AnyG.ld1 (i := 7) 3 (.tmp 47) 48 3 (Addr.add a45 0) (.int .i64 y43.at_) (by kernel_rfl) (by kernel_rfl) (Fc.here ⟨((p9.mem 2 rfl).cell 3 _ rfl), trivial⟩) (by kernel_rfl) (by kernel_rfl) (fun _ h => (Cs.left (us := [.int .i64 y43.at_]) (vs := []) (Cs.add (us := []) (vs := [.int .i64 y43.at_]) f46)).fc h 0 _ rfl) ?_
      refine Op_.st 28 (.tmp 2) (.tmp 41) 0 0 gx2 0 (.agg #[.int .i64 0, .int .u64 0, .int .u64 0, .int .u64 0, .int .u64 0, .slice none 0 0, .int .i64 0, .int .i64 0]) [.int .i64 0, .int .u64 0, .int .u64 0, .int .u64 0, .int .u64 0, .slice none 0 0, .int .i64 0, .int .i64 0] p9 rfl (AnyG.ss (i := 8) (by kernel_rfl) (by kernel_rfl)) (by kernel_rfl) (by kernel_rfl) (by kernel_rfl) (by kernel_rfl) (Nat.zero_le _) (by simp only [List.length_cons, List.length_nil]; omega) (by simp [Value.oneCell']) ?_
      intro w10 z10 p10
      have p10 : Hp nz wz S1 w10 ((some gx2, .row 28 [.int .i64 0, .int .u64 0, .int .u64 0, .int .u64 0, .int .u64 0, .slice none 0 0, .int .i64 0, .int .i64 0] 8 0) :: (Gx2v_2, .row 28 csx2v_2 (cx2v_2 * kT27.size) 0) :: (some gx5, .row 49 [.string x5v.s, .int .i64 x5v.at_, .int .i64 x5v.deep, .pointer (some a45)] 4 0) :: (some gx6, .row 28 [.int .i64 x6v.Kind, .int .u64 (gi x6v.Set 0), .int .u64 (gi x6v.Set 1), .int .u64 (gi x6v.Set 2), .int .u64 (gi x6v.Set 3), .slice Ax6v_2 x6v.L.length cx6v_2, .int .i64 x6v.Min, .int .i64 x6v.Max] 8 0) :: Lr) := p10
      refine AnyG.next z10 ⟨((p10.mem 2 rfl).cell 3 _ rfl), trivial⟩ ?_
      refine AnyG.pure (i := 9) (.assign (.tmp 48)) 3 3 (.int .i64 y43.at_) (by kernel_rfl) (by kernel_rfl) (by kernel_rfl) (Fc.here ⟨((p10.mem 2 rfl).cell 3 _ rfl), trivial⟩) ?_
      refine AnyG.pure (i := 10) (.assign (.const (.int .i64 100))) 4 29 (.int .i64 100) (by kernel_rfl) (by kernel_rfl) (by kernel_rfl) (Fc.here ⟨((p10.mem 2 rfl).cell 3 _ rfl), trivial⟩) ?_
      refine AnyG.done (by kernel_rfl) ?_ _
      have p10 := (p10.front 1 _ rfl).drop
      have p10 := (p10.front 1 _ rfl).drop
      have p10 := (p10.front 1 _ rfl).drop
      obtain rfl := Option.some.inj h
      exact Goes.ret (fn := Try.f8) (by kernel_rfl) (v := .tuple #[.agg #[.int .i64 0, .int .u64 0, .int .u64 0, .int .u64 0, .int .u64 0, .slice none 0 0, .int .i64 0, .int .i64 0], .int .i64 y43.at_, .int .i64 100]) (results_n3 (fn := Try.f8) (a := .cell 2 28) (b := .tmp 3) (c := .tmp 4) (by kernel_rfl) (resV_cell ⟨gx2, 0, none⟩ (by kernel_rfl) (run_loadN [.int .i64 0, .int .u64 0, .int .u64 0, .int .u64 0, .int .u64 0, .slice none 0 0, .int .i64 0, .int .i64 0] (by kernel_rfl) (by kernel_rfl) (At_part (us := []) (vs := [.int .i64 0, .int .u64 0, .int .u64 0, .int .u64 0, .int .u64 0, .slice none 0 0, .int .i64 0, .int .i64 0]) (ws := []) (p10.mem 0 rfl) 0 rfl))) (resV_tmp (by kernel_rfl)) (resV_tmp (by kernel_rfl))) ⟨S1, none, 0, 0, rfl, ((hx.trans z9).trans z10), p10.drop, rfl, Rd.none_, rfl⟩
  · have h41' : x40 = false := by simpa using h41
    rw [h41']
    refine Goes.runs 4 [] [.inRegion (opsOf (sub [1, 1, 1, 1, 1, 1, 0] B8)) [0, 1, 2, 3], .code (sub [1, 1, 1, 1, 1, 1, 1] B8)] (by kernel_rfl) ?_
    refine Op_.ldN 28 (.tmp 6) 49 28 ⟨gx6, 0, none⟩ [.int .i64 x6v.Kind, .int .u64 (gi x6v.Set 0), .int .u64 (gi x6v.Set 1), .int .u64 (gi x6v.Set 2), .int .u64 (gi x6v.Set 3), .slice Ax6v_2 x6v.L.length cx6v_2, .int .i64 x6v.Min, .int .i64 x6v.Max] (Goes.vs (by kernel_rfl)) (by kernel_rfl) (by kernel_rfl) (by kernel_rfl) (At_part (us := []) (vs := [.int .i64 x6v.Kind, .int .u64 (gi x6v.Set 0), .int .u64 (gi x6v.Set 1), .int .u64 (gi x6v.Set 2), .int .u64 (gi x6v.Set 3), .slice Ax6v_2 x6v.L.length cx6v_2, .int .i64 x6v.Min, .int .i64 x6v.Max]) (ws := []) (p1.mem 3 rfl) 0 rfl) ?_
    refine Op_.st 28 (.tmp 2) (.tmp 49) 0 0 gx2 0 (.agg #[.int .i64 x6v.Kind, .int .u64 (gi x6v.Set 0), .int .u64 (gi x6v.Set 1), .int .u64 (gi x6v.Set 2), .int .u64 (gi x6v.Set 3), .slice Ax6v_2 x6v.L.length cx6v_2, .int .i64 x6v.Min, .int .i64 x6v.Max]) [.int .i64 x6v.Kind, .int .u64 (gi x6v.Set 0), .int .u64 (gi x6v.Set 1), .int .u64 (gi x6v.Set 2), .int .u64 (gi x6v.Set 3), .slice Ax6v_2 x6v.L.length cx6v_2, .int .i64 x6v.Min, .int .i64 x6v.Max] p1 rfl (Goes.ss (by kernel_rfl)) (by kernel_rfl) (by kernel_rfl) (by kernel_rfl) (by kernel_rfl) (Nat.zero_le _) (by simp only [List.length_cons, List.length_nil]; omega) (by simp [Value.oneCell']) ?_
    intro w11 z11 p11
    refine Goes.runs 3 [(3, .int .i64 0), (4, .int .i64 0)] [.code (sub [1, 1, 1, 1, 1, 1, 1] B8)] (by kernel_rfl) ?_
    obtain rfl := Option.some.inj h
    have p11 := (p11.front 1 _ rfl).drop
    have p11 := (p11.front 1 _ rfl).drop
    have p11 := (p11.front 1 _ rfl).drop
    exact Goes.ret (fn := Try.f8) (by kernel_rfl) (v := .tuple #[.agg #[.int .i64 x6v.Kind, .int .u64 (gi x6v.Set 0), .int .u64 (gi x6v.Set 1), .int .u64 (gi x6v.Set 2), .int .u64 (gi x6v.Set 3), .slice Ax6v_2 x6v.L.length cx6v_2, .int .i64 x6v.Min, .int .i64 x6v.Max], .int .i64 0, .int .i64 0]) (results_n3 (fn := Try.f8) (a := .cell 2 28) (b := .tmp 3) (c := .tmp 4) (by kernel_rfl) (resV_cell ⟨gx2, 0, none⟩ (by kernel_rfl) (run_loadN [.int .i64 x6v.Kind, .int .u64 (gi x6v.Set 0), .int .u64 (gi x6v.Set 1), .int .u64 (gi x6v.Set 2), .int .u64 (gi x6v.Set 3), .slice Ax6v_2 x6v.L.length cx6v_2, .int .i64 x6v.Min, .int .i64 x6v.Max] (by kernel_rfl) (by kernel_rfl) (At_part (us := []) (vs := [.int .i64 x6v.Kind, .int .u64 (gi x6v.Set 0), .int .u64 (gi x6v.Set 1), .int .u64 (gi x6v.Set 2), .int .u64 (gi x6v.Set 3), .slice Ax6v_2 x6v.L.length cx6v_2, .int .i64 x6v.Min, .int .i64 x6v.Max]) (ws := []) (p11.mem 0 rfl) 0 rfl))) (resV_tmp (by kernel_rfl)) (resV_tmp (by kernel_rfl))) ⟨S1, Ax6v_2, x6v.L.length, cx6v_2, rfl, (hx.trans z11), p11.drop, lx6v_1, (fx6v_2.ext z11), rfl⟩

/-! tidepole/syntax.Parse -/
def L.syntax_Parse_l1 (nz : Nat) (wz : World) (S0 : Fz) (w0 : World) (Lr : List Ent) : T27 × T48 × T27 → (T27 × Int × Int) → Prop := fun ⟨x2v, x5v, x6v⟩ r => ∀ S1 w1, Ext S0 w0 S1 w1 → ∀ (gx2 : Nat) (Gx2v_2 : Option Nat) (nx2v_2 : Nat) (cx2v_2 : Nat) (csx2v_2 : List Value) (gx5 : Nat) (vx5v_3 : Value) (gx6 : Nat) (Ax6v_2 : Option Addr) (nx6v_2 : Nat) (cx6v_2 : Nat) (_ : Hp nz wz S1 w1 ((some gx2, .row 28 [.int .i64 x2v.Kind, .int .u64 (gi x2v.Set 0), .int .u64 (gi x2v.Set 1), .int .u64 (gi x2v.Set 2), .int .u64 (gi x2v.Set 3), .slice (Gp Gx2v_2) nx2v_2 cx2v_2, .int .i64 x2v.Min, .int .i64 x2v.Max] 8 0) :: (Gx2v_2, .row 28 csx2v_2 (cx2v_2 * kT27.size) 0) :: (some gx5, .row 49 [.string x5v.s, .int .i64 x5v.at_, .int .i64 x5v.deep, vx5v_3] 4 0) :: (some gx6, .row 28 [.int .i64 x6v.Kind, .int .u64 (gi x6v.Set 0), .int .u64 (gi x6v.Set 1), .int .u64 (gi x6v.Set 2), .int .u64 (gi x6v.Set 3), .slice Ax6v_2 nx6v_2 cx6v_2, .int .i64 x6v.Min, .int .i64 x6v.Max] 8 0) :: Lr)) (_ : x2v.Set.length = 4) (_ : Els kT27 S1 w1 csx2v_2 x2v.L) (_ : x2v.L.length = nx2v_2) (_ : PtO kT52 S1 w1 vx5v_3 x5v.bad) (_ : x6v.Set.length = 4) (_ : Rd kT27 S1 w1 Ax6v_2 cx6v_2 x6v.L) (_ : x6v.L.length = nx6v_2) (junk : Nat → Value),
  Goes Try.prog (base 8) [.code (sub [1, 1, 1, 1, 1] B8)] ⟨lfr 50 [(2, .pointer (some ⟨gx2, 0, none⟩)), (5, .pointer (some ⟨gx5, 0, none⟩)), (6, .pointer (some ⟨gx6, 0, none⟩))] junk, []⟩ w1 (Done Try.prog 8 (Rets (Post.syntax_Parse nz wz S0 w0 Lr r)))

theorem W.syntax_Parse_l1 (nz : Nat) (wz : World) (S0 : Fz) (w0 : World) (Lr : List Ent) : ∀ a r, M.syntax_Parse_l1 a = some r → L.syntax_Parse_l1 nz wz S0 w0 Lr a r := by
  intro ⟨x2v, x5v, x6v⟩ r h S1 w1 hx gx2 Gx2v_2 nx2v_2 cx2v_2 csx2v_2 gx5 vx5v_3 gx6 Ax6v_2 nx6v_2 cx6v_2 p1 lx2v_1 fx2v_2 lx2v_2 fx5v_3 lx6v_1 fx6v_2 lx6v_2 junk
  rw [M.syntax_Parse_l1] at h
  try dsimp only at h
  subst lx2v_2
  subst lx6v_2
  refine Goes.runs 6 [(36, .pointer (some ⟨gx5, 0, none⟩)), (37, .pointer (some ⟨gx5, 0, none⟩)), (38, .pointer (some ⟨gx5, 3, none⟩))] [.inRegion (opsOf (sub [1, 1, 1, 1, 1, 0, 0] B8)) [3, 4], .code (sub [1, 1, 1, 1, 1, 0, 1] B8), .code (sub [1, 1, 1, 1, 1, 1] B8)] (by kernel_rfl) ?_
  refine Op_.ld1 47 (.tmp 38) 39 47 ⟨gx5, 3, none⟩ (vx5v_3) (Goes.vs (by kernel_rfl)) (by kernel_rfl) (by kernel_rfl) ((p1.mem 2 rfl).cell 3 _ rfl) ?_
  refine let_some h fun v40 h30 h => ?_
  rcases v40 with _ | y31
  · try dsimp only at h
    obtain rfl := PtO.nil fx5v_3 h30
    refine Goes.runs 2 [(40, .bool false)] [.code (sub [1, 1, 1, 1, 1, 0, 1] B8), .code (sub [1, 1, 1, 1, 1, 1] B8)] (by kernel_rfl) ?_
    exact Goes.jump 50 [(2, .pointer (some ⟨gx2, 0, none⟩)), (5, .pointer (some ⟨gx5, 0, none⟩)), (6, .pointer (some ⟨gx6, 0, none⟩)), (40, .bool false)] (by kernel_rfl) (W.syntax_Parse_l2 nz wz S0 w0 Lr _ _ h _ _ hx gx2 Gx2v_2 x2v.L.length cx2v_2 csx2v_2 gx5 (.pointer none) gx6 Ax6v_2 x6v.L.length cx6v_2 p1 lx2v_1 fx2v_2 rfl rfl lx6v_1 fx6v_2 rfl)
  · try dsimp only at h
    obtain ⟨a33, _, rfl, -, f34, q35⟩ := PtO.got fx5v_3 h30
    obtain rfl := q35
    refine Goes.runs 2 [(40, .bool true)] [.code (sub [1, 1, 1, 1, 1, 0, 1] B8), .code (sub [1, 1, 1, 1, 1, 1] B8)] (by kernel_rfl) ?_
    exact Goes.jump 50 [(2, .pointer (some ⟨gx2, 0, none⟩)), (5, .pointer (some ⟨gx5, 0, none⟩)), (6, .pointer (some ⟨gx6, 0, none⟩)), (40, .bool true)] (by kernel_rfl) (W.syntax_Parse_l2 nz wz S0 w0 Lr _ _ h _ _ hx gx2 Gx2v_2 x2v.L.length cx2v_2 csx2v_2 gx5 (.pointer (some a33)) gx6 Ax6v_2 x6v.L.length cx6v_2 p1 lx2v_1 fx2v_2 rfl ⟨_, _, rfl, List.cons_ne_nil _ _, f34, rfl⟩ lx6v_1 fx6v_2 rfl)

/-! tidepole/syntax.Parse -/
def L.syntax_Parse_l0 (nz : Nat) (wz : World) (S0 : Fz) (w0 : World) (Lr : List Ent) : T27 × T48 × T27 × Bool → (T27 × Int × Int) → Prop := fun ⟨x2v, x5v, x6v, x29⟩ r => ∀ S1 w1, Ext S0 w0 S1 w1 → ∀ (gx2 : Nat) (Gx2v_2 : Option Nat) (nx2v_2 : Nat) (cx2v_2 : Nat) (csx2v_2 : List Value) (gx5 : Nat) (vx5v_3 : Value) (gx6 : Nat) (Ax6v_2 : Option Addr) (nx6v_2 : Nat) (cx6v_2 : Nat) (_ : Hp nz wz S1 w1 ((some gx2, .row 28 [.int .i64 x2v.Kind, .int .u64 (gi x2v.Set 0), .int .u64 (gi x2v.Set 1), .int .u64 (gi x2v.Set 2), .int .u64 (gi x2v.Set 3), .slice (Gp Gx2v_2) nx2v_2 cx2v_2, .int .i64 x2v.Min, .int .i64 x2v.Max] 8 0) :: (Gx2v_2, .row 28 csx2v_2 (cx2v_2 * kT27.size) 0) :: (some gx5, .row 49 [.string x5v.s, .int .i64 x5v.at_, .int .i64 x5v.deep, vx5v_3] 4 0) :: (some gx6, .row 28 [.int .i64 x6v.Kind, .int .u64 (gi x6v.Set 0), .int .u64 (gi x6v.Set 1), .int .u64 (gi x6v.Set 2), .int .u64 (gi x6v.Set 3), .slice Ax6v_2 nx6v_2 cx6v_2, .int .i64 x6v.Min, .int .i64 x6v.Max] 8 0) :: Lr)) (_ : x2v.Set.length = 4) (_ : Els kT27 S1 w1 csx2v_2 x2v.L) (_ : x2v.L.length = nx2v_2) (_ : PtO kT52 S1 w1 vx5v_3 x5v.bad) (_ : x6v.Set.length = 4) (_ : Rd kT27 S1 w1 Ax6v_2 cx6v_2 x6v.L) (_ : x6v.L.length = nx6v_2) (junk : Nat → Value),
  Goes Try.prog (base 8) [.code (sub [1, 1, 1, 1, 0, 1] B8), .code (sub [1, 1, 1, 1, 1] B8)] ⟨lfr 50 [(2, .pointer (some ⟨gx2, 0, none⟩)), (5, .pointer (some ⟨gx5, 0, none⟩)), (6, .pointer (some ⟨gx6, 0, none⟩)), (29, .bool x29)] junk, []⟩ w1 (Done Try.prog 8 (Rets (Post.syntax_Parse nz wz S0 w0 Lr r)))

theorem W.syntax_Parse_l0 (nz : Nat) (wz : World) (S0 : Fz) (w0 : World) (Lr : List Ent) : ∀ a r, M.syntax_Parse_l0 a = some r → L.syntax_Parse_l0 nz wz S0 w0 Lr a r := by
  intro ⟨x2v, x5v, x6v, x29⟩ r h S1 w1 hx gx2 Gx2v_2 nx2v_2 cx2v_2 csx2v_2 gx5 vx5v_3 gx6 Ax6v_2 nx6v_2 cx6v_2 p1 lx2v_1 fx2v_2 lx2v_2 fx5v_3 lx6v_1 fx6v_2 lx6v_2 junk
  rw [M.syntax_Parse_l0] at h
  try dsimp only at h
  subst lx2v_2
  subst lx6v_2
  refine ite_some h (fun h23 h => ?_) (fun h23 h => ?_)
  · rw [h23]
    refine Goes.runs 6 [(30, .pointer (some ⟨gx5, 0, none⟩)), (31, .pointer (some ⟨gx5, 0, none⟩)), (32, .pointer (some ⟨gx5, 0, none⟩)), (33, .pointer (some ⟨gx5, 1, none⟩))] [.inRegion (opsOf (sub [1, 1, 1, 1, 0, 1, 0] B8)) [4, 5], .code (sub [1, 1, 1, 1, 1] B8)] (by kernel_rfl) ?_
    refine Op_.ld1 3 (.tmp 33) 34 3 ⟨gx5, 1, none⟩ (.int .i64 x5v.at_) (Goes.vs (by kernel_rfl)) (by kernel_rfl) (by kernel_rfl) ((p1.mem 2 rfl).cell 1 _ rfl) ?_
    have p1 := p1.front 2 _ rfl
    refine bind_some' h fun y24 e25 h => ?_
    refine Op_.call (.call { callee := .value (.func 19), args := #[(.tmp 30), (.tmp 34)], argTypes := #[46, 3] }) 35 28 19 #[.pointer (some ⟨gx5, 0, none⟩), .int .i64 x5v.at_] (Goes.cs (by kernel_rfl)) (by kernel_rfl) (W.syntax_parser_fail x5v x5v.at_ y24 e25 nz wz S1 w1 ((some gx2, .row 28 [.int .i64 x2v.Kind, .int .u64 (gi x2v.Set 0), .int .u64 (gi x2v.Set 1), .int .u64 (gi x2v.Set 2), .int .u64 (gi x2v.Set 3), .slice (Gp Gx2v_2) x2v.L.length cx2v_2, .int .i64 x2v.Min, .int .i64 x2v.Max] 8 0) :: (Gx2v_2, .row 28 csx2v_2 (cx2v_2 * kT27.size) 0) :: (some gx6, .row 28 [.int .i64 x6v.Kind, .int .u64 (gi x6v.Set 0), .int .u64 (gi x6v.Set 1), .int .u64 (gi x6v.Set 2), .int .u64 (gi x6v.Set 3), .slice Ax6v_2 x6v.L.length cx6v_2, .int .i64 x6v.Min, .int .i64 x6v.Max] 8 0) :: Lr) gx5 vx5v_3 p1 fx5v_3) ?_
    rintro _ w8 ⟨S8, Ar_8_2, nr_8_2, cr_8_2, ve0_8v_3, rfl, z8, p8, lr_8_1, fr_8_2, rfl, fe0_8v_3⟩
    refine Goes.runs 1 [] [.code (sub [1, 1, 1, 1, 1] B8)] (by kernel_rfl) ?_
    have p8 := p8.front 3 _ rfl
    have p8 := p8.front 1 _ rfl
    have p8 := p8.front 3 _ rfl
    have p8 := p8.front 3 _ rfl
    exact Goes.jump 50 [(2, .pointer (some ⟨gx2, 0, none⟩)), (5, .pointer (some ⟨gx5, 0, none⟩)), (6, .pointer (some ⟨gx6, 0, none⟩))] (by kernel_rfl) (W.syntax_Parse_l1 nz wz S0 w0 Lr _ _ h _ _ (hx.trans z8) gx2 Gx2v_2 x2v.L.length cx2v_2 csx2v_2 gx5 ve0_8v_3 gx6 Ax6v_2 x6v.L.length cx6v_2 p8 lx2v_1 (fx2v_2.ext z8) rfl fe0_8v_3 lx6v_1 (fx6v_2.ext z8) rfl)
  · have h23' : x29 = false := by simpa using h23
    rw [h23']
    refine Goes.runs 2 [] [.code (sub [1, 1, 1, 1, 1] B8)] (by kernel_rfl) ?_
    exact Goes.jump 50 [(2, .pointer (some ⟨gx2, 0, none⟩)), (5, .pointer (some ⟨gx5, 0, none⟩)), (6, .pointer (some ⟨gx6, 0, none⟩))] (by kernel_rfl) (W.syntax_Parse_l1 nz wz S0 w0 Lr _ _ h _ _ hx gx2 Gx2v_2 x2v.L.length cx2v_2 csx2v_2 gx5 vx5v_3 gx6 Ax6v_2 x6v.L.length cx6v_2 p1 lx2v_1 fx2v_2 rfl fx5v_3 lx6v_1 fx6v_2 rfl)

/-! tidepole/syntax.Parse -/
theorem W.syntax_Parse (x0 : ByteArray) (r : T27 × Int × Int) (h : M.syntax_Parse x0 = some r) (nz : Nat) (wz : World) (S0 : Fz) (w0 : World) (Lr : List Ent) (p0 : Hp nz wz S0 w0 (Lr)) :
    Calls Try.prog 8 #[.string x0] w0 (Rets (Post.syntax_Parse nz wz S0 w0 Lr r)) := by
  refine calls_of_goes (fn := Try.f8) (c := B8) (by kernel_rfl) (by kernel_rfl) 49 (by kernel_rfl) ?_
  refine Goes.jump 50 [(0, .string x0)] (by kernel_rfl) (fun junk => ?_)
  delta M.syntax_Parse at h
  refine Goes.runs 2 [] [.inRegion (opsOf (sub [0] B8)) [0, 1, 2], .code (sub [1] B8)] (by kernel_rfl) ?_
  refine Op_.alloc 28 2 0 (.agg #[.int .i64 0, .int .u64 0, .int .u64 0, .int .u64 0, .int .u64 0, .slice none 0 0, .int .i64 0, .int .i64 0]) [.int .i64 0, .int .u64 0, .int .u64 0, .int .u64 0, .int .u64 0, .slice none 0 0, .int .i64 0, .int .i64 0] p0 (Goes.vs (by kernel_rfl)) (by kernel_rfl) (by kernel_rfl) ?_
  intro b1 w2 z2 p2
  refine Goes.runs 10 [(3, .int .i64 0), (4, .int .i64 0), (7, .string x0), (8, .int .i64 (x0.size : Int)), (9, .bool (decide ((x0.size : Int) > 256)))] [.code (sub [1, 0, 1] B8), .code (sub [1, 1] B8)] (by kernel_rfl) ?_
  refine ite_some h (fun h3 h => ?_) (fun h3 h => ?_)
  · rw [decide_eq_true h3]
    refine Goes.runs 4 [(10, .agg #[.int .i64 0, .int .u64 0, .int .u64 0, .int .u64 0, .int .u64 0, .slice none 0 0, .int .i64 0, .int .i64 0])] [.inRegion (opsOf (sub [1, 0, 1, 0, 0] B8)) [1, 2, 3], .code (sub [1, 0, 1, 0, 1] B8), .code (sub [1, 1] B8)] (by kernel_rfl) ?_
    refine Op_.st 28 (.tmp 2) (.tmp 10) 0 0 b1 0 (.agg #[.int .i64 0, .int .u64 0, .int .u64 0, .int .u64 0, .int .u64 0, .slice none 0 0, .int .i64 0, .int .i64 0]) [.int .i64 0, .int .u64 0, .int .u64 0, .int .u64 0, .int .u64 0, .slice none 0 0, .int .i64 0, .int .i64 0] p2 rfl (Goes.ss (by kernel_rfl)) (by kernel_rfl) (by kernel_rfl) (by kernel_rfl) (by kernel_rfl) (Nat.zero_le _) (by simp only [List.length_cons, List.length_nil]; omega) (by simp [Value.oneCell']) ?_
    intro w3 z3 p3
    refine Goes.runs 3 [(3, .int .i64 0), (4, .int .i64 3)] [.code (sub [1, 0, 1, 0, 1] B8), .code (sub [1, 1] B8)] (by kernel_rfl) ?_
    obtain rfl := Option.some.inj h
    exact Goes.ret (fn := Try.f8) (by kernel_rfl) (v := .tuple #[.agg #[.int .i64 0, .int .u64 0, .int .u64 0, .int .u64 0, .int .u64 0, .slice none 0 0, .int .i64 0, .int .i64 0], .int .i64 0, .int .i64 3]) (results_n3 (fn := Try.f8) (a := .cell 2 28) (b := .tmp 3) (c := .tmp 4) (by kernel_rfl) (resV_cell ⟨b1, 0, none⟩ (by kernel_rfl) (run_loadN [.int .i64 0, .int .u64 0, .int .u64 0, .int .u64 0, .int .u64 0, .slice none 0 0, .int .i64 0, .int .i64 0] (by kernel_rfl) (by kernel_rfl) (At_part (us := []) (vs := [.int .i64 0, .int .u64 0, .int .u64 0, .int .u64 0, .int .u64 0, .slice none 0 0, .int .i64 0, .int .i64 0]) (ws := []) (p3.mem 0 rfl) 0 rfl))) (resV_tmp (by kernel_rfl)) (resV_tmp (by kernel_rfl))) ⟨S0, none, 0, 0, rfl, (((Ext.refl S0 w0).trans z2).trans z3), p3.drop, rfl, Rd.none_, rfl⟩
  · rw [decide_eq_false h3]
    refine Goes.runs 6 [(11, .string x0), (12, .agg #[.string x0, .int .i64 0, .int .i64 0, .pointer none])] [.inRegion (opsOf (sub [1, 1, 0] B8)) [2, 3], .code (sub [1, 1, 1] B8)] (by kernel_rfl) ?_
    refine Op_.box 49 (.tmp 12) 13 46 (.agg #[.string x0, .int .i64 0, .int .i64 0, .pointer none]) [.string x0, .int .i64 0, .int .i64 0, .pointer none] p2 (Goes.vs (by kernel_rfl)) (by kernel_rfl) (by kernel_rfl) ?_
    intro b4 w4 z4 p4
    refine Goes.runs 5 [(5, .pointer (some ⟨b4, 0, none⟩)), (14, .pointer (some ⟨b4, 0, none⟩))] [.inRegion (opsOf (sub [1, 1, 1, 0] B8)) [1, 2, 3], .code (sub [1, 1, 1, 1] B8)] (by kernel_rfl) ?_
    refine bind_some' h fun y6 e7 h => ?_
    refine Op_.call (.call { callee := .value (.func 18), args := #[(.tmp 14)], argTypes := #[46] }) 15 28 18 #[.pointer (some ⟨b4, 0, none⟩)] (Goes.cs (by kernel_rfl)) (by kernel_rfl) (W.syntax_parser_alternation (⟨x0, 0, 0, none⟩ : T48) y6 e7 nz wz S0 w4 ((some b1, .row 28 [.int .i64 0, .int .u64 0, .int .u64 0, .int .u64 0, .int .u64 0, .slice none 0 0, .int .i64 0, .int .i64 0] 8 0) :: Lr) b4 (.pointer none) p4 rfl) ?_
    rintro _ w5 ⟨S5, Ar_5_2, nr_5_2, cr_5_2, ve0_5v_3, rfl, z5, p5, lr_5_1, fr_5_2, rfl, fe0_5v_3⟩
    refine Op_.alloc 28 6 0 (.agg #[.int .i64 0, .int .u64 0, .int .u64 0, .int .u64 0, .int .u64 0, .slice none 0 0, .int .i64 0, .int .i64 0]) [.int .i64 0, .int .u64 0, .int .u64 0, .int .u64 0, .int .u64 0, .slice none 0 0, .int .i64 0, .int .i64 0] p5 (Goes.vs (by kernel_rfl)) (by kernel_rfl) (by kernel_rfl) ?_
    intro b8 w6 z6 p6
    refine Op_.st 28 (.tmp 6) (.tmp 15) 0 0 b8 0 (.agg #[.int .i64 y6.1.Kind, .int .u64 (gi y6.1.Set 0), .int .u64 (gi y6.1.Set 1), .int .u64 (gi y6.1.Set 2), .int .u64 (gi y6.1.Set 3), .slice Ar_5_2 y6.1.L.length cr_5_2, .int .i64 y6.1.Min, .int .i64 y6.1.Max]) [.int .i64 y6.1.Kind, .int .u64 (gi y6.1.Set 0), .int .u64 (gi y6.1.Set 1), .int .u64 (gi y6.1.Set 2), .int .u64 (gi y6.1.Set 3), .slice Ar_5_2 y6.1.L.length cr_5_2, .int .i64 y6.1.Min, .int .i64 y6.1.Max] p6 rfl (Goes.ss (by kernel_rfl)) (by kernel_rfl) (by kernel_rfl) (by kernel_rfl) (by kernel_rfl) (Nat.zero_le _) (by simp only [List.length_cons, List.length_nil]; omega) (by simp [Value.oneCell']) ?_
    intro w7 z7 p7
    refine Goes.runs 7 [(16, .pointer (some ⟨b4, 0, none⟩)), (17, .pointer (some ⟨b4, 0, none⟩)), (18, .pointer (some ⟨b4, 3, none⟩))] [.inRegion (opsOf (sub [1, 1, 1, 1, 0, 0] B8)) [3, 4, 5, 6, 7, 8, 9, 10, 11, 12, 13], .code (sub [1, 1, 1, 1, 0, 1] B8), .code (sub [1, 1, 1, 1, 1] B8)] (by kernel_rfl) ?_
    refine Op_.ld1 47 (.tmp 18) 19 47 ⟨b4, 3, none⟩ (ve0_5v_3) (Goes.vs (by kernel_rfl)) (by kernel_rfl) (by kernel_rfl) ((p7.mem 1 rfl).cell 3 _ rfl) ?_
    refine let_some h fun v22 h10 h => ?_
    rcases v22 with _ | y11
    · try dsimp only at h
      obtain rfl := PtO.nil (fe0_5v_3.ext (z6.trans z7)) h10
      refine Goes.runs 5 [(20, .bool true), (21, .bool true), (22, .pointer (some ⟨b4, 0, none⟩)), (23, .pointer (some ⟨b4, 0, none⟩)), (24, .pointer (some ⟨b4, 1, none⟩))] [.inRegion (opsOf (sub [1, 1, 1, 1, 0, 0] B8)) [9, 10, 11, 12, 13], .code (sub [1, 1, 1, 1, 0, 1] B8), .code (sub [1, 1, 1, 1, 1] B8)] (by kernel_rfl) ?_
      refine Op_.ld1 3 (.tmp 24) 25 3 ⟨b4, 1, none⟩ (.int .i64 y6.2.at_) (Goes.vs (by kernel_rfl)) (by kernel_rfl) (by kernel_rfl) ((p7.mem 1 rfl).cell 1 _ rfl) ?_
      refine Goes.runs 5 [(26, .string x0), (27, .int .i64 (x0.size : Int)), (28, .bool (decide (y6.2.at_ < (x0.size : Int)))), (29, .bool (decide (y6.2.at_ < (x0.size : Int))))] [.code (sub [1, 1, 1, 1, 0, 1] B8), .code (sub [1, 1, 1, 1, 1] B8)] (by kernel_rfl) ?_
      have p7 : Hp nz wz S5 w7 ((none, .row 28 [] (0 * kT27.size) 0) :: (some b8, .row 28 [.int .i64 y6.1.Kind, .int .u64 (gi y6.1.Set 0), .int .u64 (gi y6.1.Set 1), .int .u64 (gi y6.1.Set 2), .int .u64 (gi y6.1.Set 3), .slice Ar_5_2 y6.1.L.length cr_5_2, .int .i64 y6.1.Min, .int .i64 y6.1.Max] 8 0) :: (some b4, .row 49 [.string y6.2.s, .int .i64 y6.2.at_, .int .i64 y6.2.deep, .pointer none] 4 0) :: (some b1, .row 28 [.int .i64 0, .int .u64 0, .int .u64 0, .int .u64 0, .int .u64 0, .slice none 0 0, .int .i64 0, .int .i64 0] 8 0) :: Lr) := p7.nilRow' 28
      have p7 := p7.front 1 _ rfl
      have p7 := p7.front 2 _ rfl
      have p7 := p7.front 2 _ rfl
      have p7 := p7.front 3 _ rfl
      exact Goes.jump 50 [(2, .pointer (some ⟨b1, 0, none⟩)), (5, .pointer (some ⟨b4, 0, none⟩)), (6, .pointer (some ⟨b8, 0, none⟩)), (29, .bool (decide (y6.2.at_ < (x0.size : Int))))] (by kernel_rfl) (W.syntax_Parse_l0 nz wz S0 w0 Lr _ _ h _ _ ((((((Ext.refl S0 w0).trans z2).trans z4).trans z5).trans z6).trans z7) b1 none 0 0 [] b4 (.pointer none) b8 Ar_5_2 y6.1.L.length cr_5_2 p7 rfl (Els.nil (K := kT27)) rfl rfl lr_5_1 (fr_5_2.ext (z6.trans z7)) rfl)
    · try dsimp only at h
      obtain ⟨a13, _, rfl, -, f14, q15⟩ := PtO.got (fe0_5v_3.ext (z6.trans z7)) h10
      obtain rfl := q15
      refine Goes.runs 11 [(20, .bool false), (21, .bool false), (22, undef), (23, undef), (24, undef), (25, undef), (26, undef), (27, undef), (28, undef), (29, .bool false)] [.code (sub [1, 1, 1, 1, 0, 1] B8), .code (sub [1, 1, 1, 1, 1] B8)] (by kernel_rfl) ?_
      have p7 : Hp nz wz S5 w7 ((none, .row 28 [] (0 * kT27.size) 0) :: (some b8, .row 28 [.int .i64 y6.1.Kind, .int .u64 (gi y6.1.Set 0), .int .u64 (gi y6.1.Set 1), .int .u64 (gi y6.1.Set 2), .int .u64 (gi y6.1.Set 3), .slice Ar_5_2 y6.1.L.length cr_5_2, .int .i64 y6.1.Min, .int .i64 y6.1.Max] 8 0) :: (some b4, .row 49 [.string y6.2.s, .int .i64 y6.2.at_, .int .i64 y6.2.deep, .pointer (some a13)] 4 0) :: (some b1, .row 28 [.int .i64 0, .int .u64 0, .int .u64 0, .int .u64 0, .int .u64 0, .slice none 0 0, .int .i64 0, .int .i64 0] 8 0) :: Lr) := p7.nilRow' 28
      have p7 := p7.front 1 _ rfl
      have p7 := p7.front 2 _ rfl
      have p7 := p7.front 2 _ rfl
      have p7 := p7.front 3 _ rfl
      exact Goes.jump 50 [(2, .pointer (some ⟨b1, 0, none⟩)), (5, .pointer (some ⟨b4, 0, none⟩)), (6, .pointer (some ⟨b8, 0, none⟩)), (29, .bool false)] (by kernel_rfl) (W.syntax_Parse_l0 nz wz S0 w0 Lr _ _ h _ _ ((((((Ext.refl S0 w0).trans z2).trans z4).trans z5).trans z6).trans z7) b1 none 0 0 [] b4 (.pointer (some a13)) b8 Ar_5_2 y6.1.L.length cr_5_2 p7 rfl (Els.nil (K := kT27)) rfl ⟨_, _, rfl, List.cons_ne_nil _ _, f14, rfl⟩ lr_5_1 (fr_5_2.ext (z6.trans z7)) rfl)

/-! tidepole/tidepolelaw10.works -/
def Post.tidepolelaw10_works (nz : Nat) (wz : World) (S0 : Fz) (w0 : World) (Lr : List Ent) (r : Bool) (v : Value) (w' : World) : Prop :=
  ∃ (S' : Fz), v = .bool r ∧ Ext S0 w0 S' w' ∧ Hp nz wz S' w' (Lr)

theorem W.tidepolelaw10_works (r : Bool) (h : M.tidepolelaw10_works = some r) (nz : Nat) (wz : World) (S0 : Fz) (w0 : World) (Lr : List Ent) (p0 : Hp nz wz S0 w0 (Lr)) :
    Calls Try.prog 7 #[] w0 (Rets (Post.tidepolelaw10_works nz wz S0 w0 Lr r)) := by
  refine calls_of_goes (fn := Try.f7) (c := B7) (by kernel_rfl) (by kernel_rfl) 66 (by kernel_rfl) ?_
  refine Goes.jump 66 [] (by kernel_rfl) (fun junk => ?_)
  delta M.tidepolelaw10_works at h
  refine Goes.runs 6 [(0, .bool false)] [.inRegion (opsOf (sub [1, 0] B7)) [0, 1, 2, 3, 4, 5, 6, 7, 8], .code (sub [1, 1] B7)] (by kernel_rfl) ?_
  refine bind_some' h fun y1 e2 h => ?_
  refine Op_.call (.call { callee := .value (.func 8), args := #[(.const (.string ⟨#[97, 124, 98, 42]⟩))], argTypes := #[9] }) 11 30 8 #[.string (⟨#[97, 124, 98, 42]⟩ : ByteArray)] (Goes.cs (by kernel_rfl)) (by kernel_rfl) (W.syntax_Parse (⟨#[97, 124, 98, 42]⟩ : ByteArray) y1 e2 nz wz S0 w0 (Lr)  p0 ) ?_
  rintro _ w2 ⟨S2, Ar_2_0_2, nr_2_0_2, cr_2_0_2, rfl, z2, p2, lr_2_0_1, fr_2_0_2, rfl⟩
  refine Goes.runs 4 [(10, .tuple #[.agg #[.int .i64 y1.1.Kind, .int .u64 (gi y1.1.Set 0), .int .u64 (gi y1.1.Set 1), .int .u64 (gi y1.1.Set 2), .int .u64 (gi y1.1.Set 3), .slice Ar_2_0_2 y1.1.L.length cr_2_0_2, .int .i64 y1.1.Min, .int .i64 y1.1.Max], .int .i64 y1.2.1, .int .i64 y1.2.2]), (12, .agg #[.int .i64 y1.1.Kind, .int .u64 (gi y1.1.Set 0), .int .u64 (gi y1.1.Set 1), .int .u64 (gi y1.1.Set 2), .int .u64 (gi y1.1.Set 3), .slice Ar_2_0_2 y1.1.L.length cr_2_0_2, .int .i64 y1.1.Min, .int .i64 y1.1.Max]), (13, .int .i64 y1.2.1), (14, .int .i64 y1.2.2)] [.inRegion (opsOf (sub [1, 0] B7)) [5, 6, 7, 8], .code (sub [1, 1] B7)] (by kernel_rfl) ?_
  refine Op_.alloc 28 1 0 (.agg #[.int .i64 0, .int .u64 0, .int .u64 0, .int .u64 0, .int .u64 0, .slice none 0 0, .int .i64 0, .int .i64 0]) [.int .i64 0, .int .u64 0, .int .u64 0, .int .u64 0, .int .u64 0, .slice none 0 0, .int .i64 0, .int .i64 0] p2 (Goes.vs (by kernel_rfl)) (by kernel_rfl) (by kernel_rfl) ?_
  intro b3 w3 z3 p3
  refine Op_.st 28 (.tmp 1) (.tmp 12) 0 0 b3 0 (.agg #[.int .i64 y1.1.Kind, .int .u64 (gi y1.1.Set 0), .int .u64 (gi y1.1.Set 1), .int .u64 (gi y1.1.Set 2), .int .u64 (gi y1.1.Set 3), .slice Ar_2_0_2 y1.1.L.length cr_2_0_2, .int .i64 y1.1.Min, .int .i64 y1.1.Max]) [.int .i64 y1.1.Kind, .int .u64 (gi y1.1.Set 0), .int .u64 (gi y1.1.Set 1), .int .u64 (gi y1.1.Set 2), .int .u64 (gi y1.1.Set 3), .slice Ar_2_0_2 y1.1.L.length cr_2_0_2, .int .i64 y1.1.Min, .int .i64 y1.1.Max] p3 rfl (Goes.ss (by kernel_rfl)) (by kernel_rfl) (by kernel_rfl) (by kernel_rfl) (by kernel_rfl) (Nat.zero_le _) (by simp only [List.length_cons, List.length_nil]; omega) (by simp [Value.oneCell']) ?_
  intro w4 z4 p4
  refine Goes.runs 5 [(2, .int .i64 y1.2.1), (3, .int .i64 y1.2.2)] [.inRegion (opsOf (sub [1, 1, 0] B7)) [0, 1, 2, 3, 4, 5, 6, 7, 8], .code (sub [1, 1, 1] B7)] (by kernel_rfl) ?_
  refine bind_some' h fun y5 e6 h => ?_
  refine Op_.call (.call { callee := .value (.func 8), args := #[(.const (.string ⟨#[97, 42, 42]⟩))], argTypes := #[9] }) 16 30 8 #[.string (⟨#[97, 42, 42]⟩ : ByteArray)] (Goes.cs (by kernel_rfl)) (by kernel_rfl) (W.syntax_Parse (⟨#[97, 42, 42]⟩ : ByteArray) y5 e6 nz wz S2 w4 ((some b3, .row 28 [.int .i64 y1.1.Kind, .int .u64 (gi y1.1.Set 0), .int .u64 (gi y1.1.Set 1), .int .u64 (gi y1.1.Set 2), .int .u64 (gi y1.1.Set 3), .slice Ar_2_0_2 y1.1.L.length cr_2_0_2, .int .i64 y1.1.Min, .int .i64 y1.1.Max] 8 0) :: Lr)  p4 ) ?_
  rintro _ w5 ⟨S5, Ar_5_0_2, nr_5_0_2, cr_5_0_2, rfl, z5, p5, lr_5_0_1, fr_5_0_2, rfl⟩
  refine Goes.runs 4 [(15, .tuple #[.agg #[.int .i64 y5.1.Kind, .int .u64 (gi y5.1.Set 0), .int .u64 (gi y5.1.Set 1), .int .u64 (gi y5.1.Set 2), .int .u64 (gi y5.1.Set 3), .slice Ar_5_0_2 y5.1.L.length cr_5_0_2, .int .i64 y5.1.Min, .int .i64 y5.1.Max], .int .i64 y5.2.1, .int .i64 y5.2.2]), (17, .agg #[.int .i64 y5.1.Kind, .int .u64 (gi y5.1.Set 0), .int .u64 (gi y5.1.Set 1), .int .u64 (gi y5.1.Set 2), .int .u64 (gi y5.1.Set 3), .slice Ar_5_0_2 y5.1.L.length cr_5_0_2, .int .i64 y5.1.Min, .int .i64 y5.1.Max]), (18, .int .i64 y5.2.1), (19, .int .i64 y5.2.2)] [.inRegion (opsOf (sub [1, 1, 0] B7)) [5, 6, 7, 8], .code (sub [1, 1, 1] B7)] (by kernel_rfl) ?_
  refine Op_.alloc 28 4 0 (.agg #[.int .i64 0, .int .u64 0, .int .u64 0, .int .u64 0, .int .u64 0, .slice none 0 0, .int .i64 0, .int .i64 0]) [.int .i64 0, .int .u64 0, .int .u64 0, .int .u64 0, .int .u64 0, .slice none 0 0, .int .i64 0, .int .i64 0] p5 (Goes.vs (by kernel_rfl)) (by kernel_rfl) (by kernel_rfl) ?_
  intro b7 w6 z6 p6
  refine Op_.st 28 (.tmp 4) (.tmp 17) 0 0 b7 0 (.agg #[.int .i64 y5.1.Kind, .int .u64 (gi y5.1.Set 0), .int .u64 (gi y5.1.Set 1), .int .u64 (gi y5.1.Set 2), .int .u64 (gi y5.1.Set 3), .slice Ar_5_0_2 y5.1.L.length cr_5_0_2, .int .i64 y5.1.Min, .int .i64 y5.1.Max]) [.int .i64 y5.1.Kind, .int .u64 (gi y5.1.Set 0), .int .u64 (gi y5.1.Set 1), .int .u64 (gi y5.1.Set 2), .int .u64 (gi y5.1.Set 3), .slice Ar_5_0_2 y5.1.L.length cr_5_0_2, .int .i64 y5.1.Min, .int .i64 y5.1.Max] p6 rfl (Goes.ss (by kernel_rfl)) (by kernel_rfl) (by kernel_rfl) (by kernel_rfl) (by kernel_rfl) (Nat.zero_le _) (by simp only [List.length_cons, List.length_nil]; omega) (by simp [Value.oneCell']) ?_
  intro w7 z7 p7
  refine Goes.runs 5 [(5, .int .i64 y5.2.1), (6, .int .i64 y5.2.2)] [.inRegion (opsOf (sub [1, 1, 1, 0] B7)) [0, 1, 2, 3, 4, 5, 6, 7, 8], .code (sub [1, 1, 1, 1] B7)] (by kernel_rfl) ?_
  refine bind_some' h fun y9 e10 h => ?_
  refine Op_.call (.call { callee := .value (.func 8), args := #[(.const (.string ⟨#[91, 98, 45, 97, 93]⟩))], argTypes := #[9] }) 21 30 8 #[.string (⟨#[91, 98, 45, 97, 93]⟩ : ByteArray)] (Goes.cs (by kernel_rfl)) (by kernel_rfl) (W.syntax_Parse (⟨#[91, 98, 45, 97, 93]⟩ : ByteArray) y9 e10 nz wz S5 w7 ((some b7, .row 28 [.int .i64 y5.1.Kind, .int .u64 (gi y5.1.Set 0), .int .u64 (gi y5.1.Set 1), .int .u64 (gi y5.1.Set 2), .int .u64 (gi y5.1.Set 3), .slice Ar_5_0_2 y5.1.L.length cr_5_0_2, .int .i64 y5.1.Min, .int .i64 y5.1.Max] 8 0) :: (some b3, .row 28 [.int .i64 y1.1.Kind, .int .u64 (gi y1.1.Set 0), .int .u64 (gi y1.1.Set 1), .int .u64 (gi y1.1.Set 2), .int .u64 (gi y1.1.Set 3), .slice Ar_2_0_2 y1.1.L.length cr_2_0_2, .int .i64 y1.1.Min, .int .i64 y1.1.Max] 8 0) :: Lr)  p7 ) ?_
  rintro _ w8 ⟨S8, Ar_8_0_2, nr_8_0_2, cr_8_0_2, rfl, z8, p8, lr_8_0_1, fr_8_0_2, rfl⟩
  have p8 := (p8.front 0 _ rfl).drop
  refine Goes.runs 4 [(20, .tuple #[.agg #[.int .i64 y9.1.Kind, .int .u64 (gi y9.1.Set 0), .int .u64 (gi y9.1.Set 1), .int .u64 (gi y9.1.Set 2), .int .u64 (gi y9.1.Set 3), .slice Ar_8_0_2 y9.1.L.length cr_8_0_2, .int .i64 y9.1.Min, .int .i64 y9.1.Max], .int .i64 y9.2.1, .int .i64 y9.2.2]), (22, .agg #[.int .i64 y9.1.Kind, .int .u64 (gi y9.1.Set 0), .int .u64 (gi y9.1.Set 1), .int .u64 (gi y9.1.Set 2), .int .u64 (gi y9.1.Set 3), .slice Ar_8_0_2 y9.1.L.length cr_8_0_2, .int .i64 y9.1.Min, .int .i64 y9.1.Max]), (23, .int .i64 y9.2.1), (24, .int .i64 y9.2.2)] [.inRegion (opsOf (sub [1, 1, 1, 0] B7)) [5, 6, 7, 8], .code (sub [1, 1, 1, 1] B7)] (by kernel_rfl) ?_
  refine Op_.alloc 28 7 0 (.agg #[.int .i64 0, .int .u64 0, .int .u64 0, .int .u64 0, .int .u64 0, .slice none 0 0, .int .i64 0, .int .i64 0]) [.int .i64 0, .int .u64 0, .int .u64 0, .int .u64 0, .int .u64 0, .slice none 0 0, .int .i64 0, .int .i64 0] p8 (Goes.vs (by kernel_rfl)) (by kernel_rfl) (by kernel_rfl) ?_
  intro b11 w9 z9 p9
  refine Op_.st 28 (.tmp 7) (.tmp 22) 0 0 b11 0 (.agg #[.int .i64 y9.1.Kind, .int .u64 (gi y9.1.Set 0), .int .u64 (gi y9.1.Set 1), .int .u64 (gi y9.1.Set 2), .int .u64 (gi y9.1.Set 3), .slice Ar_8_0_2 y9.1.L.length cr_8_0_2, .int .i64 y9.1.Min, .int .i64 y9.1.Max]) [.int .i64 y9.1.Kind, .int .u64 (gi y9.1.Set 0), .int .u64 (gi y9.1.Set 1), .int .u64 (gi y9.1.Set 2), .int .u64 (gi y9.1.Set 3), .slice Ar_8_0_2 y9.1.L.length cr_8_0_2, .int .i64 y9.1.Min, .int .i64 y9.1.Max] p9 rfl (Goes.ss (by kernel_rfl)) (by kernel_rfl) (by kernel_rfl) (by kernel_rfl) (by kernel_rfl) (Nat.zero_le _) (by simp only [List.length_cons, List.length_nil]; omega) (by simp [Value.oneCell']) ?_
  intro w10 z10 p10
  refine Goes.runs 8 [(8, .int .i64 y9.2.1), (9, .int .i64 y9.2.2), (25, .int .i64 y1.2.2), (26, .bool (decide (y1.2.2 = 0))), (27, .bool (decide (y1.2.2 = 0)))] [.inRegion (opsOf (sub [1, 1, 1, 1, 0] B7)) [3, 4, 5, 6, 7, 8, 9, 10, 11, 12, 13, 14, 15, 16, 17, 18, 19, 20, 21, 22, 23, 24, 25, 26, 27, 28, 29, 30, 31, 32, 33, 34, 35, 36, 37, 38, 39, 40, 41], .code (sub [1, 1, 1, 1, 1] B7)] (by kernel_rfl) ?_
  refine ite_some h (fun h13 h => ?_) (fun h13 h => ?_)
  · rw [decide_eq_true h13]
    refine Goes.runs 1 [(28, .pointer (some ⟨b3, 0, none⟩))] [.inRegion (opsOf (sub [1, 1, 1, 1, 0] B7)) [4, 5, 6, 7, 8, 9, 10, 11, 12, 13, 14, 15, 16, 17, 18, 19, 20, 21, 22, 23, 24, 25, 26, 27, 28, 29, 30, 31, 32, 33, 34, 35, 36, 37, 38, 39, 40, 41], .code (sub [1, 1, 1, 1, 1] B7)] (by kernel_rfl) ?_
    refine Op_.ld1 3 (.tmp 28) 29 3 ⟨b3, 0, none⟩ (.int .i64 y1.1.Kind) (Goes.vs (by kernel_rfl)) (by kernel_rfl) (by kernel_rfl) ((p10.mem 1 rfl).cell 0 _ rfl) ?_
    refine Goes.runs 3 [(30, .bool (decide (y1.1.Kind = 3))), (31, .bool (decide (y1.1.Kind = 3))), (32, .bool (decide (y1.1.Kind = 3)))] [.inRegion (opsOf (sub [1, 1, 1, 1, 0] B7)) [8, 9, 10, 11, 12, 13, 14, 15, 16, 17, 18, 19, 20, 21, 22, 23, 24, 25, 26, 27, 28, 29, 30, 31, 32, 33, 34, 35, 36, 37, 38, 39, 40, 41], .code (sub [1, 1, 1, 1, 1] B7)] (by kernel_rfl) ?_
    refine ite_some h (fun h14 h => ?_) (fun h14 h => ?_)
    · rw [decide_eq_true h14]
      refine Goes.runs 1 [(33, .pointer (some ⟨b3, 5, none⟩))] [.inRegion (opsOf (sub [1, 1, 1, 1, 0] B7)) [9, 10, 11, 12, 13, 14, 15, 16, 17, 18, 19, 20, 21, 22, 23, 24, 25, 26, 27, 28, 29, 30, 31, 32, 33, 34, 35, 36, 37, 38, 39, 40, 41], .code (sub [1, 1, 1, 1, 1] B7)] (by kernel_rfl) ?_
      refine Op_.ld1 26 (.tmp 33) 34 26 ⟨b3, 5, none⟩ (.slice Ar_2_0_2 y1.1.L.length cr_2_0_2) (Goes.vs (by kernel_rfl)) (by kernel_rfl) (by kernel_rfl) ((p10.mem 1 rfl).cell 5 _ rfl) ?_
      refine Goes.runs 4 [(35, .int .i64 (y1.1.L.length : Int)), (36, .bool (decide ((y1.1.L.length : Int) = 2))), (37, .bool (decide ((y1.1.L.length : Int) = 2))), (38, .bool (decide ((y1.1.L.length : Int) = 2)))] [.inRegion (opsOf (sub [1, 1, 1, 1, 0] B7)) [14, 15, 16, 17, 18, 19, 20, 21, 22, 23, 24, 25, 26, 27, 28, 29, 30, 31, 32, 33, 34, 35, 36, 37, 38, 39, 40, 41], .code (sub [1, 1, 1, 1, 1] B7)] (by kernel_rfl) ?_
      refine ite_some h (fun h15 h => ?_) (fun h15 h => ?_)
      · rw [decide_eq_true h15]
        refine Goes.runs 1 [(39, .pointer (some ⟨b3, 5, none⟩))] [.inRegion (opsOf (sub [1, 1, 1, 1, 0] B7)) [15, 16, 17, 18, 19, 20, 21, 22, 23, 24, 25, 26, 27, 28, 29, 30, 31, 32, 33, 34, 35, 36, 37, 38, 39, 40, 41], .code (sub [1, 1, 1, 1, 1] B7)] (by kernel_rfl) ?_
        refine Op_.ld1 26 (.tmp 39) 40 26 ⟨b3, 5, none⟩ (.slice Ar_2_0_2 y1.1.L.length cr_2_0_2) (Goes.vs (by kernel_rfl)) (by kernel_rfl) (by kernel_rfl) ((p10.mem 1 rfl).cell 5 _ rfl) ?_
        refine guard_some' h fun g16 h => ?_
        refine Op_.ixR_n 26 (.tmp 40) (.const (.int .i64 1)) 41 0 28 .i64 1 (gi y1.1.L 1) rfl rfl (fr_2_0_2.ext (((((((z3.trans z4).trans z5).trans z6).trans z7).trans z8).trans z9).trans z10)) (Goes.vs (by kernel_rfl)) (by kernel_rfl) (by kernel_rfl) (by kernel_rfl) (by kernel_rfl) (by decide : (0 : Int) ≤ 1) g16 ?_
        intro a17 _ f18 q19
        have q20 := q19
        obtain ⟨_, _, rfl, rfl, ⟨_, _, rfl, ⟨l21, f22⟩, ⟨_, _, rfl, ⟨A23, c24, rfl, f25⟩, ⟨_, _, rfl, rfl, rfl⟩⟩⟩⟩ := kT27_open q20
        obtain rfl := els_lit4' f22 l21
        refine Goes.runs 1 [(42, .pointer (some (Addr.add a17 0)))] [.inRegion (opsOf (sub [1, 1, 1, 1, 0] B7)) [18, 19, 20, 21, 22, 23, 24, 25, 26, 27, 28, 29, 30, 31, 32, 33, 34, 35, 36, 37, 38, 39, 40, 41], .code (sub [1, 1, 1, 1, 1] B7)] (by kernel_rfl) ?_
        refine Op_.ld1 3 (.tmp 42) 43 3 (Addr.add a17 0) (.int .i64 ((gi y1.1.L 1).Kind)) (Goes.vs (by kernel_rfl)) (by kernel_rfl) (by kernel_rfl) ((Cs.left (us := [.int .i64 ((gi y1.1.L 1).Kind)]) (vs := [.int .u64 (gi ((gi y1.1.L 1).Set) 0), .int .u64 (gi ((gi y1.1.L 1).Set) 1), .int .u64 (gi ((gi y1.1.L 1).Set) 2), .int .u64 (gi ((gi y1.1.L 1).Set) 3), .slice A23 (((gi y1.1.L 1).L).length) c24, .int .i64 ((gi y1.1.L 1).Min), .int .i64 ((gi y1.1.L 1).Max)]) (Cs.add (us := []) (vs := [.int .i64 ((gi y1.1.L 1).Kind), .int .u64 (gi ((gi y1.1.L 1).Set) 0), .int .u64 (gi ((gi y1.1.L 1).Set) 1), .int .u64 (gi ((gi y1.1.L 1).Set) 2), .int .u64 (gi ((gi y1.1.L 1).Set) 3), .slice A23 (((gi y1.1.L 1).L).length) c24, .int .i64 ((gi y1.1.L 1).Min), .int .i64 ((gi y1.1.L 1).Max)]) f18)).cell 0 _ rfl) ?_
        refine Goes.runs 3 [(44, .bool (decide ((gi y1.1.L 1).Kind = 4))), (45, .bool (decide ((gi y1.1.L 1).Kind = 4))), (46, .bool (decide ((gi y1.1.L 1).Kind = 4)))] [.inRegion (opsOf (sub [1, 1, 1, 1, 0] B7)) [22, 23, 24, 25, 26, 27, 28, 29, 30, 31, 32, 33, 34, 35, 36, 37, 38, 39, 40, 41], .code (sub [1, 1, 1, 1, 1] B7)] (by kernel_rfl) ?_
        refine ite_some h (fun h26 h => ?_) (fun h26 h => ?_)
        · rw [decide_eq_true h26]
          refine Goes.runs 1 [(47, .pointer (some ⟨b3, 5, none⟩))] [.inRegion (opsOf (sub [1, 1, 1, 1, 0] B7)) [23, 24, 25, 26, 27, 28, 29, 30, 31, 32, 33, 34, 35, 36, 37, 38, 39, 40, 41], .code (sub [1, 1, 1, 1, 1] B7)] (by kernel_rfl) ?_
          refine Op_.ld1 26 (.tmp 47) 48 26 ⟨b3, 5, none⟩ (.slice Ar_2_0_2 y1.1.L.length cr_2_0_2) (Goes.vs (by kernel_rfl)) (by kernel_rfl) (by kernel_rfl) ((p10.mem 1 rfl).cell 5 _ rfl) ?_
          refine Op_.ixR_n 26 (.tmp 48) (.const (.int .i64 1)) 49 0 28 .i64 1 (gi y1.1.L 1) rfl rfl (fr_2_0_2.ext (((((((z3.trans z4).trans z5).trans z6).trans z7).trans z8).trans z9).trans z10)) (Goes.vs (by kernel_rfl)) (by kernel_rfl) (by kernel_rfl) (by kernel_rfl) (by kernel_rfl) (by decide : (0 : Int) ≤ 1) g16 ?_
          intro a27 _ f28 q29
          have q30 := q29
          obtain ⟨_, _, rfl, rfl, ⟨_, _, rfl, ⟨l31, f32⟩, ⟨_, _, rfl, ⟨A33, c34, rfl, f35⟩, ⟨_, _, rfl, rfl, rfl⟩⟩⟩⟩ := kT27_open q30
          obtain rfl := els_lit4' f32 l31
          refine Goes.runs 1 [(50, .pointer (some (Addr.add a27 7)))] [.inRegion (opsOf (sub [1, 1, 1, 1, 0] B7)) [26, 27, 28, 29, 30, 31, 32, 33, 34, 35, 36, 37, 38, 39, 40, 41], .code (sub [1, 1, 1, 1, 1] B7)] (by kernel_rfl) ?_
          refine Op_.ld1 3 (.tmp 50) 51 3 (Addr.add a27 7) (.int .i64 ((gi y1.1.L 1).Max)) (Goes.vs (by kernel_rfl)) (by kernel_rfl) (by kernel_rfl) ((Cs.left (us := [.int .i64 ((gi y1.1.L 1).Max)]) (vs := []) (Cs.add (us := [.int .i64 ((gi y1.1.L 1).Kind), .int .u64 (gi ((gi y1.1.L 1).Set) 0), .int .u64 (gi ((gi y1.1.L 1).Set) 1), .int .u64 (gi ((gi y1.1.L 1).Set) 2), .int .u64 (gi ((gi y1.1.L 1).Set) 3), .slice A33 (((gi y1.1.L 1).L).length) c34, .int .i64 ((gi y1.1.L 1).Min)]) (vs := [.int .i64 ((gi y1.1.L 1).Max)]) f28)).cell 0 _ rfl) ?_
          refine Goes.runs 3 [(52, .bool (decide ((gi y1.1.L 1).Max = (-1)))), (53, .bool (decide ((gi y1.1.L 1).Max = (-1)))), (54, .bool (decide ((gi y1.1.L 1).Max = (-1))))] [.inRegion (opsOf (sub [1, 1, 1, 1, 0] B7)) [30, 31, 32, 33, 34, 35, 36, 37, 38, 39, 40, 41], .code (sub [1, 1, 1, 1, 1] B7)] (by kernel_rfl) ?_
          refine ite_some h (fun h36 h => ?_) (fun h36 h => ?_)
          · rw [decide_eq_true h36]
            refine Goes.runs 4 [(55, .int .i64 y5.2.1), (56, .bool (decide (y5.2.1 = 2))), (57, .bool (decide (y5.2.1 = 2))), (58, .bool (decide (y5.2.1 = 2)))] [.inRegion (opsOf (sub [1, 1, 1, 1, 0] B7)) [34, 35, 36, 37, 38, 39, 40, 41], .code (sub [1, 1, 1, 1, 1] B7)] (by kernel_rfl) ?_
            refine ite_some h (fun h37 h => ?_) (fun h37 h => ?_)
            · rw [decide_eq_true h37]
              refine Goes.runs 4 [(59, .int .i64 y5.2.2), (60, .bool (decide (y5.2.2 = 100))), (61, .bool (decide (y5.2.2 = 100))), (62, .bool (decide (y5.2.2 = 100)))] [.inRegion (opsOf (sub [1, 1, 1, 1, 0] B7)) [38, 39, 40, 41], .code (sub [1, 1, 1, 1, 1] B7)] (by kernel_rfl) ?_
              refine ite_some h (fun h38 h => ?_) (fun h38 h => ?_)
              · rw [decide_eq_true h38]
                refine Goes.runs 5 [(63, .int .i64 y9.2.1), (64, .bool (decide (y9.2.1 = 1))), (65, .bool (decide (y9.2.1 = 1))), (0, .bool (decide (y9.2.1 = 1)))] [.code (sub [1, 1, 1, 1, 1] B7)] (by kernel_rfl) ?_
                obtain rfl := Option.some.inj h
                have p10 := (p10.front 0 _ rfl).drop
                have p10 := (p10.front 0 _ rfl).drop
                exact Goes.ret (fn := Try.f7) (by kernel_rfl) (v := .bool (decide (y9.2.1 = 1))) (by kernel_rfl) ⟨S8, rfl, ((((((((((Ext.refl S0 w0).trans z2).trans z3).trans z4).trans z5).trans z6).trans z7).trans z8).trans z9).trans z10), p10⟩
              · rw [decide_eq_false h38]
                refine Goes.runs 5 [(63, undef), (64, undef), (65, .bool false), (0, .bool false)] [.code (sub [1, 1, 1, 1, 1] B7)] (by kernel_rfl) ?_
                obtain rfl := Option.some.inj h
                have p10 := (p10.front 0 _ rfl).drop
                have p10 := (p10.front 0 _ rfl).drop
                exact Goes.ret (fn := Try.f7) (by kernel_rfl) (v := .bool false) (by kernel_rfl) ⟨S8, rfl, ((((((((((Ext.refl S0 w0).trans z2).trans z3).trans z4).trans z5).trans z6).trans z7).trans z8).trans z9).trans z10), p10⟩
            · rw [decide_eq_false h37]
              refine Goes.runs 9 [(59, undef), (60, undef), (61, .bool false), (62, .bool false), (63, undef), (64, undef), (65, .bool false), (0, .bool false)] [.code (sub [1, 1, 1, 1, 1] B7)] (by kernel_rfl) ?_
              obtain rfl := Option.some.inj h
              have p10 := (p10.front 0 _ rfl).drop
              have p10 := (p10.front 0 _ rfl).drop
              exact Goes.ret (fn := Try.f7) (by kernel_rfl) (v := .bool false) (by kernel_rfl) ⟨S8, rfl, ((((((((((Ext.refl S0 w0).trans z2).trans z3).trans z4).trans z5).trans z6).trans z7).trans z8).trans z9).trans z10), p10⟩
          · rw [decide_eq_false h36]
            refine Goes.runs 13 [(55, undef), (56, undef), (57, .bool false), (58, .bool false), (59, undef), (60, undef), (61, .bool false), (62, .bool false), (63, undef), (64, undef), (65, .bool false), (0, .bool false)] [.code (sub [1, 1, 1, 1, 1] B7)] (by kernel_rfl) ?_
            obtain rfl := Option.some.inj h
            have p10 := (p10.front 0 _ rfl).drop
            have p10 := (p10.front 0 _ rfl).drop
            exact Goes.ret (fn := Try.f7) (by kernel_rfl) (v := .bool false) (by kernel_rfl) ⟨S8, rfl, ((((((((((Ext.refl S0 w0).trans z2).trans z3).trans z4).trans z5).trans z6).trans z7).trans z8).trans z9).trans z10), p10⟩
        · rw [decide_eq_false h26]
          refine Goes.runs 14 [(47, undef), (48, undef), (49, undef), (50, undef), (51, undef), (52, undef), (53, .bool false), (54, .bool false), (55, undef), (56, undef), (57, .bool false), (58, .bool false), (59, undef), (60, undef)] [.inRegion (opsOf (sub [1, 1, 1, 1, 0] B7)) [36, 37, 38, 39, 40, 41], .code (sub [1, 1, 1, 1, 1] B7)] (by kernel_rfl) ?_
          refine Goes.runs 7 [(61, .bool false), (62, .bool false), (63, undef), (64, undef), (65, .bool false), (0, .bool false)] [.code (sub [1, 1, 1, 1, 1] B7)] (by kernel_rfl) ?_
          obtain rfl := Option.some.inj h
          have p10 := (p10.front 0 _ rfl).drop
          have p10 := (p10.front 0 _ rfl).drop
          exact Goes.ret (fn := Try.f7) (by kernel_rfl) (v := .bool false) (by kernel_rfl) ⟨S8, rfl, ((((((((((Ext.refl S0 w0).trans z2).trans z3).trans z4).trans z5).trans z6).trans z7).trans z8).trans z9).trans z10), p10⟩
      · rw [decide_eq_false h15]
        refine Goes.runs 14 [(39, undef), (40, undef), (41, undef), (42, undef), (43, undef), (44, undef), (45, .bool false), (46, .bool false), (47, undef), (48, undef), (49, undef), (50, undef), (51, undef), (52, undef)] [.inRegion (opsOf (sub [1, 1, 1, 1, 0] B7)) [28, 29, 30, 31, 32, 33, 34, 35, 36, 37, 38, 39, 40, 41], .code (sub [1, 1, 1, 1, 1] B7)] (by kernel_rfl) ?_
        refine Goes.runs 14 [(53, .bool false), (54, .bool false), (55, undef), (56, undef), (57, .bool false), (58, .bool false), (59, undef), (60, undef), (61, .bool false), (62, .bool false), (63, undef), (64, undef), (65, .bool false), (0, .bool false)] [.inRegion (opsOf (sub [1, 1, 1, 1, 0] B7)) [], .code (sub [1, 1, 1, 1, 1] B7)] (by kernel_rfl) ?_
        refine Goes.runs 1 [] [.code (sub [1, 1, 1, 1, 1] B7)] (by kernel_rfl) ?_
        obtain rfl := Option.some.inj h
        have p10 := (p10.front 0 _ rfl).drop
        have p10 := (p10.front 0 _ rfl).drop
        exact Goes.ret (fn := Try.f7) (by kernel_rfl) (v := .bool false) (by kernel_rfl) ⟨S8, rfl, ((((((((((Ext.refl S0 w0).trans z2).trans z3).trans z4).trans z5).trans z6).trans z7).trans z8).trans z9).trans z10), p10⟩
    · rw [decide_eq_false h14]
      refine Goes.runs 14 [(33, undef), (34, undef), (35, undef), (36, undef), (37, .bool false), (38, .bool false), (39, undef), (40, undef), (41, undef), (42, undef), (43, undef), (44, undef), (45, .bool false), (46, .bool false)] [.inRegion (opsOf (sub [1, 1, 1, 1, 0] B7)) [22, 23, 24, 25, 26, 27, 28, 29, 30, 31, 32, 33, 34, 35, 36, 37, 38, 39, 40, 41], .code (sub [1, 1, 1, 1, 1] B7)] (by kernel_rfl) ?_
      refine Goes.runs 14 [(47, undef), (48, undef), (49, undef), (50, undef), (51, undef), (52, undef), (53, .bool false), (54, .bool false), (55, undef), (56, undef), (57, .bool false), (58, .bool false), (59, undef), (60, undef)] [.inRegion (opsOf (sub [1, 1, 1, 1, 0] B7)) [36, 37, 38, 39, 40, 41], .code (sub [1, 1, 1, 1, 1] B7)] (by kernel_rfl) ?_
      refine Goes.runs 7 [(61, .bool false), (62, .bool false), (63, undef), (64, undef), (65, .bool false), (0, .bool false)] [.code (sub [1, 1, 1, 1, 1] B7)] (by kernel_rfl) ?_
      obtain rfl := Option.some.inj h
      have p10 := (p10.front 0 _ rfl).drop
      have p10 := (p10.front 0 _ rfl).drop
      exact Goes.ret (fn := Try.f7) (by kernel_rfl) (v := .bool false) (by kernel_rfl) ⟨S8, rfl, ((((((((((Ext.refl S0 w0).trans z2).trans z3).trans z4).trans z5).trans z6).trans z7).trans z8).trans z9).trans z10), p10⟩
  · rw [decide_eq_false h13]
    refine Goes.runs 14 [(28, undef), (29, undef), (30, undef), (31, .bool false), (32, .bool false), (33, undef), (34, undef), (35, undef), (36, undef), (37, .bool false), (38, .bool false), (39, undef), (40, undef), (41, undef)] [.inRegion (opsOf (sub [1, 1, 1, 1, 0] B7)) [17, 18, 19, 20, 21, 22, 23, 24, 25, 26, 27, 28, 29, 30, 31, 32, 33, 34, 35, 36, 37, 38, 39, 40, 41], .code (sub [1, 1, 1, 1, 1] B7)] (by kernel_rfl) ?_
    refine Goes.runs 14 [(42, undef), (43, undef), (44, undef), (45, .bool false), (46, .bool false), (47, undef), (48, undef), (49, undef), (50, undef), (51, undef), (52, undef), (53, .bool false), (54, .bool false), (55, undef)] [.inRegion (opsOf (sub [1, 1, 1, 1, 0] B7)) [31, 32, 33, 34, 35, 36, 37, 38, 39, 40, 41], .code (sub [1, 1, 1, 1, 1] B7)] (by kernel_rfl) ?_
    refine Goes.runs 12 [(56, undef), (57, .bool false), (58, .bool false), (59, undef), (60, undef), (61, .bool false), (62, .bool false), (63, undef), (64, undef), (65, .bool false), (0, .bool false)] [.code (sub [1, 1, 1, 1, 1] B7)] (by kernel_rfl) ?_
    obtain rfl := Option.some.inj h
    have p10 := (p10.front 0 _ rfl).drop
    have p10 := (p10.front 0 _ rfl).drop
    exact Goes.ret (fn := Try.f7) (by kernel_rfl) (v := .bool false) (by kernel_rfl) ⟨S8, rfl, ((((((((((Ext.refl S0 w0).trans z2).trans z3).trans z4).trans z5).trans z6).trans z7).trans z8).trans z9).trans z10), p10⟩

end Go.Gx
