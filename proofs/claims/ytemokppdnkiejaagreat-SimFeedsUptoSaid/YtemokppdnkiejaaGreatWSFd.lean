import Derived.Test.YtemokppdnkiejaaGreatWSFc

set_option linter.unusedVariables false

set_option maxRecDepth 100000

set_option maxHeartbeats 4000000

namespace Go.Gx

open Go.RowKit Go.Proofs

variable (nz : Nat) (wz : World) (S0 : Fz) (w0 : World) (Lr : List Ent)

noncomputable section

def Jp7 := Zs [1] B21 []
def Jp8 := Zt [0] B21 [0, 1, 2] Jp7
def Jp9 := Zs [1, 1] B21 []
def Jpa := Zs [1, 0, 1] B21 Jp9
def Jpb := Zs [1, 0, 1, 0, 1] B21 Jp9
def Jpc := Zt [1, 0, 1, 0, 0] B21 [1, 2, 3] Jpb
def Jpd := Zs [1, 1, 1] B21 []
def Jpe := Zt [1, 1, 0] B21 [2, 3] Jpd
def Jpf := Zs [1, 1, 1, 1] B21 []
def Jpg := Zt [1, 1, 1, 0] B21 [1, 2, 3] Jpf
def Qj9 := sub [1, 1, 1, 1, 0, 0] B21
def Jph := Zr Qj9 [3, 4, 5, 6, 7, 8, 9, 10, 11, 12, 13] Jp5
def Jpi := Zr Qj9 [9, 10, 11, 12, 13] Jp5

theorem W.z3c (x0 : ByteArray) (r : T57 × Int × Int) (h : M.syntax_Parse x0 = some r) {nz wz S0 w0 Lr} (p0 : Hp nz wz S0 w0 (Lr)) :
  Calls Tryz.prog 21 #[.string x0] w0 (Rets (Post.z3c nz wz S0 w0 Lr r)) := by
 refine Zf Tryz.f21 B21 49 ?_
 refine Gj 50 [(0, .string x0)] fun junk => ?_
 delta M.syntax_Parse at h
 refine Gn 2 [] Jp8 ?_
 refine Op_.alloc 58 2 0 (.agg #[.i 0, .u 0, .u 0, .u 0, .u 0, .slice none 0 0, .i 0, .i 0]) [.i 0, .u 0, .u 0, .u 0, .u 0, .slice none 0 0, .i 0, .i 0] p0 Goes.v (by kernel_rfl) (by kernel_rfl) ?_
 intro b1 w2 z2 p2
 refine Gn 10 [(3, .i 0), (4, .i 0), (7, .string x0), (8, .i (x0.size : Int)), (9, .bool (decide ((x0.size : Int) > 256)))] Jpa ?_
 refine ite_some h (fun h3 h => ?_) (fun h3 h => ?_)
 ·
  rw [decide_eq_true h3]
  refine Gn 4 [(10, .agg #[.i 0, .u 0, .u 0, .u 0, .u 0, .slice none 0 0, .i 0, .i 0])] Jpc ?_
  refine So 58 (.tmp 2) (.tmp 10) 0 0 b1 0 (.agg #[.i 0, .u 0, .u 0, .u 0, .u 0, .slice none 0 0, .i 0, .i 0]) [.i 0, .u 0, .u 0, .u 0, .u 0, .slice none 0 0, .i 0, .i 0] p2 rfl Goes.s ?_
  intro w3 z3 p3
  have p3 : Hp nz wz S0 w3 ((some b1, .row 58 [.i 0, .u 0, .u 0, .u 0, .u 0, .slice none 0 0, .i 0, .i 0] 8 0) :: Lr) := p3
  refine Gn 3 [(3, .i 0), (4, .i 3)] Jpb ?_
  obtain rfl := Option.some.inj h
  exact Goes.ret (fn := Tryz.f21) (by kernel_rfl) (v := .tuple #[.agg #[.i 0, .u 0, .u 0, .u 0, .u 0, .slice none 0 0, .i 0, .i 0], .i 0, .i 3]) (results_n3 (fn := Tryz.f21) (a := .cell 2 58) (b := .tmp 3) (c := .tmp 4) (by kernel_rfl) (resV_cell ⟨b1, 0, none⟩ (by kernel_rfl) (run_loadN [.i 0, .u 0, .u 0, .u 0, .u 0, .slice none 0 0, .i 0, .i 0] (by kernel_rfl) (by kernel_rfl) (p3.pa 0 0))) (resV_tmp (by kernel_rfl)) (resV_tmp (by kernel_rfl))) ⟨S0, none, 0, 0, rfl, (((Ext.refl S0 w0).trans z2).trans z3), p3.drop, rfl, Rd.none_, rfl⟩
 ·
  rw [decide_eq_false h3]
  refine Gn 6 [(11, .string x0), (12, .agg #[.string x0, .i 0, .i 0, .pointer none])] Jpe ?_
  refine Op_.box 79 (.tmp 12) 13 76 (.agg #[.string x0, .i 0, .i 0, .pointer none]) [.string x0, .i 0, .i 0, .pointer none] p2 Goes.v (by kernel_rfl) (by kernel_rfl) ?_
  intro b4 w4 z4 p4
  refine Gn 5 [(5, (pt b4 0)), (14, (pt b4 0))] Jpg ?_
  refine bind_some' h fun y6 e7 h => ?_
  refine Gc (kc 36 [14] #[76]) 15 58 36 _ (W.z30 (⟨x0, 0, 0, none⟩ : T78) y6 e7 b4 (.pointer none) p4 rfl) ?_
  rintro _ w5 ⟨S5, uki, ukj, ukk, ug9, rfl, z5, p5, ukl, ukm, rfl, ugb⟩
  refine Op_.alloc 58 6 0 (.agg #[.i 0, .u 0, .u 0, .u 0, .u 0, .slice none 0 0, .i 0, .i 0]) [.i 0, .u 0, .u 0, .u 0, .u 0, .slice none 0 0, .i 0, .i 0] p5 Goes.v (by kernel_rfl) (by kernel_rfl) ?_
  intro b8 w6 z6 p6
  refine So 58 (.tmp 6) (.tmp 15) 0 0 b8 0 (ag (.i y6.1.Kind :: U4 y6.1.Set [.slice uki y6.1.L.length ukk, .i y6.1.Min, .i y6.1.Max])) (.i y6.1.Kind :: U4 y6.1.Set [.slice uki y6.1.L.length ukk, .i y6.1.Min, .i y6.1.Max]) p6 rfl Goes.s ?_
  intro w7 z7 p7
  have p7 : Hp nz wz S5 w7 ((some b8, .row 58 (.i y6.1.Kind :: U4 y6.1.Set [.slice uki y6.1.L.length ukk, .i y6.1.Min, .i y6.1.Max]) 8 0) :: (some b4, .row 79 [.string y6.2.s, .i y6.2.at_, .i y6.2.deep, ug9] 4 0) :: (some b1, .row 58 [.i 0, .u 0, .u 0, .u 0, .u 0, .slice none 0 0, .i 0, .i 0] 8 0) :: Lr) := p7
  refine Gn 7 [(16, (pt b4 0)), (17, (pt b4 0)), (18, (pt b4 3))] Jph ?_
  refine Goes.ld 77 (.tmp 18) 19 77 ⟨b4, 3, none⟩ (ug9) (p7.c 1 3) ?_
  refine let_some h fun v22 h10 h => ?_
  rcases v22 with _ | y11
  ·
   try dsimp only at h
   obtain rfl := PtO.nil (ugb.ext (z6.trans z7)) h10
   refine Gn 5 [(20, .bool true), (21, .bool true), (22, (pt b4 0)), (23, (pt b4 0)), (24, (pt b4 1))] Jpi ?_
   refine Goes.ld 3 (.tmp 24) 25 3 ⟨b4, 1, none⟩ (.i y6.2.at_) (p7.c 1 1) ?_
   refine Gn 5 [(26, .string x0), (27, .i (x0.size : Int)), (28, .bool (decide (y6.2.at_ < (x0.size : Int)))), (29, .bool (decide (y6.2.at_ < (x0.size : Int))))] Jp5 ?_
   have p7 : Hp nz wz S5 w7 ((none, .row 58 [] (0 * kT57.size) 0) :: (some b8, .row 58 (.i y6.1.Kind :: U4 y6.1.Set [.slice uki y6.1.L.length ukk, .i y6.1.Min, .i y6.1.Max]) 8 0) :: (some b4, .row 79 [.string y6.2.s, .i y6.2.at_, .i y6.2.deep, .pointer none] 4 0) :: (some b1, .row 58 [.i 0, .u 0, .u 0, .u 0, .u 0, .slice none 0 0, .i 0, .i 0] 8 0) :: Lr) := p7.nilRow' 58
   have p7 := (((p7.fr 1).fr 2).fr 2).fr 3
   exact Gj 50 [(2, (pt b1 0)), (5, (pt b4 0)), (6, (pt b8 0)), (29, .bool (decide (y6.2.at_ < (x0.size : Int))))] (W.z3f _ _ h _ _ ((((((Ext.refl S0 w0).trans z2).trans z4).trans z5).trans z6).trans z7) b1 none 0 0 [] b4 (.pointer none) b8 uki y6.1.L.length ukk p7 rfl (Els.nil (K := kT57)) rfl rfl ukl (ukm.ext (z6.trans z7)) rfl)
  ·
   try dsimp only at h
   obtain ⟨a13, _, rfl, -, f14, q15⟩ := PtO.got (ugb.ext (z6.trans z7)) h10
   obtain rfl := q15
   refine Gn 11 [(20, .bool false), (21, .bool false), (22, undef), (23, undef), (24, undef), (25, undef), (26, undef), (27, undef), (28, undef), (29, .bool false)] Jp5 ?_
   have p7 : Hp nz wz S5 w7 ((none, .row 58 [] (0 * kT57.size) 0) :: (some b8, .row 58 (.i y6.1.Kind :: U4 y6.1.Set [.slice uki y6.1.L.length ukk, .i y6.1.Min, .i y6.1.Max]) 8 0) :: (some b4, .row 79 [.string y6.2.s, .i y6.2.at_, .i y6.2.deep, .pointer (some a13)] 4 0) :: (some b1, .row 58 [.i 0, .u 0, .u 0, .u 0, .u 0, .slice none 0 0, .i 0, .i 0] 8 0) :: Lr) := p7.nilRow' 58
   have p7 := (((p7.fr 1).fr 2).fr 2).fr 3
   exact Gj 50 [(2, (pt b1 0)), (5, (pt b4 0)), (6, (pt b8 0)), (29, .bool false)] (W.z3f _ _ h _ _ ((((((Ext.refl S0 w0).trans z2).trans z4).trans z5).trans z6).trans z7) b1 none 0 0 [] b4 (.pointer (some a13)) b8 uki y6.1.L.length ukk p7 rfl (Els.nil (K := kT57)) rfl ⟨_, _, rfl, List.cons_ne_nil _ _, f14, rfl⟩ ukl (ukm.ext (z6.trans z7)) rfl)

def Jpj := Zs [1, 1, 1] B88 []
def Jpk := Zs [1, 1, 0, 1] B88 Jpj
def Jpl := Zs [1, 1, 1, 1] B88 []
def Jpm := Zb 0 Jpl
def Qjd := sub [1, 1, 1, 0, 1, 0, 0] B88
def Jpn := Zl Qjd Jpm
def Jpo := Zc Qjd Jpn
def Jpp := Zs [1] B88 []
def Jpq := Zt [0] B88 [0, 1] Jpp
def Jpr := Zs [1, 1] B88 []
def Qjh := sub [1, 0] B88
def Jps := Zr Qjh [2, 3, 4, 5] Jpr
def Jpt := Zr Qjh [5] Jpr
def Qji := sub [1, 1, 0, 0] B88
def Jpu := Zr Qji [3, 4, 5, 6, 7] Jpk
def Jpv := Zr Qji [5, 6, 7] Jpk
def Jpw := Zs [1, 1, 0, 1, 0, 1] B88 Jpj
def Jpx := Zs [1, 1, 1, 0, 1] B88 Jpl
def Jpy := Zt [1, 1, 1, 0, 0] B88 [1, 2, 3] Jpx
def Jpz := Zs [1, 1, 1, 0, 1, 0, 0, 1, 1] B88 Jpn
def Jq0 := Zs [1, 1, 1, 0, 1, 0, 0, 1, 0] B88 Jpz
def Jq1 := Zs [1, 1, 1, 0, 1, 0, 0, 1, 1, 1] B88 Jpn
def Jq2 := Zb 1 Jq1
def Jq3 := Zs [1, 1, 1, 0, 1, 0, 0, 1, 1, 0, 0, 1] B88 Jq2
def Jq4 := Zt [1, 1, 1, 0, 1, 0, 0, 1, 1, 0, 0, 0] B88 [0, 1, 2, 3] Jq3
def Jq5 := Zs [1, 1, 1, 0, 1, 0, 0, 1, 1, 0, 0, 1, 1] B88 Jq2
def Qjs := sub [1, 1, 1, 0, 1, 0, 0, 1, 1, 0, 0, 1, 0] B88
def Jq6 := Zr Qjs [0, 1, 2, 3, 4, 5] Jq5
def Jq7 := Zr Qjs [4, 5] Jq5
def Jq8 := Zs [1, 1, 1, 0, 1, 0, 0, 1, 1, 0, 0, 1, 1, 0, 1] B88 Jq2
def Jq9 := Zs [1, 1, 1, 1, 1] B88 []

def Post.z3g (gx2 : Nat) (r : Bool × Int) (v : Value) (w' : World) : Prop :=
 ∃ S', v = .bool r.1 ∧ Ext S0 w0 S' w' ∧ Hp nz wz S' w' ((some gx2, .row 3 [.i r.2] 1 0) :: Lr)

def LF.z3g : T57 × Int × Int → (Bool × Int) → Prop := fun ⟨x0, x1, udh⟩ r => ∀ {nz wz S0 w0 Lr} uls ult ulu gx2 (_ : Hp nz wz S0 w0 ((some gx2, .row 3 [.i udh] 1 0) :: Lr)) (_ : x0.Set.length = 4) (_ : Rd kT57 S0 w0 uls ulu x0.L) (_ : x0.L.length = ult),
 Calls Tryz.prog 88 #[(ag (.i x0.Kind :: U4 x0.Set [.slice uls ult ulu, .i x0.Min, .i x0.Max])), .i x1, (pt gx2 0)] w0 (Rets (Post.z3g nz wz S0 w0 Lr gx2 r))

def L.z3h (gx2 : Nat) : Int × T57 × Bool × Int → (Bool × Int) → Prop := fun ⟨x1, x3v, x21, ulv⟩ r => ∀ S1 w1, Ext S0 w0 S1 w1 → ∀ gx3 ulw ulx uly (_ : Hp nz wz S1 w1 ((some gx3, .row 58 (.i x3v.Kind :: U4 x3v.Set [.slice ulw ulx uly, .i x3v.Min, .i x3v.Max]) 8 0) :: (some gx2, .row 3 [.i ulv] 1 0) :: Lr)) (_ : x3v.Set.length = 4) (_ : Rd kT57 S1 w1 ulw uly x3v.L) (_ : x3v.L.length = ulx) (junk : Nat → Value),
 Goes Tryz.prog (base 88) Jpk ⟨lfr 36 [(1, .i x1), (2, (pt gx2 0)), (3, (pt gx3 0)), (21, .bool x21)] junk, []⟩ w1 (Done Tryz.prog 88 (Rets (Post.z3g nz wz S0 w0 Lr gx2 r)))

def LL.z3h : Int × T57 × Bool × Int → (Bool × Int) → Prop := fun a r => ∀ {nz wz S0 w0 Lr} (gx2 : Nat), L.z3h nz wz S0 w0 Lr gx2 a r

def L.z3i (gx2 : Nat) : Int × (List T57) × Int × Int × Int → (Bool × Int) → Prop := fun ⟨x1, x23, x24, x25, ulv⟩ r => ∀ S1 w1, Ext S0 w0 S1 w1 → ∀ ulz um0 um1 (_ : Hp nz wz S1 w1 ((some gx2, .row 3 [.i ulv] 1 0) :: Lr)) (_ : Rd kT57 S1 w1 ulz um1 x23) (_ : x23.length = um0) (junk : Nat → Value),
 Goes Tryz.prog (base 88) Jpo ⟨lfr 36 [(1, .i x1), (2, (pt gx2 0)), (23, .slice ulz um0 um1), (24, .i x24), (25, .i x25)] junk, []⟩ w1 (Done Tryz.prog 88 (Rets (Post.z3g nz wz S0 w0 Lr gx2 r)))

def LL.z3i : Int × (List T57) × Int × Int × Int → (Bool × Int) → Prop := fun a r => ∀ {nz wz S0 w0 Lr} (gx2 : Nat), L.z3i nz wz S0 w0 Lr gx2 a r

theorem W.z3j : (∀ a r, M.syntax_count a = some r → LF.z3g a r) ∧ (∀ a r, M.syntax_count_l0 a = some r → LL.z3h a r) ∧ (∀ a r, M.syntax_count_l1 a = some r → LL.z3i a r) := by
 refine M.syntax_count.mutual_partial_correctness LF.z3g LL.z3h LL.z3i ?_ ?_ ?_
 ·
  intro um2 um3 ⟨x0, x1, udh⟩ r h nz wz S0 w0 Lr uls ult ulu gx2 p0 u1 um4 um5
  try dsimp only at h
  subst um5
  refine Zf Tryz.f88 B88 33 ?_
  refine Gj 36 [(0, (ag (.i x0.Kind :: U4 x0.Set [.slice uls x0.L.length ulu, .i x0.Min, .i x0.Max]))), (1, .i x1), (2, (pt gx2 0))] fun junk => ?_
  refine Gn 2 [] Jpq ?_
  refine Op_.box 58 (.tmp 0) 3 0 (ag (.i x0.Kind :: U4 x0.Set [.slice uls x0.L.length ulu, .i x0.Min, .i x0.Max])) (.i x0.Kind :: U4 x0.Set [.slice uls x0.L.length ulu, .i x0.Min, .i x0.Max]) p0 Goes.v (by kernel_rfl) (by kernel_rfl) ?_
  intro b2 w2 z2 p2
  refine Gn 6 [(6, .bool false), (9, (pt gx2 0)), (10, (pt gx2 0))] Jps ?_
  refine Goes.ld 3 (.tmp 10) 11 3 ⟨gx2, 0, none⟩ (.i udh) (p2.c 1 0) ?_
  refine Gn 2 [(12, .i (wr .i64 (udh + 1))), (13, (pt gx2 0))] Jpt ?_
  refine So 3 (.tmp 13) (.tmp 12) 0 1 gx2 0 (.i (wr .i64 (udh + 1))) [.i (wr .i64 (udh + 1))] p2 rfl Goes.s ?_
  intro w3 z3 p3
  have p3 : Hp nz wz S0 w3 ((some b2, .row 58 (.i x0.Kind :: U4 x0.Set [.slice uls x0.L.length ulu, .i x0.Min, .i x0.Max]) 8 0) :: (some gx2, .row 3 [.i (wr .i64 (udh + 1))] 1 0) :: Lr) := p3
  refine Gn 7 [(14, .i x1), (15, .bool (decide (x1 = 0))), (16, .bool (decide (x1 = 0)))] Jpu ?_
  refine ite_some h (fun h4 h => ?_) (fun h4 h => ?_)
  ·
   rw [decide_eq_true h4]
   refine Gn 6 [(17, undef), (18, undef), (19, undef), (20, undef), (21, .bool true)] Jpk ?_
   exact Gj 36 [(1, .i x1), (2, (pt gx2 0)), (3, (pt b2 0)), (21, .bool true)] (um3 _ _ h gx2 _ _ (((Ext.refl S0 w0).trans z2).trans z3) b2 uls x0.L.length ulu p3 u1 (um4.ext (z2.trans z3)) rfl)
  ·
   rw [decide_eq_false h4]
   refine Gn 2 [(17, (pt gx2 0)), (18, (pt gx2 0))] Jpv ?_
   refine Goes.ld 3 (.tmp 18) 19 3 ⟨gx2, 0, none⟩ (.i (wr .i64 (udh + 1))) (p3.c 1 0) ?_
   refine Gn 3 [(20, .bool (decide (wr .i64 (udh + 1) > 4096))), (21, .bool (decide (wr .i64 (udh + 1) > 4096)))] Jpk ?_
   exact Gj 36 [(1, .i x1), (2, (pt gx2 0)), (3, (pt b2 0)), (21, .bool (decide (wr .i64 (udh + 1) > 4096)))] (um3 _ _ h gx2 _ _ (((Ext.refl S0 w0).trans z2).trans z3) b2 uls x0.L.length ulu p3 u1 (um4.ext (z2.trans z3)) rfl)
 ·
  intro um6 um7 ⟨x1, x3v, x21, ulv⟩ r h nz wz S0 w0 Lr gx2 S1 w1 hx gx3 ulw ulx uly p1 um8 um9 uma junk
  try dsimp only at h
  subst uma
  refine ite_some h (fun h6 h => ?_) (fun h6 h => ?_)
  ·
   rw [h6]
   refine Gn 5 [(6, .bool false)] Jpw ?_
   obtain rfl := Option.some.inj h
   have p1 := p1.dp 0
   exact Goes.rt Tryz.f88 (.bool false) ⟨S1, rfl, hx, p1⟩
  ·
   have h6' : x21 = false := by simpa using h6
   rw [h6']
   refine Gn 6 [(22, (pt gx3 5))] Jpy ?_
   refine Goes.ld 56 (.tmp 22) 23 56 ⟨gx3, 5, none⟩ (.slice ulw x3v.L.length uly) (p1.c 0 5) ?_
   refine Gn 5 [(24, .i (x3v.L.length : Int)), (25, .i 0)] Jpo ?_
   have p1 := p1.dp 0
   exact Gj 36 [(1, .i x1), (2, (pt gx2 0)), (23, .slice ulw x3v.L.length uly), (24, .i (x3v.L.length : Int)), (25, .i 0)] (um7 _ _ h gx2 _ _ hx ulw x3v.L.length uly p1 um9 rfl)
 ·
  intro rec_syntax_count um6 ih_syntax_count um7 ⟨x1, x23, x24, x25, ulv⟩ r h nz wz S0 w0 Lr gx2 S1 w1 hx ulz um0 um1 p1 umb umc junk
  try dsimp only at h
  subst umc
  refine Gn 5 [(26, .bool (decide (x25 < x24)))] Jq0 ?_
  refine ite_some h (fun h7 h => ?_) (fun h7 h => ?_)
  ·
   rw [decide_eq_true h7]
   refine Gn 6 [] Jq4 ?_
   refine guard_some' h fun g8 h => ?_
   refine guard_some' h fun g9 h => ?_
   refine Op_.ixR_n 56 (.tmp 23) (.tmp 25) 27 0 58 .i64 x25 (gi x23 x25) rfl rfl umb Goes.v (by kernel_rfl) (by kernel_rfl) (by kernel_rfl) (by kernel_rfl) g8 g9 ?_
   intro a10 _ f11 q12
   have q13 := q12
   obtain ⟨_, _, rfl, rfl, ⟨_, _, rfl, ⟨l14, f15⟩, ⟨_, _, rfl, ⟨A16, c17, rfl, f18⟩, ⟨_, _, rfl, rfl, rfl⟩⟩⟩⟩ := kT57_open q13
   obtain rfl := els_lit4' f15 l14
   refine Goes.ldN 58 (.tmp 27) 28 58 a10 ([.i ((gi x23 x25).Kind)] ++ ((U4 ((gi x23 x25).Set) []) ++ ([.slice A16 (((gi x23 x25).L).length) c17] ++ ([.i ((gi x23 x25).Min)] ++ [.i ((gi x23 x25).Max)])))) (f11.cell) ?_
   refine Op_.alloc 58 8 0 (.agg #[.i 0, .u 0, .u 0, .u 0, .u 0, .slice none 0 0, .i 0, .i 0]) [.i 0, .u 0, .u 0, .u 0, .u 0, .slice none 0 0, .i 0, .i 0] p1 Goes.v (by kernel_rfl) (by kernel_rfl) ?_
   intro b19 w4 z4 p4
   refine So 58 (.tmp 8) (.tmp 28) 0 0 b19 0 (ag (.i ((gi x23 x25).Kind) :: U4 ((gi x23 x25).Set) [.slice A16 (((gi x23 x25).L).length) c17, .i ((gi x23 x25).Min), .i ((gi x23 x25).Max)])) (.i ((gi x23 x25).Kind) :: U4 ((gi x23 x25).Set) [.slice A16 (((gi x23 x25).L).length) c17, .i ((gi x23 x25).Min), .i ((gi x23 x25).Max)]) p4 rfl Goes.s ?_
   intro w5 z5 p5
   have p5 : Hp nz wz S1 w5 ((some b19, .row 58 (.i ((gi x23 x25).Kind) :: U4 ((gi x23 x25).Set) [.slice A16 (((gi x23 x25).L).length) c17, .i ((gi x23 x25).Min), .i ((gi x23 x25).Max)]) 8 0) :: (some gx2, .row 3 [.i ulv] 1 0) :: Lr) := p5
   refine Gn 3 [] Jq6 ?_
   refine Goes.ldN 58 (.tmp 8) 29 58 ⟨b19, 0, none⟩ (.i ((gi x23 x25).Kind) :: U4 ((gi x23 x25).Set) [.slice A16 (((gi x23 x25).L).length) c17, .i ((gi x23 x25).Min), .i ((gi x23 x25).Max)]) (p5.pa 0 0) ?_
   refine Gn 3 [(30, .i x1), (31, .i (wr .i64 (x1 - 1))), (32, (pt gx2 0))] Jq7 ?_
   have p5 := p5.fr 1
   refine bind_some' h fun y21 e22 h => ?_
   refine Gc (kc 88 [29, 31, 32] #[58, 3, 132]) 33 4 88 _ (ih_syntax_count ((⟨(gi x23 x25).Kind, ((gi x23 x25).Set), (gi x23 x25).L, (gi x23 x25).Min, (gi x23 x25).Max⟩ : T57), wr .i64 (x1 - 1), ulv) y21 e22 A16 (((gi x23 x25).L).length) c17 gx2 p5 l14 (f18.ext (z4.trans z5)) rfl) ?_
   rintro _ w6 ⟨S6, rfl, z6, p6⟩
   have p6 := p6.dp 1
   refine Gn 2 [(34, .bool (!y21.1))] Jq5 ?_
   refine ite_some h (fun h23 h => ?_) (fun h23 h => ?_)
   ·
    rw [h23]
    refine Gn 8 [(35, .i (wr .i64 (x25 + 1))), (25, .i (wr .i64 (x25 + 1)))] Jpo ?_
    exact Gj 36 [(1, .i x1), (2, (pt gx2 0)), (23, .slice ulz x23.length um1), (24, .i x24), (25, .i (wr .i64 (x25 + 1)))] (um7 _ _ h gx2 _ _ (((hx.trans z4).trans z5).trans z6) ulz x23.length um1 p6 (umb.ext ((z4.trans z5).trans z6)) rfl)
   ·
    have ulr : y21.1 = false := by simpa using h23
    rw [ulr]
    refine Gn 5 [(6, .bool false)] Jq8 ?_
    obtain rfl := Option.some.inj h
    exact Goes.rt Tryz.f88 (.bool false) ⟨S6, rfl, (((hx.trans z4).trans z5).trans z6), p6⟩
  ·
   rw [decide_eq_false h7]
   refine Gn 6 [(6, .bool true)] Jq9 ?_
   obtain rfl := Option.some.inj h
   exact Goes.rt Tryz.f88 (.bool true) ⟨S1, rfl, hx, p1⟩

theorem W.z3g : ∀ a r, M.syntax_count a = some r → LF.z3g a r := (W.z3j).1

theorem W.z3h : ∀ a r, M.syntax_count_l0 a = some r → LL.z3h a r := (W.z3j).2.1

theorem W.z3i : ∀ a r, M.syntax_count_l1 a = some r → LL.z3i a r := (W.z3j).2.2

def Jqa := Zs [1, 1, 1, 1] B101 []
def Jqb := Zb 0 Jqa
def Jqc := Zs [1, 1, 1, 0, 1, 0, 1, 1, 1, 1, 1, 0, 1, 1] B101 Jqb
def Jqd := Zs [1, 1, 1, 0, 1, 0, 1, 1, 1, 1, 1, 0, 1, 1, 1] B101 Jqb
def Qjy := sub [1, 1, 1, 0, 1, 0, 1, 1, 1, 1, 1, 0, 1, 1, 0] B101
def Jqe := Zr Qjy [1, 2, 3, 4, 5, 6, 7, 8, 9, 10, 11, 12, 13, 14, 15, 16] Jqd
def Jqf := Zr Qjy [5, 6, 7, 8, 9, 10, 11, 12, 13, 14, 15, 16] Jqd
def Jqg := Zr Qjy [6, 7, 8, 9, 10, 11, 12, 13, 14, 15, 16] Jqd
def Jqh := Zr Qjy [11, 12, 13, 14, 15, 16] Jqd
def Jqi := Zr Qjy [14, 15, 16] Jqd

def Post.z3k (r : Bool) (v : Value) (w' : World) : Prop :=
 ∃ S', v = .bool r ∧ Ext S0 w0 S' w' ∧ Hp nz wz S' w' (Lr)

def L.z3l : T57 × (List Int) × Bool × Bool → Bool → Prop := fun ⟨x1v, umd, x5, x6⟩ r => ∀ S1 w1, Ext S0 w0 S1 w1 → ∀ gx1 ume umf umg gx3 (_ : Hp nz wz S1 w1 ((some gx1, .row 58 (.i x1v.Kind :: U4 x1v.Set [.slice ume umf umg, .i x1v.Min, .i x1v.Max]) 8 0) :: (some gx3, .row 44 (U4 umd []) 4 0) :: Lr)) (_ : x1v.Set.length = 4) (_ : Rd kT57 S1 w1 ume umg x1v.L) (_ : x1v.L.length = umf) (_ : umd.length = 4) (junk : Nat → Value),
 Goes Tryz.prog (base 101) Jqc ⟨lfr 77 [(1, (pt gx1 0)), (3, (pt gx3 0)), (5, .bool x5), (6, .bool x6)] junk, []⟩ w1 (Done Tryz.prog 101 (Rets (Post.z3k nz wz S0 w0 Lr r)))

theorem W.z3l {nz wz S0 w0 Lr} : ∀ a r, M.syntax_shaped_l3 a = some r → L.z3l nz wz S0 w0 Lr a r := by
 intro ⟨x1v, umd, x5, x6⟩ r h S1 w1 hx gx1 ume umf umg gx3 p1 umh umi umj umk junk
 rw [M.syntax_shaped_l3] at h
 try dsimp only at h
 subst umj
 refine Gn 3 [(61, (pt gx1 5))] Jqe ?_
 refine Goes.ld 56 (.tmp 61) 62 56 ⟨gx1, 5, none⟩ (.slice ume x1v.L.length umg) (p1.c 0 5) ?_
 refine Gn 3 [(63, .i (x1v.L.length : Int)), (64, .bool (decide ((x1v.L.length : Int) = 1))), (65, .bool (decide ((x1v.L.length : Int) = 1)))] Jqf ?_
 refine ite_some h (fun h23 h => ?_) (fun h23 h => ?_)
 ·
  rw [decide_eq_true h23]
  refine Gn 1 [(66, (pt gx1 1))] Jqg ?_
  refine Goes.ldN 44 (.tmp 66) 67 44 ⟨gx1, 1, none⟩ (U4 x1v.Set []) (p1.pa 0 1) ?_
  refine Goes.ldN 44 (.tmp 3) 68 44 ⟨gx3, 0, none⟩ (U4 umd []) (p1.pa 1 0) ?_
  refine Op_.eqA 44 (.tmp 67) (.tmp 68) 44 69 4 42 4 .u64 (us := ((U4 x1v.Set []) : List Value)) (vs := ((U4 umd []) : List Value)) Goes.v (by kernel_rfl) (by kernel_rfl) (by kernel_rfl) (by kernel_rfl) (by kernel_rfl) (by kernel_rfl) (by kernel_rfl) (els_mk4 (S := S1) (w := w1) (k := .u64) umh) (els_mk4 (S := S1) (w := w1) (k := .u64) umk) (Els.len1 (els_mk4 (S := S1) (w := w1) (k := .u64) umh) rfl rfl) (Els.len1 (els_mk4 (S := S1) (w := w1) (k := .u64) umk) rfl rfl) ?_
  refine Gn 2 [(70, .bool (decide (x1v.Set = umd))), (71, .bool (decide (x1v.Set = umd)))] Jqh ?_
  refine ite_some h (fun h24 h => ?_) (fun h24 h => ?_)
  ·
   rw [decide_eq_true h24]
   refine Gn 3 [(72, .bool x5), (73, .bool x5), (74, .bool x5)] Jqi ?_
   refine ite_some h (fun h25 h => ?_) (fun h25 h => ?_)
   ·
    rw [h25]
    refine Gn 4 [(75, .bool x6), (76, .bool x6), (2, .bool x6)] Jqd ?_
    obtain rfl := Option.some.inj h
    have p1 := (p1.dp 0).dp 0
    exact Goes.rt Tryz.f101 (.bool x6) ⟨S1, rfl, hx, p1⟩
   ·
    have uk5 : x5 = false := by simpa using h25
    rw [uk5]
    refine Gn 4 [(75, undef), (76, .bool false), (2, .bool false)] Jqd ?_
    obtain rfl := Option.some.inj h
    have p1 := (p1.dp 0).dp 0
    exact Goes.rt Tryz.f101 (.bool false) ⟨S1, rfl, hx, p1⟩
  ·
   rw [decide_eq_false h24]
   refine Gn 7 [(72, undef), (73, .bool false), (74, .bool false), (75, undef), (76, .bool false), (2, .bool false)] Jqd ?_
   obtain rfl := Option.some.inj h
   have p1 := (p1.dp 0).dp 0
   exact Goes.rt Tryz.f101 (.bool false) ⟨S1, rfl, hx, p1⟩
 ·
  rw [decide_eq_false h23]
  refine Gn 13 [(66, undef), (67, undef), (68, undef), (69, undef), (70, .bool false), (71, .bool false), (72, undef), (73, .bool false), (74, .bool false), (75, undef), (76, .bool false), (2, .bool false)] Jqd ?_
  obtain rfl := Option.some.inj h
  have p1 := (p1.dp 0).dp 0
  exact Goes.rt Tryz.f101 (.bool false) ⟨S1, rfl, hx, p1⟩

def Jqj := Zs [1, 1, 1, 0, 1, 0, 1, 1, 1, 1, 1, 0, 1] B101 Jqb
def Qk0 := sub [1, 1, 1, 0, 1, 0, 1, 1, 1, 1, 1, 0, 1, 0] B101
def Jqk := Zr Qk0 [1, 2, 3, 4, 5, 6, 7, 8, 9, 10, 11, 12, 13, 14, 15] Jqc
def Jql := Zr Qk0 [4, 5, 6, 7, 8, 9, 10, 11, 12, 13, 14, 15] Jqc
def Jqm := Zr Qk0 [5, 6, 7, 8, 9, 10, 11, 12, 13, 14, 15] Jqc
def Jqn := Zr Qk0 [7, 8, 9, 10, 11, 12, 13, 14, 15] Jqc
def Jqo := Zr Qk0 [10, 11, 12, 13, 14, 15] Jqc
def Jqp := Zr Qk0 [11, 12, 13, 14, 15] Jqc

def L.z3m : T57 × (List Int) × Bool → Bool → Prop := fun ⟨x1v, umd, x5⟩ r => ∀ S1 w1, Ext S0 w0 S1 w1 → ∀ gx1 ume umf umg gx3 (_ : Hp nz wz S1 w1 ((some gx1, .row 58 (.i x1v.Kind :: U4 x1v.Set [.slice ume umf umg, .i x1v.Min, .i x1v.Max]) 8 0) :: (some gx3, .row 44 (U4 umd []) 4 0) :: Lr)) (_ : x1v.Set.length = 4) (_ : Rd kT57 S1 w1 ume umg x1v.L) (_ : x1v.L.length = umf) (_ : umd.length = 4) (junk : Nat → Value),
 Goes Tryz.prog (base 101) Jqj ⟨lfr 77 [(1, (pt gx1 0)), (3, (pt gx3 0)), (5, .bool x5)] junk, []⟩ w1 (Done Tryz.prog 101 (Rets (Post.z3k nz wz S0 w0 Lr r)))

theorem W.z3m {nz wz S0 w0 Lr} : ∀ a r, M.syntax_shaped_l2 a = some r → L.z3m nz wz S0 w0 Lr a r := by
 intro ⟨x1v, umd, x5⟩ r h S1 w1 hx gx1 ume umf umg gx3 p1 umh umi umj umk junk
 rw [M.syntax_shaped_l2] at h
 try dsimp only at h
 subst umj
 refine Gn 3 [(46, (pt gx1 7))] Jqk ?_
 refine Goes.ld 3 (.tmp 46) 47 3 ⟨gx1, 7, none⟩ (.i x1v.Max) (p1.c 0 7) ?_
 refine Gn 2 [(48, .bool (decide (x1v.Max = (-1)))), (49, .bool (decide (x1v.Max = (-1))))] Jql ?_
 refine ite_some h (fun h19 h => ?_) (fun h19 h => ?_)
 ·
  rw [decide_eq_true h19]
  refine Gn 13 [(50, undef), (51, undef), (52, undef), (53, undef), (54, undef), (55, undef), (56, undef), (57, undef), (58, undef), (59, undef), (60, .bool true), (6, .bool true)] Jqc ?_
  exact Gj 77 [(1, (pt gx1 0)), (3, (pt gx3 0)), (5, .bool x5), (6, .bool true)] (W.z3l _ _ h _ _ hx gx1 ume x1v.L.length umg gx3 p1 umh umi rfl umk)
 ·
  rw [decide_eq_false h19]
  refine Gn 1 [(50, (pt gx1 7))] Jqm ?_
  refine Goes.ld 3 (.tmp 50) 51 3 ⟨gx1, 7, none⟩ (.i x1v.Max) (p1.c 0 7) ?_
  refine Gn 1 [(52, (pt gx1 6))] Jqn ?_
  refine Goes.ld 3 (.tmp 52) 53 3 ⟨gx1, 6, none⟩ (.i x1v.Min) (p1.c 0 6) ?_
  refine Gn 2 [(54, .bool (decide (x1v.Max ≥ x1v.Min))), (55, .bool (decide (x1v.Max ≥ x1v.Min)))] Jqo ?_
  refine ite_some h (fun h22 h => ?_) (fun h22 h => ?_)
  ·
   rw [decide_eq_true h22]
   refine Gn 1 [(56, (pt gx1 7))] Jqp ?_
   refine Goes.ld 3 (.tmp 56) 57 3 ⟨gx1, 7, none⟩ (.i x1v.Max) (p1.c 0 7) ?_
   refine Gn 5 [(58, .bool (decide (x1v.Max ≤ 64))), (59, .bool (decide (x1v.Max ≤ 64))), (60, .bool (decide (x1v.Max ≤ 64))), (6, .bool (decide (x1v.Max ≤ 64)))] Jqc ?_
   exact Gj 77 [(1, (pt gx1 0)), (3, (pt gx3 0)), (5, .bool x5), (6, .bool (decide (x1v.Max ≤ 64)))] (W.z3l _ _ h _ _ hx gx1 ume x1v.L.length umg gx3 p1 umh umi rfl umk)
  ·
   rw [decide_eq_false h22]
   refine Gn 7 [(56, undef), (57, undef), (58, undef), (59, .bool false), (60, .bool false), (6, .bool false)] Jqc ?_
   exact Gj 77 [(1, (pt gx1 0)), (3, (pt gx3 0)), (5, .bool x5), (6, .bool false)] (W.z3l _ _ h _ _ hx gx1 ume x1v.L.length umg gx3 p1 umh umi rfl umk)

def Jqq := Zs [1, 1, 1, 0, 1, 0, 1, 1, 1] B101 Jqb
def Jqr := Zs [1, 1, 1, 0, 1, 0, 1, 1, 1, 0, 1] B101 Jqb
def Qk3 := sub [1, 1, 1, 0, 1, 0, 1, 1, 1, 0, 0] B101
def Jqs := Zr Qk3 [1, 2, 3, 4, 5, 6, 7] Jqr
def Jqt := Zr Qk3 [5, 6, 7] Jqr
def Jqu := Zs [1, 1, 1, 0, 1, 0, 1, 1, 1, 1, 1] B101 Jqb
def Qk5 := sub [1, 1, 1, 0, 1, 0, 1, 1, 1, 1, 1, 0, 0] B101
def Jqv := Zr Qk5 [1, 2, 3, 4, 5, 6, 7, 8] Jqj
def Jqw := Zr Qk5 [4, 5, 6, 7, 8] Jqj
def Jqx := Zr Qk5 [5, 6, 7, 8] Jqj
def Jqy := Zs [1, 1, 1, 1, 1] B101 []

def L.z3n : T57 × (List Int) × Bool × Int × Bool → Bool → Prop := fun ⟨x1v, umd, x4, x16, x26⟩ r => ∀ S1 w1, Ext S0 w0 S1 w1 → ∀ gx1 ume umf umg gx3 (_ : Hp nz wz S1 w1 ((some gx1, .row 58 (.i x1v.Kind :: U4 x1v.Set [.slice ume umf umg, .i x1v.Min, .i x1v.Max]) 8 0) :: (some gx3, .row 44 (U4 umd []) 4 0) :: Lr)) (_ : x1v.Set.length = 4) (_ : Rd kT57 S1 w1 ume umg x1v.L) (_ : x1v.L.length = umf) (_ : umd.length = 4) (junk : Nat → Value),
 Goes Tryz.prog (base 101) Jqq ⟨lfr 77 [(1, (pt gx1 0)), (3, (pt gx3 0)), (4, .bool x4), (16, .i x16), (26, .bool x26)] junk, []⟩ w1 (Done Tryz.prog 101 (Rets (Post.z3k nz wz S0 w0 Lr r)))

theorem W.z3n {nz wz S0 w0 Lr} : ∀ a r, M.syntax_shaped_l1 a = some r → L.z3n nz wz S0 w0 Lr a r := by
 intro ⟨x1v, umd, x4, x16, x26⟩ r h S1 w1 hx gx1 ume umf umg gx3 p1 umh umi umj umk junk
 rw [M.syntax_shaped_l1] at h
 try dsimp only at h
 subst umj
 refine ite_some h (fun h13 h => ?_) (fun h13 h => ?_)
 ·
  rw [h13]
  refine Gn 4 [(29, (pt gx1 1))] Jqs ?_
  refine Goes.ldN 44 (.tmp 29) 30 44 ⟨gx1, 1, none⟩ (U4 x1v.Set []) (p1.pa 0 1) ?_
  refine Goes.ldN 44 (.tmp 3) 31 44 ⟨gx3, 0, none⟩ (U4 umd []) (p1.pa 1 0) ?_
  refine Op_.eqA 44 (.tmp 30) (.tmp 31) 44 32 4 42 4 .u64 (us := ((U4 x1v.Set []) : List Value)) (vs := ((U4 umd []) : List Value)) Goes.v (by kernel_rfl) (by kernel_rfl) (by kernel_rfl) (by kernel_rfl) (by kernel_rfl) (by kernel_rfl) (by kernel_rfl) (els_mk4 (S := S1) (w := w1) (k := .u64) umh) (els_mk4 (S := S1) (w := w1) (k := .u64) umk) (Els.len1 (els_mk4 (S := S1) (w := w1) (k := .u64) umh) rfl rfl) (Els.len1 (els_mk4 (S := S1) (w := w1) (k := .u64) umk) rfl rfl) ?_
  refine Gn 1 [(33, .bool (decide (x1v.Set = umd)))] Jqt ?_
  refine ite_some h (fun h14 h => ?_) (fun h14 h => ?_)
  ·
   rw [decide_eq_true h14]
   refine Gn 4 [(34, .bool x4), (35, .bool x4), (2, .bool x4)] Jqr ?_
   obtain rfl := Option.some.inj h
   have p1 := (p1.dp 0).dp 0
   exact Goes.rt Tryz.f101 (.bool x4) ⟨S1, rfl, hx, p1⟩
  ·
   rw [decide_eq_false h14]
   refine Gn 4 [(34, undef), (35, .bool false), (2, .bool false)] Jqr ?_
   obtain rfl := Option.some.inj h
   have p1 := (p1.dp 0).dp 0
   exact Goes.rt Tryz.f101 (.bool false) ⟨S1, rfl, hx, p1⟩
 ·
  have u2 : x26 = false := by simpa using h13
  rw [u2]
  refine Gn 6 [(37, .bool (decide (x16 = 4))), (36, .bool (decide (x16 = 4)))] Jqu ?_
  refine ite_some h (fun h15 h => ?_) (fun h15 h => ?_)
  ·
   rw [decide_eq_true h15]
   refine Gn 4 [(38, (pt gx1 6))] Jqv ?_
   refine Goes.ld 3 (.tmp 38) 39 3 ⟨gx1, 6, none⟩ (.i x1v.Min) (p1.c 0 6) ?_
   refine Gn 2 [(40, .bool (decide (x1v.Min ≥ 0))), (41, .bool (decide (x1v.Min ≥ 0)))] Jqw ?_
   refine ite_some h (fun h16 h => ?_) (fun h16 h => ?_)
   ·
    rw [decide_eq_true h16]
    refine Gn 1 [(42, (pt gx1 6))] Jqx ?_
    refine Goes.ld 3 (.tmp 42) 43 3 ⟨gx1, 6, none⟩ (.i x1v.Min) (p1.c 0 6) ?_
    refine Gn 4 [(44, .bool (decide (x1v.Min ≤ 64))), (45, .bool (decide (x1v.Min ≤ 64))), (5, .bool (decide (x1v.Min ≤ 64)))] Jqj ?_
    exact Gj 77 [(1, (pt gx1 0)), (3, (pt gx3 0)), (5, .bool (decide (x1v.Min ≤ 64)))] (W.z3m _ _ h _ _ hx gx1 ume x1v.L.length umg gx3 p1 umh umi rfl umk)
   ·
    rw [decide_eq_false h16]
    refine Gn 6 [(42, undef), (43, undef), (44, undef), (45, .bool false), (5, .bool false)] Jqj ?_
    exact Gj 77 [(1, (pt gx1 0)), (3, (pt gx3 0)), (5, .bool false)] (W.z3m _ _ h _ _ hx gx1 ume x1v.L.length umg gx3 p1 umh umi rfl umk)
  ·
   rw [decide_eq_false h15]
   refine Gn 7 [(2, .bool false)] Jqy ?_
   obtain rfl := Option.some.inj h
   have p1 := (p1.dp 0).dp 0
   exact Goes.rt Tryz.f101 (.bool false) ⟨S1, rfl, hx, p1⟩

def Jqz := Zs [1, 1, 1] B101 []
def Jr0 := Zs [1, 1, 1, 0, 1] B101 Jqa
def Jr1 := Zt [1, 1, 1, 0, 0] B101 [1] Jr0
def Jr2 := Zs [1, 1, 1, 0, 1, 0, 1] B101 Jqb
def Jr3 := Zs [1, 1, 1, 0, 1, 0, 1, 0, 1] B101 Jqb
def Qkc := sub [1, 1, 1, 0, 1, 0, 1, 0, 0] B101
def Jr4 := Zr Qkc [1, 2, 3, 4, 5, 6, 7] Jr3
def Jr5 := Zr Qkc [5, 6, 7] Jr3
def Jr6 := Zs [1, 1, 1, 0, 1, 0, 1, 1, 0, 1] B101 Jqq

def L.z3o : T57 × (List Int) × Bool → Bool → Prop := fun ⟨x1v, umd, x4⟩ r => ∀ S1 w1, Ext S0 w0 S1 w1 → ∀ gx1 ume umf umg gx3 (_ : Hp nz wz S1 w1 ((some gx1, .row 58 (.i x1v.Kind :: U4 x1v.Set [.slice ume umf umg, .i x1v.Min, .i x1v.Max]) 8 0) :: (some gx3, .row 44 (U4 umd []) 4 0) :: Lr)) (_ : x1v.Set.length = 4) (_ : Rd kT57 S1 w1 ume umg x1v.L) (_ : x1v.L.length = umf) (_ : umd.length = 4) (junk : Nat → Value),
 Goes Tryz.prog (base 101) Jqz ⟨lfr 77 [(1, (pt gx1 0)), (3, (pt gx3 0)), (4, .bool x4)] junk, []⟩ w1 (Done Tryz.prog 101 (Rets (Post.z3k nz wz S0 w0 Lr r)))

theorem W.z3o {nz wz S0 w0 Lr} : ∀ a r, M.syntax_shaped_l0 a = some r → L.z3o nz wz S0 w0 Lr a r := by
 intro ⟨x1v, umd, x4⟩ r h S1 w1 hx gx1 ume umf umg gx3 p1 umh umi umj umk junk
 rw [M.syntax_shaped_l0] at h
 try dsimp only at h
 subst umj
 refine Gn 4 [(15, (pt gx1 0))] Jr1 ?_
 refine Goes.ld 3 (.tmp 15) 16 3 ⟨gx1, 0, none⟩ (.i x1v.Kind) (p1.c 0 0) ?_
 refine Gn 7 [(18, .bool (decide (x1v.Kind = 1))), (17, .bool (decide (x1v.Kind = 1)))] Jr2 ?_
 refine ite_some h (fun h8 h => ?_) (fun h8 h => ?_)
 ·
  rw [decide_eq_true h8]
  refine Gn 4 [(19, (pt gx1 5))] Jr4 ?_
  refine Goes.ld 56 (.tmp 19) 20 56 ⟨gx1, 5, none⟩ (.slice ume x1v.L.length umg) (p1.c 0 5) ?_
  refine Gn 3 [(21, .i (x1v.L.length : Int)), (22, .bool (decide ((x1v.L.length : Int) = 0))), (23, .bool (decide ((x1v.L.length : Int) = 0)))] Jr5 ?_
  refine ite_some h (fun h9 h => ?_) (fun h9 h => ?_)
  ·
   rw [decide_eq_true h9]
   refine Gn 4 [(24, .bool x4), (25, .bool x4), (2, .bool x4)] Jr3 ?_
   obtain rfl := Option.some.inj h
   have p1 := (p1.dp 0).dp 0
   exact Goes.rt Tryz.f101 (.bool x4) ⟨S1, rfl, hx, p1⟩
  ·
   rw [decide_eq_false h9]
   refine Gn 4 [(24, undef), (25, .bool false), (2, .bool false)] Jr3 ?_
   obtain rfl := Option.some.inj h
   have p1 := (p1.dp 0).dp 0
   exact Goes.rt Tryz.f101 (.bool false) ⟨S1, rfl, hx, p1⟩
 ·
  rw [decide_eq_false h8]
  refine Gn 7 [(27, .bool (decide (x1v.Kind = 2))), (26, .bool (decide (x1v.Kind = 2)))] Jr6 ?_
  refine ite_some h (fun h10 h => ?_) (fun h10 h => ?_)
  ·
   rw [decide_eq_true h10]
   refine Gn 2 [] Jqq ?_
   exact Gj 77 [(1, (pt gx1 0)), (3, (pt gx3 0)), (4, .bool x4), (16, .i x1v.Kind), (26, .bool true)] (W.z3n _ _ h _ _ hx gx1 ume x1v.L.length umg gx3 p1 umh umi rfl umk)
  ·
   rw [decide_eq_false h10]
   refine Gn 5 [(28, .bool (decide (x1v.Kind = 3))), (26, .bool (decide (x1v.Kind = 3)))] Jqq ?_
   exact Gj 77 [(1, (pt gx1 0)), (3, (pt gx3 0)), (4, .bool x4), (16, .i x1v.Kind), (26, .bool (decide (x1v.Kind = 3)))] (W.z3n _ _ h _ _ hx gx1 ume x1v.L.length umg gx3 p1 umh umi rfl umk)

def Jr7 := Zs [1] B101 []
def Jr8 := Zt [0] B101 [0, 1] Jr7
def Jr9 := Zs [1, 1] B101 []
def Jra := Zt [1, 0] B101 [0] Jr9
def Qki := sub [1, 1, 0] B101
def Jrb := Zr Qki [1, 2, 3, 4, 5, 6, 7, 8] Jqz
def Jrc := Zr Qki [4, 5, 6, 7, 8] Jqz
def Jrd := Zr Qki [5, 6, 7, 8] Jqz

theorem W.z3k (x0 : T57) (r : Bool) (h : M.syntax_shaped x0 = some r) {nz wz S0 w0 Lr} (uls ult ulu) (p0 : Hp nz wz S0 w0 (Lr)) (u1 : x0.Set.length = 4) (um4 : Rd kT57 S0 w0 uls ulu x0.L) (um5 : x0.L.length = ult) :
  Calls Tryz.prog 101 #[(ag (.i x0.Kind :: U4 x0.Set [.slice uls ult ulu, .i x0.Min, .i x0.Max]))] w0 (Rets (Post.z3k nz wz S0 w0 Lr r)) := by
 subst um5
 refine Zf Tryz.f101 B101 76 ?_
 refine Gj 77 [(0, (ag (.i x0.Kind :: U4 x0.Set [.slice uls x0.L.length ulu, .i x0.Min, .i x0.Max])))] fun junk => ?_
 delta M.syntax_shaped at h
 refine Gn 2 [] Jr8 ?_
 refine Op_.box 58 (.tmp 0) 1 0 (ag (.i x0.Kind :: U4 x0.Set [.slice uls x0.L.length ulu, .i x0.Min, .i x0.Max])) (.i x0.Kind :: U4 x0.Set [.slice uls x0.L.length ulu, .i x0.Min, .i x0.Max]) p0 Goes.v (by kernel_rfl) (by kernel_rfl) ?_
 intro b1 w2 z2 p2
 refine Gn 4 [(2, .bool false)] Jra ?_
 refine Op_.alloc 44 3 0 (.agg #[.u 0, .u 0, .u 0, .u 0]) [.u 0, .u 0, .u 0, .u 0] p2 Goes.v (by kernel_rfl) (by kernel_rfl) ?_
 intro b3 w3 z3 p3
 refine Gn 4 [(7, (pt b1 6))] Jrb ?_
 refine Goes.ld 3 (.tmp 7) 8 3 ⟨b1, 6, none⟩ (.i x0.Min) (p3.c 1 6) ?_
 refine Gn 2 [(9, .bool (decide (x0.Min = 0))), (10, .bool (decide (x0.Min = 0)))] Jrc ?_
 refine ite_some h (fun h5 h => ?_) (fun h5 h => ?_)
 ·
  rw [decide_eq_true h5]
  refine Gn 1 [(11, (pt b1 7))] Jrd ?_
  refine Goes.ld 3 (.tmp 11) 12 3 ⟨b1, 7, none⟩ (.i x0.Max) (p3.c 1 7) ?_
  refine Gn 4 [(13, .bool (decide (x0.Max = 0))), (14, .bool (decide (x0.Max = 0))), (4, .bool (decide (x0.Max = 0)))] Jqz ?_
  have p3 := (p3.fr 0).fr 1
  exact Gj 77 [(1, (pt b1 0)), (3, (pt b3 0)), (4, .bool (decide (x0.Max = 0)))] (W.z3o _ _ h _ _ (((Ext.refl S0 w0).trans z2).trans z3) b1 uls x0.L.length ulu b3 p3 u1 (um4.ext (z2.trans z3)) rfl rfl)
 ·
  rw [decide_eq_false h5]
  refine Gn 6 [(11, undef), (12, undef), (13, undef), (14, .bool false), (4, .bool false)] Jqz ?_
  have p3 := (p3.fr 0).fr 1
  exact Gj 77 [(1, (pt b1 0)), (3, (pt b3 0)), (4, .bool false)] (W.z3o _ _ h _ _ (((Ext.refl S0 w0).trans z2).trans z3) b1 uls x0.L.length ulu b3 p3 u1 (um4.ext (z2.trans z3)) rfl rfl)

def Jre := Zs [1, 1] B89 []
def Jrf := Zb 0 Jre
def Qkk := sub [1, 0, 1, 0, 0] B89
def Jrg := Zl Qkk Jrf
def Jrh := Zc Qkk Jrg
def Jri := Zs [1] B89 []
def Jrj := Zt [0] B89 [0, 1] Jri
def Jrk := Zs [1, 0, 1] B89 Jre
def Jrl := Zt [1, 0, 0] B89 [1, 2, 3] Jrk
def Jrm := Zs [1, 0, 1, 0, 0, 1, 1] B89 Jrg
def Jrn := Zs [1, 0, 1, 0, 0, 1, 0] B89 Jrm
def Jro := Zs [1, 0, 1, 0, 0, 1, 1, 1] B89 Jrg
def Jrp := Zb 1 Jro
def Jrq := Zs [1, 0, 1, 0, 0, 1, 1, 0, 0, 1] B89 Jrp
def Jrr := Zt [1, 0, 1, 0, 0, 1, 1, 0, 0, 0] B89 [0, 1, 2, 3] Jrq
def Jrs := Zs [1, 0, 1, 0, 0, 1, 1, 0, 0, 1, 1] B89 Jrp
def Jrt := Zt [1, 0, 1, 0, 0, 1, 1, 0, 0, 1, 0] B89 [0, 1, 2] Jrs
def Jru := Zs [1, 0, 1, 0, 0, 1, 1, 0, 0, 1, 1, 0, 1] B89 Jrp
def Jrv := Zs [1, 1, 1] B89 []
def Jrw := Zt [1, 1, 0] B89 [0, 1, 2] Jrv

def Post.z3p (r : Bool) (v : Value) (w' : World) : Prop :=
 ∃ S', v = .bool r ∧ Ext S0 w0 S' w' ∧ Hp nz wz S' w' (Lr)

def LF.z3p : T57 → Bool → Prop := fun x0 r => ∀ {nz wz S0 w0 Lr} uls ult ulu (_ : Hp nz wz S0 w0 (Lr)) (_ : x0.Set.length = 4) (_ : Rd kT57 S0 w0 uls ulu x0.L) (_ : x0.L.length = ult),
 Calls Tryz.prog 89 #[(ag (.i x0.Kind :: U4 x0.Set [.slice uls ult ulu, .i x0.Min, .i x0.Max]))] w0 (Rets (Post.z3p nz wz S0 w0 Lr r))

def L.z3q : T57 × (List T57) × Int × Int → Bool → Prop := fun ⟨x1v, x6, x7, x8⟩ r => ∀ S1 w1, Ext S0 w0 S1 w1 → ∀ gx1 ume umf umg Ax6 nx6 cx6 (_ : Hp nz wz S1 w1 ((some gx1, .row 58 (.i x1v.Kind :: U4 x1v.Set [.slice ume umf umg, .i x1v.Min, .i x1v.Max]) 8 0) :: Lr)) (_ : x1v.Set.length = 4) (_ : Rd kT57 S1 w1 ume umg x1v.L) (_ : x1v.L.length = umf) (_ : Rd kT57 S1 w1 Ax6 cx6 x6) (_ : x6.length = nx6) (junk : Nat → Value),
 Goes Tryz.prog (base 89) Jrh ⟨lfr 18 [(1, (pt gx1 0)), (6, .slice Ax6 nx6 cx6), (7, .i x7), (8, .i x8)] junk, []⟩ w1 (Done Tryz.prog 89 (Rets (Post.z3p nz wz S0 w0 Lr r)))

def LL.z3q : T57 × (List T57) × Int × Int → Bool → Prop := fun a r => ∀ {nz wz S0 w0 Lr}, L.z3q nz wz S0 w0 Lr a r

theorem W.z3r : (∀ a r, M.syntax_right a = some r → LF.z3p a r) ∧ (∀ a r, M.syntax_right_l0 a = some r → LL.z3q a r) := by
 refine M.syntax_right.mutual_partial_correctness LF.z3p LL.z3q ?_ ?_
 ·
  intro uml umm x0 r h nz wz S0 w0 Lr uls ult ulu p0 u1 um4 um5
  try dsimp only at h
  subst um5
  refine Zf Tryz.f89 B89 17 ?_
  refine Gj 18 [(0, (ag (.i x0.Kind :: U4 x0.Set [.slice uls x0.L.length ulu, .i x0.Min, .i x0.Max])))] fun junk => ?_
  refine Gn 2 [] Jrj ?_
  refine Op_.box 58 (.tmp 0) 1 0 (ag (.i x0.Kind :: U4 x0.Set [.slice uls x0.L.length ulu, .i x0.Min, .i x0.Max])) (.i x0.Kind :: U4 x0.Set [.slice uls x0.L.length ulu, .i x0.Min, .i x0.Max]) p0 Goes.v (by kernel_rfl) (by kernel_rfl) ?_
  intro b1 w2 z2 p2
  refine Gn 6 [(2, .bool false), (5, (pt b1 5))] Jrl ?_
  refine Goes.ld 56 (.tmp 5) 6 56 ⟨b1, 5, none⟩ (.slice uls x0.L.length ulu) (p2.c 0 5) ?_
  refine Gn 5 [(7, .i (x0.L.length : Int)), (8, .i 0)] Jrh ?_
  exact Gj 18 [(1, (pt b1 0)), (6, .slice uls x0.L.length ulu), (7, .i (x0.L.length : Int)), (8, .i 0)] (umm _ _ h _ _ ((Ext.refl S0 w0).trans z2) b1 uls x0.L.length ulu uls x0.L.length ulu p2 u1 (um4.ext z2) rfl (um4.ext z2) rfl)
 ·
  intro rec_syntax_right uml ih_syntax_right umm ⟨x1v, x6, x7, x8⟩ r h nz wz S0 w0 Lr S1 w1 hx gx1 ume umf umg Ax6 nx6 cx6 p1 umh umi umj fx6 lx6 junk
  try dsimp only at h
  subst umj
  subst lx6
  refine Gn 5 [(9, .bool (decide (x8 < x7)))] Jrn ?_
  refine ite_some h (fun h4 h => ?_) (fun h4 h => ?_)
  ·
   rw [decide_eq_true h4]
   refine Gn 6 [] Jrr ?_
   refine guard_some' h fun g5 h => ?_
   refine guard_some' h fun g6 h => ?_
   refine Op_.ixR_n 56 (.tmp 6) (.tmp 8) 10 0 58 .i64 x8 (gi x6 x8) rfl rfl fx6 Goes.v (by kernel_rfl) (by kernel_rfl) (by kernel_rfl) (by kernel_rfl) g5 g6 ?_
   intro a7 _ f8 q9
   have q10 := q9
   obtain ⟨_, _, rfl, rfl, ⟨_, _, rfl, ⟨l11, f12⟩, ⟨_, _, rfl, ⟨A13, c14, rfl, f15⟩, ⟨_, _, rfl, rfl, rfl⟩⟩⟩⟩ := kT57_open q10
   obtain rfl := els_lit4' f12 l11
   refine Goes.ldN 58 (.tmp 10) 11 58 a7 ([.i ((gi x6 x8).Kind)] ++ ((U4 ((gi x6 x8).Set) []) ++ ([.slice A13 (((gi x6 x8).L).length) c14] ++ ([.i ((gi x6 x8).Min)] ++ [.i ((gi x6 x8).Max)])))) (f8.cell) ?_
   refine Op_.alloc 58 4 0 (.agg #[.i 0, .u 0, .u 0, .u 0, .u 0, .slice none 0 0, .i 0, .i 0]) [.i 0, .u 0, .u 0, .u 0, .u 0, .slice none 0 0, .i 0, .i 0] p1 Goes.v (by kernel_rfl) (by kernel_rfl) ?_
   intro b16 w3 z3 p3
   refine So 58 (.tmp 4) (.tmp 11) 0 0 b16 0 (ag (.i ((gi x6 x8).Kind) :: U4 ((gi x6 x8).Set) [.slice A13 (((gi x6 x8).L).length) c14, .i ((gi x6 x8).Min), .i ((gi x6 x8).Max)])) (.i ((gi x6 x8).Kind) :: U4 ((gi x6 x8).Set) [.slice A13 (((gi x6 x8).L).length) c14, .i ((gi x6 x8).Min), .i ((gi x6 x8).Max)]) p3 rfl Goes.s ?_
   intro w4 z4 p4
   have p4 : Hp nz wz S1 w4 ((some b16, .row 58 (.i ((gi x6 x8).Kind) :: U4 ((gi x6 x8).Set) [.slice A13 (((gi x6 x8).L).length) c14, .i ((gi x6 x8).Min), .i ((gi x6 x8).Max)]) 8 0) :: (some gx1, .row 58 (.i x1v.Kind :: U4 x1v.Set [.slice ume x1v.L.length umg, .i x1v.Min, .i x1v.Max]) 8 0) :: Lr) := p4
   refine Gn 3 [] Jrt ?_
   refine Goes.ldN 58 (.tmp 4) 12 58 ⟨b16, 0, none⟩ (.i ((gi x6 x8).Kind) :: U4 ((gi x6 x8).Set) [.slice A13 (((gi x6 x8).L).length) c14, .i ((gi x6 x8).Min), .i ((gi x6 x8).Max)]) (p4.pa 0 0) ?_
   refine bind_some' h fun y18 e19 h => ?_
   refine Gc (kc 89 [12] #[58]) 13 4 89 _ (ih_syntax_right (⟨(gi x6 x8).Kind, ((gi x6 x8).Set), (gi x6 x8).L, (gi x6 x8).Min, (gi x6 x8).Max⟩ : T57) y18 e19 A13 (((gi x6 x8).L).length) c14 p4 l11 (f15.ext (z3.trans z4)) rfl) ?_
   rintro _ w5 ⟨S5, rfl, z5, p5⟩
   have p5 := p5.dp 0
   refine Gn 2 [(14, .bool (!y18))] Jrs ?_
   refine ite_some h (fun h20 h => ?_) (fun h20 h => ?_)
   ·
    rw [h20]
    refine Gn 8 [(15, .i (wr .i64 (x8 + 1))), (8, .i (wr .i64 (x8 + 1)))] Jrh ?_
    exact Gj 18 [(1, (pt gx1 0)), (6, .slice Ax6 x6.length cx6), (7, .i x7), (8, .i (wr .i64 (x8 + 1)))] (umm _ _ h _ _ (((hx.trans z3).trans z4).trans z5) gx1 ume x1v.L.length umg Ax6 x6.length cx6 p5 umh (umi.ext ((z3.trans z4).trans z5)) rfl (fx6.ext ((z3.trans z4).trans z5)) rfl)
   ·
    have u3 : y18 = false := by simpa using h20
    rw [u3]
    refine Gn 5 [(2, .bool false)] Jru ?_
    obtain rfl := Option.some.inj h
    have p5 := p5.dp 0
    exact Goes.rt Tryz.f89 (.bool false) ⟨S5, rfl, (((hx.trans z3).trans z4).trans z5), p5⟩
  ·
   rw [decide_eq_false h4]
   refine Gn 4 [] Jrw ?_
   refine Goes.ldN 58 (.tmp 1) 16 58 ⟨gx1, 0, none⟩ (.i x1v.Kind :: U4 x1v.Set [.slice ume x1v.L.length umg, .i x1v.Min, .i x1v.Max]) (p1.pa 0 0) ?_
   refine bind_some' h fun y21 e22 h => ?_
   refine Gc (kc 101 [16] #[58]) 17 4 101 _ (W.z3k x1v y21 e22 ume x1v.L.length umg p1 umh umi rfl) ?_
   rintro _ w6 ⟨S6, rfl, z6, p6⟩
   have p6 := p6.dp 0
   refine Gn 2 [(2, .bool y21)] Jrv ?_
   obtain rfl := Option.some.inj h
   exact Goes.rt Tryz.f89 (.bool y21) ⟨S6, rfl, (hx.trans z6), p6⟩

theorem W.z3p : ∀ a r, M.syntax_right a = some r → LF.z3p a r := (W.z3r).1

theorem W.z3q : ∀ a r, M.syntax_right_l0 a = some r → LL.z3q a r := (W.z3r).2

def Jrx := Zs [1] B76 []
def Jry := Zt [0] B76 [0, 1] Jrx
def Jrz := Zs [1, 1] B76 []
def Js0 := Zt [1, 0] B76 [0, 1] Jrz
def Js1 := Zs [1, 1, 1] B76 []
def Js2 := Zs [1, 1, 0, 1] B76 Js1
def Ql5 := sub [1, 1, 0, 0] B76
def Js3 := Zr Ql5 [0, 1, 2, 3, 4, 5, 6, 7] Js2
def Js4 := Zr Ql5 [4, 5, 6, 7] Js2
def Js5 := Zs [1, 1, 1, 1] B76 []
def Js6 := Zt [1, 1, 1, 0] B76 [0, 1] Js5
def Js7 := Zs [1, 1, 0, 1, 0, 1] B76 Js1

def Post.z3s (r : Int) (v : Value) (w' : World) : Prop :=
 ∃ S', v = .i r ∧ Ext S0 w0 S' w' ∧ Hp nz wz S' w' (Lr)

theorem W.z3s (x0 : T57) (r : Int) (h : M.syntax_Size x0 = some r) {nz wz S0 w0 Lr} (uls ult ulu) (p0 : Hp nz wz S0 w0 (Lr)) (u1 : x0.Set.length = 4) (um4 : Rd kT57 S0 w0 uls ulu x0.L) (um5 : x0.L.length = ult) :
  Calls Tryz.prog 76 #[(ag (.i x0.Kind :: U4 x0.Set [.slice uls ult ulu, .i x0.Min, .i x0.Max]))] w0 (Rets (Post.z3s nz wz S0 w0 Lr r)) := by
 subst um5
 refine Zf Tryz.f76 B76 12 ?_
 refine Gj 13 [(0, (ag (.i x0.Kind :: U4 x0.Set [.slice uls x0.L.length ulu, .i x0.Min, .i x0.Max])))] fun junk => ?_
 delta M.syntax_Size at h
 refine Gn 2 [] Jry ?_
 refine Op_.box 58 (.tmp 0) 1 0 (ag (.i x0.Kind :: U4 x0.Set [.slice uls x0.L.length ulu, .i x0.Min, .i x0.Max])) (.i x0.Kind :: U4 x0.Set [.slice uls x0.L.length ulu, .i x0.Min, .i x0.Max]) p0 Goes.v (by kernel_rfl) (by kernel_rfl) ?_
 intro b1 w2 z2 p2
 refine Gn 4 [(2, .i 0)] Js0 ?_
 refine Op_.alloc 3 3 0 (.i 0) [.i 0] p2 Goes.v (by kernel_rfl) (by kernel_rfl) ?_
 intro b3 w3 z3 p3
 refine So 3 (.tmp 3) (.const (.int .i64 0)) 0 0 b3 0 (.i 0) [.i 0] p3 rfl Goes.s ?_
 intro w4 z4 p4
 have p4 : Hp nz wz S0 w4 ((some b3, .row 3 [.i 0] 1 0) :: (some b1, .row 58 (.i x0.Kind :: U4 x0.Set [.slice uls x0.L.length ulu, .i x0.Min, .i x0.Max]) 8 0) :: Lr) := p4
 refine Gn 4 [] Js3 ?_
 refine Goes.ldN 58 (.tmp 1) 4 58 ⟨b1, 0, none⟩ (.i x0.Kind :: U4 x0.Set [.slice uls x0.L.length ulu, .i x0.Min, .i x0.Max]) (p4.pa 1 0) ?_
 refine bind_some' h fun y5 e6 h => ?_
 refine Gc (.call { callee := .value (.func 88), args := #[(.tmp 4), (.const (.int .i64 128)), (.tmp 3)], argTypes := #[58, 3, 132] }) 5 4 88 _ (W.z3g (x0, 128, 0) y5 e6 uls x0.L.length ulu b3 p4 u1 (um4.ext ((z2.trans z3).trans z4)) rfl) ?_
 rintro _ w5 ⟨S5, rfl, z5, p5⟩
 refine Gn 2 [(6, .bool (!y5.1)), (7, .bool (!y5.1))] Js4 ?_
 refine ite_some h (fun h7 h => ?_) (fun h7 h => ?_)
 ·
  rw [h7]
  refine Goes.ldN 58 (.tmp 1) 8 58 ⟨b1, 0, none⟩ (.i x0.Kind :: U4 x0.Set [.slice uls x0.L.length ulu, .i x0.Min, .i x0.Max]) (p5.pa 1 0) ?_
  refine bind_some' h fun y8 e9 h => ?_
  refine Gc (kc 89 [8] #[58]) 9 4 89 _ (W.z3p x0 y8 e9 uls x0.L.length ulu p5 u1 (um4.ext (((z2.trans z3).trans z4).trans z5)) rfl) ?_
  rintro _ w6 ⟨S6, rfl, z6, p6⟩
  have p6 := p6.dp 1
  refine Gn 3 [(10, .bool (!y8)), (11, .bool (!y8))] Js2 ?_
  refine ite_some h (fun h10 h => ?_) (fun h10 h => ?_)
  ·
   rw [h10]
   refine Gn 4 [] Js6 ?_
   refine Goes.ld 3 (.tmp 3) 12 3 ⟨b3, 0, none⟩ (.i y5.2) (p6.c 0 0) ?_
   refine Gn 2 [(2, .i y5.2)] Js5 ?_
   obtain rfl := Option.some.inj h
   have p6 := p6.dp 0
   exact Goes.rt Tryz.f76 (.i y5.2) ⟨S6, rfl, ((((((Ext.refl S0 w0).trans z2).trans z3).trans z4).trans z5).trans z6), p6⟩
  ·
   have uk6 : y8 = false := by simpa using h10
   rw [uk6]
   refine Gn 5 [(2, .i 0)] Js7 ?_
   obtain rfl := Option.some.inj h
   have p6 := p6.dp 0
   exact Goes.rt Tryz.f76 (.i 0) ⟨S6, rfl, ((((((Ext.refl S0 w0).trans z2).trans z3).trans z4).trans z5).trans z6), p6⟩
 ·
  have h7' : y5.1 = false := by simpa using h7
  rw [h7']
  refine Gn 10 [(8, undef), (9, undef), (10, undef), (11, .bool true), (2, .i 0)] Js7 ?_
  obtain rfl := Option.some.inj h
  have p5 := (p5.dp 0).dp 0
  exact Goes.rt Tryz.f76 (.i 0) ⟨S5, rfl, (((((Ext.refl S0 w0).trans z2).trans z3).trans z4).trans z5), p5⟩

def Js8 := Zs [1] B54 []
def Js9 := Zt [0] B54 [0, 1] Js8
def Jsa := Zs [1, 1] B54 []
def Jsb := Zt [1, 0] B54 [0, 1, 2, 3] Jsa

def Post.z3t (r : Bool) (v : Value) (w' : World) : Prop :=
 ∃ S', v = .bool r ∧ Ext S0 w0 S' w' ∧ Hp nz wz S' w' (Lr)

theorem W.z3t (x0 : T57) (r : Bool) (h : M.syntax_Check x0 = some r) {nz wz S0 w0 Lr} (uls ult ulu) (p0 : Hp nz wz S0 w0 (Lr)) (u1 : x0.Set.length = 4) (um4 : Rd kT57 S0 w0 uls ulu x0.L) (um5 : x0.L.length = ult) :
  Calls Tryz.prog 54 #[(ag (.i x0.Kind :: U4 x0.Set [.slice uls ult ulu, .i x0.Min, .i x0.Max]))] w0 (Rets (Post.z3t nz wz S0 w0 Lr r)) := by
 subst um5
 refine Zf Tryz.f54 B54 5 ?_
 refine Gj 6 [(0, (ag (.i x0.Kind :: U4 x0.Set [.slice uls x0.L.length ulu, .i x0.Min, .i x0.Max])))] fun junk => ?_
 delta M.syntax_Check at h
 refine Gn 2 [] Js9 ?_
 refine Op_.box 58 (.tmp 0) 1 0 (ag (.i x0.Kind :: U4 x0.Set [.slice uls x0.L.length ulu, .i x0.Min, .i x0.Max])) (.i x0.Kind :: U4 x0.Set [.slice uls x0.L.length ulu, .i x0.Min, .i x0.Max]) p0 Goes.v (by kernel_rfl) (by kernel_rfl) ?_
 intro b1 w2 z2 p2
 refine Gn 4 [(2, .bool false)] Jsb ?_
 refine Goes.ldN 58 (.tmp 1) 3 58 ⟨b1, 0, none⟩ (.i x0.Kind :: U4 x0.Set [.slice uls x0.L.length ulu, .i x0.Min, .i x0.Max]) (p2.pa 0 0) ?_
 refine bind_some' h fun y3 e4 h => ?_
 refine Gc (kc 76 [3] #[58]) 4 3 76 _ (W.z3s x0 y3 e4 uls x0.L.length ulu p2 u1 (um4.ext z2) rfl) ?_
 rintro _ w3 ⟨S3, rfl, z3, p3⟩
 have p3 := p3.dp 0
 refine Gn 3 [(5, .bool (decide (y3 > 0))), (2, .bool (decide (y3 > 0)))] Jsa ?_
 obtain rfl := Option.some.inj h
 exact Goes.rt Tryz.f54 (.bool (decide (y3 > 0))) ⟨S3, rfl, (((Ext.refl S0 w0).trans z2).trans z3), p3⟩

def Jsc := Zs [1, 1, 1] B55 []
def Jsd := Zb 0 Jsc
def Jse := Zs [1, 1, 0, 1, 0, 1] B55 Jsd
def Jsf := Zb 3 Jse
def Jsg := Zs [1, 1, 0, 1, 0, 0, 0, 1, 1] B55 Jsf
def Jsh := Zb 4 Jsg
def Qlg := sub [1, 1, 0, 1, 0, 0, 0, 1, 0, 1, 0, 0] B55
def Jsi := Zl Qlg Jsh
def Jsj := Zc Qlg Jsi
def Jsk := Zs [1] B55 []
def Jsl := Zt [0] B55 [0, 1] Jsk
def Jsm := Zs [1, 1, 0, 1] B55 Jsc
def Jsn := Zt [1, 1, 0, 0] B55 [1] Jsm
def Jso := Zs [1, 1, 0, 1, 0, 0, 0, 1] B55 Jsf
def Jsp := Zb 2 Jso
def Qlm := sub [1, 1, 0, 1, 0, 0, 0, 0, 0, 1] B55
def Jsq := Zc Qlm Jsp
def Jsr := Zb 1 Jsq
def Jss := Zs [1, 1, 0, 1, 0, 0, 0, 0, 0, 0, 0, 1] B55 Jsr
def Jst := Zs [1, 1, 0, 1, 0, 0, 0, 0, 0, 0, 0, 0, 1] B55 Jss
def Jsu := Zs [1, 1, 0, 1, 0, 0, 0, 0, 0, 0, 0, 0, 0, 1] B55 Jst
def Jsv := Zt [1, 1, 0, 1, 0, 0, 0, 0, 0, 0, 0, 0, 0, 0] B55 [] Jsu
def Jsw := Zr Qlm [1, 2, 3, 4, 5] Jsp
def Jsx := Zs [1, 1, 0, 1, 0, 0, 0, 1, 0, 1] B55 Jsg
def Jsy := Zt [1, 1, 0, 1, 0, 0, 0, 1, 0, 0] B55 [1, 2, 3] Jsx
def Jsz := Zs [1, 1, 0, 1, 0, 0, 0, 0, 0, 0, 0, 0, 1, 1] B55 Jss
def Jt0 := Zs [1, 1, 0, 1, 0, 0, 0, 0, 0, 0, 0, 0, 1, 0, 1] B55 Jsz
def Jt1 := Zs [1, 1, 0, 1, 0, 0, 0, 0, 0, 0, 0, 0, 1, 1, 1] B55 Jss
def Jt2 := Zs [1, 1, 0, 1, 0, 1, 1] B55 Jsd
def Jt3 := Zs [1, 1, 0, 1, 0, 1, 0, 1] B55 Jt2
def Jt4 := Zt [1, 1, 0, 1, 0, 1, 0, 0] B55 [1, 2, 3, 4, 5] Jt3
def Jt5 := Zs [1, 1, 0, 1, 0, 1, 0, 1, 1] B55 Jt2
def Jt6 := Zt [1, 1, 0, 1, 0, 1, 0, 1, 0] B55 [1, 2, 3, 4] Jt5
def Jt7 := Zs [1, 1, 0, 1, 0, 1, 0, 1, 1, 1] B55 Jt2
def Jt8 := Zt [1, 1, 0, 1, 0, 1, 0, 1, 1, 0] B55 [1, 2] Jt7
def Jt9 := Zs [1, 1, 1, 1] B55 []
def Qm4 := sub [1, 1, 1, 0] B55
def Jta := Zr Qm4 [3] Jt9
def Qm5 := sub [1, 1, 0, 1, 0, 1, 0, 1, 1, 1, 1] B55
def Jtb := Zr Qm5 [2, 3, 4, 5, 6, 7, 8, 9, 10] Jt2
def Jtc := Zr Qm5 [4, 5, 6, 7, 8, 9, 10] Jt2
def Jtd := Zr Qm4 [] Jt9
def Jte := Zs [1, 1, 0, 1, 0, 0, 0, 1, 0, 1, 0, 0, 1, 1] B55 Jsi
def Jtf := Zs [1, 1, 0, 1, 0, 0, 0, 1, 0, 1, 0, 0, 1, 0] B55 Jte
def Jtg := Zs [1, 1, 0, 1, 0, 0, 0, 1, 0, 1, 0, 0, 1, 1, 1] B55 Jsi
def Jth := Zb 5 Jtg
def Qm9 := sub [1, 1, 0, 1, 0, 0, 0, 1, 0, 1, 0, 0, 1, 1, 0, 0, 1] B55
def Jti := Zc Qm9 Jth
def Jtj := Zt [1, 1, 0, 1, 0, 0, 0, 1, 0, 1, 0, 0, 1, 1, 0, 0, 0] B55 [0, 1, 2, 3] Jti
def Jtk := Zr Qm9 [1, 2, 3, 4, 5] Jth

def Post.z3u (r : Int) (v : Value) (w' : World) : Prop :=
 ∃ S', v = .i r ∧ Ext S0 w0 S' w' ∧ Hp nz wz S' w' (Lr)

def LF.z3u : T57 → Int → Prop := fun x0 r => ∀ {nz wz S0 w0 Lr} uls ult ulu (_ : Hp nz wz S0 w0 (Lr)) (_ : x0.Set.length = 4) (_ : Rd kT57 S0 w0 uls ulu x0.L) (_ : x0.L.length = ult),
 Calls Tryz.prog 55 #[(ag (.i x0.Kind :: U4 x0.Set [.slice uls ult ulu, .i x0.Min, .i x0.Max]))] w0 (Rets (Post.z3u nz wz S0 w0 Lr r))

def L.z3v : Int × (List T57) × Int × Int → Int → Prop := fun ⟨x3, x21, x22, x23⟩ r => ∀ S1 w1, Ext S0 w0 S1 w1 → ∀ umn umo ump (_ : Hp nz wz S1 w1 (Lr)) (_ : Rd kT57 S1 w1 umn ump x21) (_ : x21.length = umo) (junk : Nat → Value),
 Goes Tryz.prog (base 55) Jsj ⟨lfr 62 [(3, .i x3), (21, .slice umn umo ump), (22, .i x22), (23, .i x23)] junk, []⟩ w1 (Done Tryz.prog 55 (Rets (Post.z3u nz wz S0 w0 Lr r)))

def LL.z3v : Int × (List T57) × Int × Int → Int → Prop := fun a r => ∀ {nz wz S0 w0 Lr}, L.z3v nz wz S0 w0 Lr a r

theorem W.z3w : (∀ a r, M.prog_size a = some r → LF.z3u a r) ∧ (∀ a r, M.prog_size_l0 a = some r → LL.z3v a r) := by
 refine M.prog_size.mutual_partial_correctness LF.z3u LL.z3v ?_ ?_
 ·
  intro rec_prog_size umq ih_prog_size umr x0 r h nz wz S0 w0 Lr uls ult ulu p0 u1 um4 um5
  try dsimp only at h
  subst um5
  refine Zf Tryz.f55 B55 61 ?_
  refine Gj 62 [(0, (ag (.i x0.Kind :: U4 x0.Set [.slice uls x0.L.length ulu, .i x0.Min, .i x0.Max])))] fun junk => ?_
  refine Gn 2 [] Jsl ?_
  refine Op_.box 58 (.tmp 0) 1 0 (ag (.i x0.Kind :: U4 x0.Set [.slice uls x0.L.length ulu, .i x0.Min, .i x0.Max])) (.i x0.Kind :: U4 x0.Set [.slice uls x0.L.length ulu, .i x0.Min, .i x0.Max]) p0 Goes.v (by kernel_rfl) (by kernel_rfl) ?_
  intro b1 w2 z2 p2
  refine Gn 10 [(2, .i 0), (3, .i 0), (7, (pt b1 0))] Jsn ?_
  refine Goes.ld 3 (.tmp 7) 8 3 ⟨b1, 0, none⟩ (.i x0.Kind) (p2.c 0 0) ?_
  refine Gn 14 [(10, .bool (decide (x0.Kind = 3))), (9, .bool (decide (x0.Kind = 3)))] Jsv ?_
  refine Gn 1 [] Jsu ?_
  refine ite_some h (fun h3 h => ?_) (fun h3 h => ?_)
  ·
   rw [decide_eq_true h3]
   refine Gn 4 [(15, (pt b1 5))] Jsw ?_
   refine Goes.ld 56 (.tmp 15) 16 56 ⟨b1, 5, none⟩ (.slice uls x0.L.length ulu) (p2.c 0 5) ?_
   refine Gn 10 [(17, .i (x0.L.length : Int)), (18, .i (wr .i64 ((x0.L.length : Int) - 1))), (19, .i (imx 0 (wr .i64 ((x0.L.length : Int) - 1)))), (3, .i (imx 0 (wr .i64 ((x0.L.length : Int) - 1)))), (20, (pt b1 5))] Jsy ?_
   refine Goes.ld 56 (.tmp 20) 21 56 ⟨b1, 5, none⟩ (.slice uls x0.L.length ulu) (p2.c 0 5) ?_
   refine Gn 5 [(22, .i (x0.L.length : Int)), (23, .i 0)] Jsj ?_
   have p2 := p2.dp 0
   exact Gj 62 [(3, .i (imx 0 (wr .i64 ((x0.L.length : Int) - 1)))), (21, .slice uls x0.L.length ulu), (22, .i (x0.L.length : Int)), (23, .i 0)] (umr _ _ h _ _ ((Ext.refl S0 w0).trans z2) uls x0.L.length ulu p2 (um4.ext z2) rfl)
  ·
   rw [decide_eq_false h3]
   refine Gn 8 [(12, .bool (decide (x0.Kind = 2))), (11, .bool (decide (x0.Kind = 2)))] Jt0 ?_
   refine ite_some h (fun h4 h => ?_) (fun h4 h => ?_)
   ·
    rw [decide_eq_true h4]
    refine Gn 6 [(20, (pt b1 5))] Jsy ?_
    refine Goes.ld 56 (.tmp 20) 21 56 ⟨b1, 5, none⟩ (.slice uls x0.L.length ulu) (p2.c 0 5) ?_
    refine Gn 5 [(22, .i (x0.L.length : Int)), (23, .i 0)] Jsj ?_
    have p2 := p2.dp 0
    exact Gj 62 [(3, .i 0), (21, .slice uls x0.L.length ulu), (22, .i (x0.L.length : Int)), (23, .i 0)] (umr _ _ h _ _ ((Ext.refl S0 w0).trans z2) uls x0.L.length ulu p2 (um4.ext z2) rfl)
   ·
    rw [decide_eq_false h4]
    refine Gn 7 [(14, .bool (decide (x0.Kind = 4))), (13, .bool (decide (x0.Kind = 4)))] Jt1 ?_
    refine ite_some h (fun h5 h => ?_) (fun h5 h => ?_)
    ·
     rw [decide_eq_true h5]
     refine Gn 6 [(33, (pt b1 5))] Jt4 ?_
     refine Goes.ld 56 (.tmp 33) 34 56 ⟨b1, 5, none⟩ (.slice uls x0.L.length ulu) (p2.c 0 5) ?_
     refine guard_some' h fun g6 h => ?_
     refine Op_.ixR_n 56 (.tmp 34) (.const (.int .i64 0)) 35 0 58 .i64 0 (gi x0.L 0) rfl rfl (um4.ext z2) Goes.v (by kernel_rfl) (by kernel_rfl) (by kernel_rfl) (by kernel_rfl) (by decide : (0 : Int) ≤ 0) g6 ?_
     intro a7 _ f8 q9
     have q10 := q9
     obtain ⟨_, _, rfl, rfl, ⟨_, _, rfl, ⟨l11, f12⟩, ⟨_, _, rfl, ⟨A13, c14, rfl, f15⟩, ⟨_, _, rfl, rfl, rfl⟩⟩⟩⟩ := kT57_open q10
     obtain rfl := els_lit4' f12 l11
     refine Goes.ldN 58 (.tmp 35) 36 58 a7 ([.i ((gi x0.L 0).Kind)] ++ ((U4 ((gi x0.L 0).Set) []) ++ ([.slice A13 (((gi x0.L 0).L).length) c14] ++ ([.i ((gi x0.L 0).Min)] ++ [.i ((gi x0.L 0).Max)])))) (f8.cell) ?_
     refine bind_some' h fun y16 e17 h => ?_
     refine Gc (kc 55 [36] #[58]) 37 3 55 _ (ih_prog_size (⟨(gi x0.L 0).Kind, ((gi x0.L 0).Set), (gi x0.L 0).L, (gi x0.L 0).Min, (gi x0.L 0).Max⟩ : T57) y16 e17 A13 (((gi x0.L 0).L).length) c14 p2 l11 f15 rfl) ?_
     rintro _ w3 ⟨S3, rfl, z3, p3⟩
     refine Gn 5 [(6, .i y16), (38, (pt b1 6))] Jt6 ?_
     refine Goes.ld 3 (.tmp 38) 39 3 ⟨b1, 6, none⟩ (.i x0.Min) (p3.c 0 6) ?_
     refine Gn 7 [(40, .i y16), (41, .i (wr .i64 (x0.Min * y16))), (3, .i (wr .i64 (x0.Min * y16))), (42, (pt b1 7))] Jt8 ?_
     refine Goes.ld 3 (.tmp 42) 43 3 ⟨b1, 7, none⟩ (.i x0.Max) (p3.c 0 7) ?_
     refine Gn 2 [(44, .bool (decide (x0.Max < 0)))] Jt7 ?_
     refine ite_some h (fun h18 h => ?_) (fun h18 h => ?_)
     ·
      rw [decide_eq_true h18]
      refine Gn 14 [(45, .i (wr .i64 (x0.Min * y16))), (46, .i y16), (47, .i (wr .i64 (y16 + 1))), (48, .i (wr .i64 ((wr .i64 (x0.Min * y16)) + (wr .i64 (y16 + 1))))), (3, .i (wr .i64 ((wr .i64 (x0.Min * y16)) + (wr .i64 (y16 + 1))))), (59, .i (wr .i64 ((wr .i64 (x0.Min * y16)) + (wr .i64 (y16 + 1))))), (60, .i (imx 1 (wr .i64 ((wr .i64 (x0.Min * y16)) + (wr .i64 (y16 + 1)))))), (61, .i (imn 1048576 (imx 1 (wr .i64 ((wr .i64 (x0.Min * y16)) + (wr .i64 (y16 + 1)))))))] Jta ?_
      refine Gn 2 [(2, .i (imn 1048576 (imx 1 (wr .i64 ((wr .i64 (x0.Min * y16)) + (wr .i64 (y16 + 1)))))))] Jt9 ?_
      obtain rfl := Option.some.inj h
      have p3 := p3.dp 0
      exact Goes.rt Tryz.f55 (.i (imn 1048576 (imx 1 (wr .i64 ((wr .i64 (x0.Min * y16)) + (wr .i64 (y16 + 1))))))) ⟨S3, rfl, (((Ext.refl S0 w0).trans z2).trans z3), p3⟩
     ·
      rw [decide_eq_false h18]
      refine Gn 4 [(49, .i (wr .i64 (x0.Min * y16))), (50, (pt b1 7))] Jtb ?_
      refine Goes.ld 3 (.tmp 50) 51 3 ⟨b1, 7, none⟩ (.i x0.Max) (p3.c 0 7) ?_
      refine Gn 1 [(52, (pt b1 6))] Jtc ?_
      refine Goes.ld 3 (.tmp 52) 53 3 ⟨b1, 6, none⟩ (.i x0.Min) (p3.c 0 6) ?_
      refine Gn 14 [(54, .i (wr .i64 (x0.Max - x0.Min))), (55, .i y16), (56, .i (wr .i64 (y16 + 1))), (57, .i (wr .i64 ((wr .i64 (x0.Max - x0.Min)) * (wr .i64 (y16 + 1))))), (58, .i (wr .i64 ((wr .i64 (x0.Min * y16)) + (wr .i64 ((wr .i64 (x0.Max - x0.Min)) * (wr .i64 (y16 + 1))))))), (3, .i (wr .i64 ((wr .i64 (x0.Min * y16)) + (wr .i64 ((wr .i64 (x0.Max - x0.Min)) * (wr .i64 (y16 + 1))))))), (59, .i (wr .i64 ((wr .i64 (x0.Min * y16)) + (wr .i64 ((wr .i64 (x0.Max - x0.Min)) * (wr .i64 (y16 + 1))))))), (60, .i (imx 1 (wr .i64 ((wr .i64 (x0.Min * y16)) + (wr .i64 ((wr .i64 (x0.Max - x0.Min)) * (wr .i64 (y16 + 1)))))))), (61, .i (imn 1048576 (imx 1 (wr .i64 ((wr .i64 (x0.Min * y16)) + (wr .i64 ((wr .i64 (x0.Max - x0.Min)) * (wr .i64 (y16 + 1))))))))), (2, .i (imn 1048576 (imx 1 (wr .i64 ((wr .i64 (x0.Min * y16)) + (wr .i64 ((wr .i64 (x0.Max - x0.Min)) * (wr .i64 (y16 + 1)))))))))] Jtd ?_
      refine Gn 1 [] Jt9 ?_
      obtain rfl := Option.some.inj h
      have p3 := p3.dp 0
      exact Goes.rt Tryz.f55 (.i (imn 1048576 (imx 1 (wr .i64 ((wr .i64 (x0.Min * y16)) + (wr .i64 ((wr .i64 (x0.Max - x0.Min)) * (wr .i64 (y16 + 1))))))))) ⟨S3, rfl, (((Ext.refl S0 w0).trans z2).trans z3), p3⟩
    ·
     rw [decide_eq_false h5]
     refine Gn 10 [(59, .i 0), (60, .i 1), (61, .i 1), (2, .i 1)] Jt9 ?_
     obtain rfl := Option.some.inj h
     have p2 := p2.dp 0
     exact Goes.rt Tryz.f55 (.i 1) ⟨S0, rfl, ((Ext.refl S0 w0).trans z2), p2⟩
 ·
  intro rec_prog_size umq ih_prog_size umr ⟨x3, x21, x22, x23⟩ r h nz wz S0 w0 Lr S1 w1 hx umn umo ump p1 ums umt junk
  try dsimp only at h
  subst umt
  refine Gn 5 [(24, .bool (decide (x23 < x22)))] Jtf ?_
  refine ite_some h (fun h19 h => ?_) (fun h19 h => ?_)
  ·
   rw [decide_eq_true h19]
   refine Gn 6 [] Jtj ?_
   refine guard_some' h fun g20 h => ?_
   refine guard_some' h fun g21 h => ?_
   refine Op_.ixR_n 56 (.tmp 21) (.tmp 23) 25 0 58 .i64 x23 (gi x21 x23) rfl rfl ums Goes.v (by kernel_rfl) (by kernel_rfl) (by kernel_rfl) (by kernel_rfl) g20 g21 ?_
   intro a22 _ f23 q24
   have q25 := q24
   obtain ⟨_, _, rfl, rfl, ⟨_, _, rfl, ⟨l26, f27⟩, ⟨_, _, rfl, ⟨A28, c29, rfl, f30⟩, ⟨_, _, rfl, rfl, rfl⟩⟩⟩⟩ := kT57_open q25
   obtain rfl := els_lit4' f27 l26
   refine Goes.ldN 58 (.tmp 25) 26 58 a22 ([.i ((gi x21 x23).Kind)] ++ ((U4 ((gi x21 x23).Set) []) ++ ([.slice A28 (((gi x21 x23).L).length) c29] ++ ([.i ((gi x21 x23).Min)] ++ [.i ((gi x21 x23).Max)])))) (f23.cell) ?_
   refine Op_.alloc 58 5 0 (.agg #[.i 0, .u 0, .u 0, .u 0, .u 0, .slice none 0 0, .i 0, .i 0]) [.i 0, .u 0, .u 0, .u 0, .u 0, .slice none 0 0, .i 0, .i 0] p1 Goes.v (by kernel_rfl) (by kernel_rfl) ?_
   intro b31 w4 z4 p4
   refine So 58 (.tmp 5) (.tmp 26) 0 0 b31 0 (ag (.i ((gi x21 x23).Kind) :: U4 ((gi x21 x23).Set) [.slice A28 (((gi x21 x23).L).length) c29, .i ((gi x21 x23).Min), .i ((gi x21 x23).Max)])) (.i ((gi x21 x23).Kind) :: U4 ((gi x21 x23).Set) [.slice A28 (((gi x21 x23).L).length) c29, .i ((gi x21 x23).Min), .i ((gi x21 x23).Max)]) p4 rfl Goes.s ?_
   intro w5 z5 p5
   have p5 : Hp nz wz S1 w5 ((some b31, .row 58 (.i ((gi x21 x23).Kind) :: U4 ((gi x21 x23).Set) [.slice A28 (((gi x21 x23).L).length) c29, .i ((gi x21 x23).Min), .i ((gi x21 x23).Max)]) 8 0) :: Lr) := p5
   refine Gn 3 [(27, .i x3)] Jtk ?_
   refine Goes.ldN 58 (.tmp 5) 28 58 ⟨b31, 0, none⟩ (.i ((gi x21 x23).Kind) :: U4 ((gi x21 x23).Set) [.slice A28 (((gi x21 x23).L).length) c29, .i ((gi x21 x23).Min), .i ((gi x21 x23).Max)]) (p5.pa 0 0) ?_
   refine bind_some' h fun y33 e34 h => ?_
   refine Gc (kc 55 [28] #[58]) 29 3 55 _ (ih_prog_size (⟨(gi x21 x23).Kind, ((gi x21 x23).Set), (gi x21 x23).L, (gi x21 x23).Min, (gi x21 x23).Max⟩ : T57) y33 e34 A28 (((gi x21 x23).L).length) c29 p5 l26 (f30.ext (z4.trans z5)) rfl) ?_
   rintro _ w6 ⟨S6, rfl, z6, p6⟩
   have p6 := p6.dp 0
   refine Gn 10 [(30, .i (wr .i64 (x3 + y33))), (31, .i (imn 1048576 (wr .i64 (x3 + y33)))), (3, .i (imn 1048576 (wr .i64 (x3 + y33)))), (32, .i (wr .i64 (x23 + 1))), (23, .i (wr .i64 (x23 + 1)))] Jsj ?_
   exact Gj 62 [(3, .i (imn 1048576 (wr .i64 (x3 + y33)))), (21, .slice umn x21.length ump), (22, .i x22), (23, .i (wr .i64 (x23 + 1)))] (umr _ _ h _ _ (((hx.trans z4).trans z5).trans z6) umn x21.length ump p6 (ums.ext ((z4.trans z5).trans z6)) rfl)
  ·
   rw [decide_eq_false h19]
   refine Gn 10 [(59, .i x3), (60, .i (imx 1 x3)), (61, .i (imn 1048576 (imx 1 x3))), (2, .i (imn 1048576 (imx 1 x3)))] Jt9 ?_
   obtain rfl := Option.some.inj h
   exact Goes.rt Tryz.f55 (.i (imn 1048576 (imx 1 x3))) ⟨S1, rfl, hx, p1⟩

theorem W.z3u : ∀ a r, M.prog_size a = some r → LF.z3u a r := (W.z3w).1

theorem W.z3v : ∀ a r, M.prog_size_l0 a = some r → LL.z3v a r := (W.z3w).2

def Jtl := Zs [1] B38 []
def Jtm := Zt [0] B38 [0, 1, 2] Jtl
def Jtn := Zs [1, 1] B38 []
def Jto := Zs [1, 0, 1] B38 Jtn
def Jtp := Zt [1, 0, 0] B38 [0, 1, 2] Jto
def Jtq := Zs [1, 1, 1] B38 []
def Jtr := Zt [1, 1, 0] B38 [0, 1, 2, 3, 4, 5] Jtq
def Jts := Zs [1, 0, 1, 0, 1] B38 Jtn

def Post.z3x (r : Int × Int) (v : Value) (w' : World) : Prop :=
 ∃ S', v = .tuple #[.i r.1, .i r.2] ∧ Ext S0 w0 S' w' ∧ Hp nz wz S' w' (Lr)

theorem W.z3x (x0 : T57) (r : Int × Int) (h : M.prog_Count x0 = some r) {nz wz S0 w0 Lr} (uls ult ulu) (p0 : Hp nz wz S0 w0 (Lr)) (u1 : x0.Set.length = 4) (um4 : Rd kT57 S0 w0 uls ulu x0.L) (um5 : x0.L.length = ult) :
  Calls Tryz.prog 38 #[(ag (.i x0.Kind :: U4 x0.Set [.slice uls ult ulu, .i x0.Min, .i x0.Max]))] w0 (Rets (Post.z3x nz wz S0 w0 Lr r)) := by
 subst um5
 refine Zf Tryz.f38 B38 10 ?_
 refine Gj 11 [(0, (ag (.i x0.Kind :: U4 x0.Set [.slice uls x0.L.length ulu, .i x0.Min, .i x0.Max])))] fun junk => ?_
 delta M.prog_Count at h
 refine Gn 2 [] Jtm ?_
 refine Op_.box 58 (.tmp 0) 1 0 (ag (.i x0.Kind :: U4 x0.Set [.slice uls x0.L.length ulu, .i x0.Min, .i x0.Max])) (.i x0.Kind :: U4 x0.Set [.slice uls x0.L.length ulu, .i x0.Min, .i x0.Max]) p0 Goes.v (by kernel_rfl) (by kernel_rfl) ?_
 intro b1 w2 z2 p2
 refine Gn 6 [(2, .i 0), (3, .i 0)] Jtp ?_
 refine Goes.ldN 58 (.tmp 1) 4 58 ⟨b1, 0, none⟩ (.i x0.Kind :: U4 x0.Set [.slice uls x0.L.length ulu, .i x0.Min, .i x0.Max]) (p2.pa 0 0) ?_
 refine bind_some' h fun y3 e4 h => ?_
 refine Gc (kc 54 [4] #[58]) 5 4 54 _ (W.z3t x0 y3 e4 uls x0.L.length ulu p2 u1 (um4.ext z2) rfl) ?_
 rintro _ w3 ⟨S3, rfl, z3, p3⟩
 refine Gn 2 [(6, .bool (!y3))] Jto ?_
 refine ite_some h (fun h5 h => ?_) (fun h5 h => ?_)
 ·
  rw [h5]
  refine Gn 4 [] Jtr ?_
  refine Goes.ldN 58 (.tmp 1) 7 58 ⟨b1, 0, none⟩ (.i x0.Kind :: U4 x0.Set [.slice uls x0.L.length ulu, .i x0.Min, .i x0.Max]) (p3.pa 0 0) ?_
  refine bind_some' h fun y6 e7 h => ?_
  refine Gc (kc 55 [7] #[58]) 8 3 55 _ (W.z3u x0 y6 e7 uls x0.L.length ulu p3 u1 (um4.ext (z2.trans z3)) rfl) ?_
  rintro _ w4 ⟨S4, rfl, z4, p4⟩
  have p4 := p4.dp 0
  refine Gn 5 [(9, .i (wr .i64 (y6 + 1))), (10, .i (imn 1048576 (wr .i64 (y6 + 1)))), (2, .i (imn 1048576 (wr .i64 (y6 + 1)))), (3, .i 0)] Jtq ?_
  obtain rfl := Option.some.inj h
  exact Goes.rt Tryz.f38 (.tuple #[.i (imn 1048576 (wr .i64 (y6 + 1))), .i 0]) ⟨S4, rfl, ((((Ext.refl S0 w0).trans z2).trans z3).trans z4), p4⟩
 ·
  have h5' : y3 = false := by simpa using h5
  rw [h5']
  refine Gn 6 [(2, .i 0), (3, .i 2)] Jts ?_
  obtain rfl := Option.some.inj h
  have p3 := p3.dp 0
  exact Goes.rt Tryz.f38 (.tuple #[.i 0, .i 2]) ⟨S3, rfl, (((Ext.refl S0 w0).trans z2).trans z3), p3⟩

def Jtt := Zs [1] B40 []
def Jtu := Zt [0] B40 [0, 1] Jtt
def Jtv := Zs [1, 1] B40 []
def Jtw := Zs [1, 0] B40 Jtv
def Jtx := Zs [1, 1, 1] B40 []
def Jty := Zt [1, 1, 0] B40 [3, 4, 5, 6] Jtx

def Post.z3y (gx0 : Nat) (r : Int × (List T45)) (v : Value) (w' : World) : Prop :=
 ∃ S' u1e u1f u1g u1h, v = .i r.1 ∧ Ext S0 w0 S' w' ∧ Hp nz wz S' w' ((some gx0, .row 88 [.slice (Gp u1e) u1f u1g] 1 0) :: (u1e, .row 46 u1h (u1g * kT45.size) 0) :: Lr) ∧ Els kT45 S' w' u1h r.2 ∧ r.2.length = u1f

theorem W.z3y (umu : List T45) (x1 : T45) (r : Int × (List T45)) (h : M.prog_writer_put umu x1 = some r) {nz wz S0 w0 Lr} (gx0 uh ui uj uk) (p0 : Hp nz wz S0 w0 ((some gx0, .row 88 [.slice (Gp uh) ui uj] 1 0) :: (uh, .row 46 uk (uj * kT45.size) 0) :: Lr)) (u14 : Els kT45 S0 w0 uk umu) (u15 : umu.length = ui) (umv : x1.Set.length = 4) :
  Calls Tryz.prog 40 #[(pt gx0 0), (ag (.i x1.Op :: U4 x1.Set [.i x1.X, .i x1.Y]))] w0 (Rets (Post.z3y nz wz S0 w0 Lr gx0 r)) := by
 subst u15
 refine Zf Tryz.f40 B40 19 ?_
 refine Gj 21 [(0, (pt gx0 0)), (1, (ag (.i x1.Op :: U4 x1.Set [.i x1.X, .i x1.Y])))] fun junk => ?_
 delta M.prog_writer_put at h
 refine Gn 2 [] Jtu ?_
 refine Op_.box 46 (.tmp 1) 3 0 (ag (.i x1.Op :: U4 x1.Set [.i x1.X, .i x1.Y])) (.i x1.Op :: U4 x1.Set [.i x1.X, .i x1.Y]) p0 Goes.v (by kernel_rfl) (by kernel_rfl) ?_
 intro b3 w2 z2 p2
 refine Gn 3 [(4, .i 0)] Jtw ?_
 have z3 : Ext S0 w2 S0 (w2).drew := Ext.draw
 have p3 := p2.draw
 refine Goes.drawn (s := [10]) (F := Fc S0 (w2).drew [(⟨gx0, 0, none⟩, .slice (Gp uh) umu.length uj), (⟨b3, 0, none⟩, .i x1.Op), (⟨b3, 1, none⟩, .u (gi x1.Set 0)), (⟨b3, 2, none⟩, .u (gi x1.Set 1)), (⟨b3, 3, none⟩, .u (gi x1.Set 2)), (⟨b3, 4, none⟩, .u (gi x1.Set 3)), (⟨b3, 5, none⟩, .i x1.X), (⟨b3, 6, none⟩, .i x1.Y)]) 1 11 (by kernel_rfl) (by kernel_rfl) (by kernel_rfl) (by kernel_rfl) ?_
 generalize (w2).drew = w3 at z3 p3 ⊢
 refine AnyG.pu 0 (.move (.tmp 0)) 5 86 ((pt gx0 0)) (Fc.here (p3.cs [(1, 0, 1), (0, 0, 7)])) ?_
 refine AnyG.pu 1 (.move (.tmp 0)) 6 86 ((pt gx0 0)) (Fc.here (p3.cs [(1, 0, 1), (0, 0, 7)])) ?_
 refine AnyG.pu 2 (.nilCheck (.tmp 6)) 7 0 ((pt gx0 0)) (Fc.here (p3.cs [(1, 0, 1), (0, 0, 7)])) ?_
 refine AnyG.pu 3 (.fieldAddr 88 (.tmp 7) 0) 8 0 ((pt gx0 0)) (Fc.here (p3.cs [(1, 0, 1), (0, 0, 7)])) ?_
 refine AnyG.ld1 (i := 4) 22 (.tmp 8) 9 22 ⟨gx0, 0, none⟩ (.slice (Gp uh) umu.length uj) (by kernel_rfl) (by kernel_rfl) (Fc.here (p3.cs [(1, 0, 1), (0, 0, 7)])) (by kernel_rfl) (by kernel_rfl) (fun _ h => h.2.at_ 0 rfl) ?_
 refine AnyG.ldN (i := 5) 46 (.tmp 3) 10 46 ⟨b3, 0, none⟩ (.i x1.Op :: U4 x1.Set [.i x1.X, .i x1.Y]) (by kernel_rfl) (by kernel_rfl) (Fc.here (p3.cs [(1, 0, 1), (0, 0, 7)])) (by kernel_rfl) (by kernel_rfl) (by kernel_rfl) (fun _ h j v hj => by match j, hj with | 0, rfl => exact h.2.at_ 1 rfl | 1, rfl => exact h.2.at_ 2 rfl | 2, rfl => exact h.2.at_ 3 rfl | 3, rfl => exact h.2.at_ 4 rfl | 4, rfl => exact h.2.at_ 5 rfl | 5, rfl => exact h.2.at_ 6 rfl | 6, rfl => exact h.2.at_ 7 rfl | (j + 7), hj => simp at hj) ?_
 have f6 : Els kT45 S0 w3 ((.i x1.Op :: U4 x1.Set [.i x1.X, .i x1.Y]) : List Value) [x1] := by exact (Els.cons (K := kT45) (vs := (.i x1.Op :: U4 x1.Set [.i x1.X, .i x1.Y])) (x := x1) ⟨[.i x1.Op], (U4 x1.Set [.i x1.X, .i x1.Y]), rfl, rfl, ⟨(U4 x1.Set []), [.i x1.X, .i x1.Y], rfl, ⟨umv, els_mk4 umv⟩, ⟨[.i x1.X], [.i x1.Y], rfl, rfl, rfl⟩⟩⟩ Els.nil)
 refine Op_.made (.buildSlice 22 1 #[(0, (.tmp 10))]) 11 22 (fun b => .slice (Gp (some b)) 1 1) 46 ((.i x1.Op :: U4 x1.Set [.i x1.X, .i x1.Y]) : List Value) p3 (AnyG.vs (i := 6) (by kernel_rfl) (by kernel_rfl)) (by kernel_rfl) ?_
 intro b5 w4 z4 p4
 have p4 : Hp nz wz S0 w4 (((some b5), .row 46 ((.i x1.Op :: U4 x1.Set [.i x1.X, .i x1.Y]) : List Value) (1 * kT45.size) 0) :: (some b3, .row 46 (.i x1.Op :: U4 x1.Set [.i x1.X, .i x1.Y]) 7 0) :: (some gx0, .row 88 [.slice (Gp uh) umu.length uj] 1 0) :: (uh, .row 46 uk (uj * kT45.size) 0) :: Lr) := p4
 refine AnyG.next z4 ⟨(p4.c 2 0), (p4.c 1 0), (p4.c 1 1), (p4.c 1 2), (p4.c 1 3), (p4.c 1 4), (p4.c 1 5), (p4.c 1 6), trivial⟩ ?_
 refine guard_some' h fun g11 h => ?_
 refine Op_.ap_n (K := kT45) 22 (.tmp 9) (.tmp 11) 12 22 46 3 (.agg #[.i 0, .u 0, .u 0, .u 0, .u 0, .i 0, .i 0]) 56 umu.length uj 1 umu [x1] (umu ++ [x1]) (Gp (some b5)) 1 rfl rfl rfl p4 rfl (u14.ext ((z2.trans z3).trans z4)) (AnyG.vs (i := 7) (by kernel_rfl) (by kernel_rfl)) (by kernel_rfl) (by kernel_rfl) (by kernel_rfl) (by kernel_rfl) rfl (by decide) (f6.ext z4) (src_own p4 (q := 0) rfl) (by have := g11; omega) (by have := g11; omega) ?_
 intro w5 G12 c13 u1s z5 p5 f15
 refine AnyG.next z5 ⟨(p5.c 2 0), (p5.c 1 0), (p5.c 1 1), (p5.c 1 2), (p5.c 1 3), (p5.c 1 4), (p5.c 1 5), (p5.c 1 6), trivial⟩ ?_
 refine AnyG.pu 8 (.nilCheck (.tmp 5)) 13 0 ((pt gx0 0)) (Fc.here (p5.cs [(2, 0, 1), (1, 0, 7)])) ?_
 refine AnyG.pu 9 (.fieldAddr 88 (.tmp 13) 0) 14 0 ((pt gx0 0)) (Fc.here (p5.cs [(2, 0, 1), (1, 0, 7)])) ?_
 refine So 22 (.tmp 14) (.tmp 12) 0 2 gx0 0 (.slice (Gp G12) ((umu ++ [x1]).length) c13) [.slice (Gp G12) ((umu ++ [x1]).length) c13] p5 rfl (AnyG.ss (i := 10) (by kernel_rfl) (by kernel_rfl)) ?_
 intro w6 z6 p6
 have p6 : Hp nz wz S0 w6 (((some b5), .row 46 ((.i x1.Op :: U4 x1.Set [.i x1.X, .i x1.Y]) : List Value) (1 * kT45.size) 0) :: (some b3, .row 46 (.i x1.Op :: U4 x1.Set [.i x1.X, .i x1.Y]) 7 0) :: (some gx0, .row 88 [.slice (Gp G12) ((umu ++ [x1]).length) c13] 1 0) :: (G12, .row 46 u1s (c13 * kT45.size) 0) :: Lr) := p6
 refine AnyG.last [] (Fc S0 w6 []) (by decide) ?_
 refine AnyG.done (by kernel_rfl) ?_ _
 have p6 := (p6.dp 0).dp 0
 refine Gn 5 [(15, (pt gx0 0)), (16, (pt gx0 0)), (17, (pt gx0 0))] Jty ?_
 refine Goes.ld 22 (.tmp 17) 18 22 ⟨gx0, 0, none⟩ (.slice (Gp G12) ((umu ++ [x1]).length) c13) (p6.c 0 0) ?_
 refine Gn 4 [(19, .i ((umu ++ [x1]).length : Int)), (20, .i (wr .i64 (((umu ++ [x1]).length : Int) - 1))), (4, .i (wr .i64 (((umu ++ [x1]).length : Int) - 1)))] Jtx ?_
 obtain rfl := Option.some.inj h
 exact Goes.rt Tryz.f40 (.i (wr .i64 (((umu ++ [x1]).length : Int) - 1))) ⟨S0, G12, (umu ++ [x1]).length, c13, u1s, rfl, ((((((Ext.refl S0 w0).trans z2).trans z3).trans z4).trans z5).trans z6), p6, (f15.ext z6), rfl⟩

def Jtz := Zs [1] B57 []
def Ju0 := Zt [0] B57 [0, 1, 2] Jtz
def Ju1 := Zs [1, 1] B57 []
def Qms := sub [1, 0] B57
def Ju2 := Zr Qms [0, 1, 2, 3, 4] Ju1
def Ju3 := Zr Qms [4] Ju1

def Post.z3z (gx0 : Nat) (uh : Option Nat) (ui : Nat) (uj : Nat) (uk : List Value) (umu : List T45) (r : T108) (v : Value) (w' : World) : Prop :=
 ∃ S' umw, v = .agg #[.i r.n, umw] ∧ Ext S0 w0 S' w' ∧ Hp nz wz S' w' ((some gx0, .row 88 [.slice (Gp uh) ui uj] 1 0) :: (uh, .row 46 uk (uj * kT45.size) 0) :: Lr) ∧ Rp1 (kC107 gx0) S' w' umw r.code

theorem W.z3z (umu : List T45) (x1 : T57) (r : T108) (h : M.prog_writer_of umu x1 = some r) {nz wz S0 w0 Lr} (gx0 uh ui uj uk umx umy umz) (p0 : Hp nz wz S0 w0 ((some gx0, .row 88 [.slice (Gp uh) ui uj] 1 0) :: (uh, .row 46 uk (uj * kT45.size) 0) :: Lr)) (u14 : Els kT45 S0 w0 uk umu) (u15 : umu.length = ui) (umv : x1.Set.length = 4) (un0 : Rd kT57 S0 w0 umx umz x1.L) (un1 : x1.L.length = umy) :
  Calls Tryz.prog 57 #[(pt gx0 0), (ag (.i x1.Kind :: U4 x1.Set [.slice umx umy umz, .i x1.Min, .i x1.Max]))] w0 (Rets (Post.z3z nz wz S0 w0 Lr gx0 uh ui uj uk umu r)) := by
 subst u15
 subst un1
 refine Zf Tryz.f57 B57 7 ?_
 refine Gj 9 [(0, (pt gx0 0)), (1, (ag (.i x1.Kind :: U4 x1.Set [.slice umx x1.L.length umz, .i x1.Min, .i x1.Max])))] fun junk => ?_
 delta M.prog_writer_of at h
 refine Gn 2 [] Ju0 ?_
 refine Op_.box 86 (.tmp 0) 2 0 ((pt gx0 0)) [(pt gx0 0)] p0 Goes.v (by kernel_rfl) (by kernel_rfl) ?_
 intro b3 w2 z2 p2
 refine Op_.box 58 (.tmp 1) 3 0 (ag (.i x1.Kind :: U4 x1.Set [.slice umx x1.L.length umz, .i x1.Min, .i x1.Max])) (.i x1.Kind :: U4 x1.Set [.slice umx x1.L.length umz, .i x1.Min, .i x1.Max]) p2 Goes.v (by kernel_rfl) (by kernel_rfl) ?_
 intro b5 w3 z3 p3
 refine Op_.alloc 109 4 0 (.agg #[.i 0, .nilFunc]) [.i 0, .nilFunc] p3 Goes.v (by kernel_rfl) (by kernel_rfl) ?_
 intro b7 w4 z4 p4
 refine Gn 3 [] Ju2 ?_
 refine Goes.ldN 58 (.tmp 3) 5 58 ⟨b5, 0, none⟩ (.i x1.Kind :: U4 x1.Set [.slice umx x1.L.length umz, .i x1.Min, .i x1.Max]) (p4.pa 1 0) ?_
 refine bind_some' h fun y9 e10 h => ?_
 refine Gc (kc 55 [5] #[58]) 6 3 55 _ (W.z3u x1 y9 e10 umx x1.L.length umz p4 umv (un0.ext ((z2.trans z3).trans z4)) rfl) ?_
 rintro _ w5 ⟨S5, rfl, z5, p5⟩
 refine Gn 2 [(7, .func (.func 77) #[] #[(pt b3 0), (pt b5 0)]), (8, .agg #[.i y9, .func (.func 77) #[] #[(pt b3 0), (pt b5 0)]])] Ju3 ?_
 refine So 109 (.tmp 4) (.tmp 8) 0 0 b7 0 (.agg #[.i y9, .func (.func 77) #[] #[(pt b3 0), (pt b5 0)]]) [.i y9, .func (.func 77) #[] #[(pt b3 0), (pt b5 0)]] p5 rfl Goes.s ?_
 intro w6 z6 p6
 have p6 : Hp nz wz S5 w6 ((some b7, .row 109 [.i y9, .func (.func 77) #[] #[(pt b3 0), (pt b5 0)]] 2 0) :: (some b5, .row 58 (.i x1.Kind :: U4 x1.Set [.slice umx x1.L.length umz, .i x1.Min, .i x1.Max]) 8 0) :: (some b3, .row 86 [(pt gx0 0)] 1 0) :: (some gx0, .row 88 [.slice (Gp uh) umu.length uj] 1 0) :: (uh, .row 46 uk (uj * kT45.size) 0) :: Lr) := p6
 refine Gn 1 [] Ju1 ?_
 obtain ⟨S7, z7, p7, f11⟩ := p6.freezeBlk 2 rfl
 obtain ⟨S8, z8, p8, f12⟩ := p7.freezeBlk 1 rfl
 obtain rfl := Option.some.inj h
 exact Goes.ret (fn := Tryz.f57) (by kernel_rfl) (v := .agg #[.i y9, .func (.func 77) #[] #[(pt b3 0), (pt b5 0)]]) (results_n1 (fn := Tryz.f57) (a := .cell 4 109) (by kernel_rfl) (resV_cell ⟨b7, 0, none⟩ (by kernel_rfl) (run_loadN [.i y9, .func (.func 77) #[] #[(pt b3 0), (pt b5 0)]] (by kernel_rfl) (by kernel_rfl) (p8.pa 0 0)))) ⟨S8, .func (.func 77) #[] #[(pt b3 0), (pt b5 0)], rfl, ((((((((Ext.refl S0 w0).trans z2).trans z3).trans z4).trans z5).trans z6).trans z7).trans z8), p8.drop, (show Rp1 (kC107 gx0) S8 w6 (.func (.func 77) #[] #[(pt b3 0), (pt b5 0)]) ((Sum.inl x1) : T57 ⊕ T57 ⊕ (Int × T57)) from ⟨[(pt b3 0), (pt b5 0)], rfl, ⟨[(pt b3 0)], [(pt b5 0)], rfl, ⟨_, rfl, (f11.ext z8)⟩, ⟨_, _, rfl, List.cons_ne_nil _ _, f12, (kT57_close ⟨[.i x1.Kind], (U4 x1.Set [.slice umx x1.L.length umz, .i x1.Min, .i x1.Max]), rfl, rfl, ⟨(U4 x1.Set []), [.slice umx x1.L.length umz, .i x1.Min, .i x1.Max], rfl, ⟨umv, els_mk4 umv⟩, ⟨[.slice umx x1.L.length umz], [.i x1.Min, .i x1.Max], rfl, ⟨_, _, rfl, (un0.ext ((((((z2.trans z3).trans z4).trans z5).trans z6).trans z7).trans z8))⟩, ⟨[.i x1.Min], [.i x1.Max], rfl, rfl, rfl⟩⟩⟩⟩)⟩⟩⟩)⟩

def Ju4 := Zs [1] B78 []
def Ju5 := Zt [0] B78 [0, 1, 2] Ju4
def Ju6 := Zs [1, 1] B78 []
def Qmw := sub [1, 0] B78
def Ju7 := Zr Qmw [0, 1, 2, 3, 4, 5] Ju6
def Ju8 := Zr Qmw [5] Ju6

def Post.z40 (gx0 : Nat) (uh : Option Nat) (ui : Nat) (uj : Nat) (uk : List Value) (umu : List T45) (r : T108) (v : Value) (w' : World) : Prop :=
 ∃ S' umw, v = .agg #[.i r.n, umw] ∧ Ext S0 w0 S' w' ∧ Hp nz wz S' w' ((some gx0, .row 88 [.slice (Gp uh) ui uj] 1 0) :: (uh, .row 46 uk (uj * kT45.size) 0) :: Lr) ∧ Rp1 (kC107 gx0) S' w' umw r.code

theorem W.z40 (umu : List T45) (x1 : T57) (r : T108) (h : M.prog_writer_loop umu x1 = some r) {nz wz S0 w0 Lr} (gx0 uh ui uj uk umx umy umz) (p0 : Hp nz wz S0 w0 ((some gx0, .row 88 [.slice (Gp uh) ui uj] 1 0) :: (uh, .row 46 uk (uj * kT45.size) 0) :: Lr)) (u14 : Els kT45 S0 w0 uk umu) (u15 : umu.length = ui) (umv : x1.Set.length = 4) (un0 : Rd kT57 S0 w0 umx umz x1.L) (un1 : x1.L.length = umy) :
  Calls Tryz.prog 78 #[(pt gx0 0), (ag (.i x1.Kind :: U4 x1.Set [.slice umx umy umz, .i x1.Min, .i x1.Max]))] w0 (Rets (Post.z40 nz wz S0 w0 Lr gx0 uh ui uj uk umu r)) := by
 subst u15
 subst un1
 refine Zf Tryz.f78 B78 8 ?_
 refine Gj 10 [(0, (pt gx0 0)), (1, (ag (.i x1.Kind :: U4 x1.Set [.slice umx x1.L.length umz, .i x1.Min, .i x1.Max])))] fun junk => ?_
 delta M.prog_writer_loop at h
 refine Gn 2 [] Ju5 ?_
 refine Op_.box 86 (.tmp 0) 2 0 ((pt gx0 0)) [(pt gx0 0)] p0 Goes.v (by kernel_rfl) (by kernel_rfl) ?_
 intro b3 w2 z2 p2
 refine Op_.box 58 (.tmp 1) 3 0 (ag (.i x1.Kind :: U4 x1.Set [.slice umx x1.L.length umz, .i x1.Min, .i x1.Max])) (.i x1.Kind :: U4 x1.Set [.slice umx x1.L.length umz, .i x1.Min, .i x1.Max]) p2 Goes.v (by kernel_rfl) (by kernel_rfl) ?_
 intro b5 w3 z3 p3
 refine Op_.alloc 109 4 0 (.agg #[.i 0, .nilFunc]) [.i 0, .nilFunc] p3 Goes.v (by kernel_rfl) (by kernel_rfl) ?_
 intro b7 w4 z4 p4
 refine Gn 3 [] Ju7 ?_
 refine Goes.ldN 58 (.tmp 3) 5 58 ⟨b5, 0, none⟩ (.i x1.Kind :: U4 x1.Set [.slice umx x1.L.length umz, .i x1.Min, .i x1.Max]) (p4.pa 1 0) ?_
 refine bind_some' h fun y9 e10 h => ?_
 refine Gc (kc 55 [5] #[58]) 6 3 55 _ (W.z3u x1 y9 e10 umx x1.L.length umz p4 umv (un0.ext ((z2.trans z3).trans z4)) rfl) ?_
 rintro _ w5 ⟨S5, rfl, z5, p5⟩
 refine Gn 3 [(7, .i (wr .i64 (y9 + 1))), (8, .func (.func 90) #[] #[(pt b3 0), (pt b5 0)]), (9, .agg #[.i (wr .i64 (y9 + 1)), .func (.func 90) #[] #[(pt b3 0), (pt b5 0)]])] Ju8 ?_
 refine So 109 (.tmp 4) (.tmp 9) 0 0 b7 0 (.agg #[.i (wr .i64 (y9 + 1)), .func (.func 90) #[] #[(pt b3 0), (pt b5 0)]]) [.i (wr .i64 (y9 + 1)), .func (.func 90) #[] #[(pt b3 0), (pt b5 0)]] p5 rfl Goes.s ?_
 intro w6 z6 p6
 have p6 : Hp nz wz S5 w6 ((some b7, .row 109 [.i (wr .i64 (y9 + 1)), .func (.func 90) #[] #[(pt b3 0), (pt b5 0)]] 2 0) :: (some b5, .row 58 (.i x1.Kind :: U4 x1.Set [.slice umx x1.L.length umz, .i x1.Min, .i x1.Max]) 8 0) :: (some b3, .row 86 [(pt gx0 0)] 1 0) :: (some gx0, .row 88 [.slice (Gp uh) umu.length uj] 1 0) :: (uh, .row 46 uk (uj * kT45.size) 0) :: Lr) := p6
 refine Gn 1 [] Ju6 ?_
 obtain ⟨S7, z7, p7, f11⟩ := p6.freezeBlk 2 rfl
 obtain ⟨S8, z8, p8, f12⟩ := p7.freezeBlk 1 rfl
 obtain rfl := Option.some.inj h
 exact Goes.ret (fn := Tryz.f78) (by kernel_rfl) (v := .agg #[.i (wr .i64 (y9 + 1)), .func (.func 90) #[] #[(pt b3 0), (pt b5 0)]]) (results_n1 (fn := Tryz.f78) (a := .cell 4 109) (by kernel_rfl) (resV_cell ⟨b7, 0, none⟩ (by kernel_rfl) (run_loadN [.i (wr .i64 (y9 + 1)), .func (.func 90) #[] #[(pt b3 0), (pt b5 0)]] (by kernel_rfl) (by kernel_rfl) (p8.pa 0 0)))) ⟨S8, .func (.func 90) #[] #[(pt b3 0), (pt b5 0)], rfl, ((((((((Ext.refl S0 w0).trans z2).trans z3).trans z4).trans z5).trans z6).trans z7).trans z8), p8.drop, (show Rp1 (kC107 gx0) S8 w6 (.func (.func 90) #[] #[(pt b3 0), (pt b5 0)]) ((Sum.inr (Sum.inl x1)) : T57 ⊕ T57 ⊕ (Int × T57)) from ⟨[(pt b3 0), (pt b5 0)], rfl, ⟨[(pt b3 0)], [(pt b5 0)], rfl, ⟨_, rfl, (f11.ext z8)⟩, ⟨_, _, rfl, List.cons_ne_nil _ _, f12, (kT57_close ⟨[.i x1.Kind], (U4 x1.Set [.slice umx x1.L.length umz, .i x1.Min, .i x1.Max]), rfl, rfl, ⟨(U4 x1.Set []), [.slice umx x1.L.length umz, .i x1.Min, .i x1.Max], rfl, ⟨umv, els_mk4 umv⟩, ⟨[.slice umx x1.L.length umz], [.i x1.Min, .i x1.Max], rfl, ⟨_, _, rfl, (un0.ext ((((((z2.trans z3).trans z4).trans z5).trans z6).trans z7).trans z8))⟩, ⟨[.i x1.Min], [.i x1.Max], rfl, rfl, rfl⟩⟩⟩⟩)⟩⟩⟩)⟩

def Ju9 := Zs [1] B79 []
def Jua := Zt [0] B79 [0, 1, 2, 3] Ju9
def Jub := Zs [1, 1] B79 []
def Qn0 := sub [1, 0] B79
def Juc := Zr Qn0 [0, 1, 2, 3, 4, 5] Jub
def Jud := Zr Qn0 [5] Jub

def Post.z41 (gx0 : Nat) (uh : Option Nat) (ui : Nat) (uj : Nat) (uk : List Value) (umu : List T45) (r : T108) (v : Value) (w' : World) : Prop :=
 ∃ S' umw, v = .agg #[.i r.n, umw] ∧ Ext S0 w0 S' w' ∧ Hp nz wz S' w' ((some gx0, .row 88 [.slice (Gp uh) ui uj] 1 0) :: (uh, .row 46 uk (uj * kT45.size) 0) :: Lr) ∧ Rp1 (kC107 gx0) S' w' umw r.code

theorem W.z41 (umu : List T45) (x1 : T57) (x2 : Int) (r : T108) (h : M.prog_writer_perhaps umu x1 x2 = some r) {nz wz S0 w0 Lr} (gx0 uh ui uj uk umx umy umz) (p0 : Hp nz wz S0 w0 ((some gx0, .row 88 [.slice (Gp uh) ui uj] 1 0) :: (uh, .row 46 uk (uj * kT45.size) 0) :: Lr)) (u14 : Els kT45 S0 w0 uk umu) (u15 : umu.length = ui) (umv : x1.Set.length = 4) (un0 : Rd kT57 S0 w0 umx umz x1.L) (un1 : x1.L.length = umy) :
  Calls Tryz.prog 79 #[(pt gx0 0), (ag (.i x1.Kind :: U4 x1.Set [.slice umx umy umz, .i x1.Min, .i x1.Max])), .i x2] w0 (Rets (Post.z41 nz wz S0 w0 Lr gx0 uh ui uj uk umu r)) := by
 subst u15
 subst un1
 refine Zf Tryz.f79 B79 9 ?_
 refine Gj 12 [(0, (pt gx0 0)), (1, (ag (.i x1.Kind :: U4 x1.Set [.slice umx x1.L.length umz, .i x1.Min, .i x1.Max]))), (2, .i x2)] fun junk => ?_
 delta M.prog_writer_perhaps at h
 refine Gn 2 [] Jua ?_
 refine Op_.box 86 (.tmp 0) 3 0 ((pt gx0 0)) [(pt gx0 0)] p0 Goes.v (by kernel_rfl) (by kernel_rfl) ?_
 intro b3 w2 z2 p2
 refine Op_.box 58 (.tmp 1) 4 0 (ag (.i x1.Kind :: U4 x1.Set [.slice umx x1.L.length umz, .i x1.Min, .i x1.Max])) (.i x1.Kind :: U4 x1.Set [.slice umx x1.L.length umz, .i x1.Min, .i x1.Max]) p2 Goes.v (by kernel_rfl) (by kernel_rfl) ?_
 intro b5 w3 z3 p3
 refine Op_.box 3 (.tmp 2) 5 0 (.i x2) [.i x2] p3 Goes.v (by kernel_rfl) (by kernel_rfl) ?_
 intro b7 w4 z4 p4
 refine Op_.alloc 109 6 0 (.agg #[.i 0, .nilFunc]) [.i 0, .nilFunc] p4 Goes.v (by kernel_rfl) (by kernel_rfl) ?_
 intro b9 w5 z5 p5
 refine Gn 3 [] Juc ?_
 refine Goes.ldN 58 (.tmp 4) 7 58 ⟨b5, 0, none⟩ (.i x1.Kind :: U4 x1.Set [.slice umx x1.L.length umz, .i x1.Min, .i x1.Max]) (p5.pa 2 0) ?_
 refine bind_some' h fun y11 e12 h => ?_
 refine Gc (kc 55 [7] #[58]) 8 3 55 _ (W.z3u x1 y11 e12 umx x1.L.length umz p5 umv (un0.ext (((z2.trans z3).trans z4).trans z5)) rfl) ?_
 rintro _ w6 ⟨S6, rfl, z6, p6⟩
 refine Gn 3 [(9, .i (wr .i64 (y11 + 1))), (10, .func (.func 91) #[] #[(pt b3 0), (pt b7 0), (pt b5 0)]), (11, .agg #[.i (wr .i64 (y11 + 1)), .func (.func 91) #[] #[(pt b3 0), (pt b7 0), (pt b5 0)]])] Jud ?_
 refine So 109 (.tmp 6) (.tmp 11) 0 0 b9 0 (.agg #[.i (wr .i64 (y11 + 1)), .func (.func 91) #[] #[(pt b3 0), (pt b7 0), (pt b5 0)]]) [.i (wr .i64 (y11 + 1)), .func (.func 91) #[] #[(pt b3 0), (pt b7 0), (pt b5 0)]] p6 rfl Goes.s ?_
 intro w7 z7 p7
 have p7 : Hp nz wz S6 w7 ((some b9, .row 109 [.i (wr .i64 (y11 + 1)), .func (.func 91) #[] #[(pt b3 0), (pt b7 0), (pt b5 0)]] 2 0) :: (some b7, .row 3 [.i x2] 1 0) :: (some b5, .row 58 (.i x1.Kind :: U4 x1.Set [.slice umx x1.L.length umz, .i x1.Min, .i x1.Max]) 8 0) :: (some b3, .row 86 [(pt gx0 0)] 1 0) :: (some gx0, .row 88 [.slice (Gp uh) umu.length uj] 1 0) :: (uh, .row 46 uk (uj * kT45.size) 0) :: Lr) := p7
 refine Gn 1 [] Jub ?_
 obtain ⟨S8, z8, p8, f13⟩ := p7.freezeBlk 3 rfl
 obtain ⟨S9, z9, p9, f14⟩ := p8.freezeBlk 1 rfl
 obtain ⟨S10, z10, p10, f15⟩ := p9.freezeBlk 1 rfl
 obtain rfl := Option.some.inj h
 exact Goes.ret (fn := Tryz.f79) (by kernel_rfl) (v := .agg #[.i (wr .i64 (y11 + 1)), .func (.func 91) #[] #[(pt b3 0), (pt b7 0), (pt b5 0)]]) (results_n1 (fn := Tryz.f79) (a := .cell 6 109) (by kernel_rfl) (resV_cell ⟨b9, 0, none⟩ (by kernel_rfl) (run_loadN [.i (wr .i64 (y11 + 1)), .func (.func 91) #[] #[(pt b3 0), (pt b7 0), (pt b5 0)]] (by kernel_rfl) (by kernel_rfl) (p10.pa 0 0)))) ⟨S10, .func (.func 91) #[] #[(pt b3 0), (pt b7 0), (pt b5 0)], rfl, ((((((((((Ext.refl S0 w0).trans z2).trans z3).trans z4).trans z5).trans z6).trans z7).trans z8).trans z9).trans z10), p10.drop, (show Rp1 (kC107 gx0) S10 w7 (.func (.func 91) #[] #[(pt b3 0), (pt b7 0), (pt b5 0)]) ((Sum.inr (Sum.inr (x2, x1))) : T57 ⊕ T57 ⊕ (Int × T57)) from ⟨[(pt b3 0), (pt b7 0), (pt b5 0)], rfl, ⟨[(pt b3 0)], [(pt b7 0), (pt b5 0)], rfl, ⟨_, rfl, (f13.ext (z9.trans z10))⟩, ⟨[(pt b7 0)], [(pt b5 0)], rfl, ⟨_, _, rfl, List.cons_ne_nil _ _, (f14.ext z10), rfl⟩, ⟨_, _, rfl, List.cons_ne_nil _ _, f15, (kT57_close ⟨[.i x1.Kind], (U4 x1.Set [.slice umx x1.L.length umz, .i x1.Min, .i x1.Max]), rfl, rfl, ⟨(U4 x1.Set []), [.slice umx x1.L.length umz, .i x1.Min, .i x1.Max], rfl, ⟨umv, els_mk4 umv⟩, ⟨[.slice umx x1.L.length umz], [.i x1.Min, .i x1.Max], rfl, ⟨_, _, rfl, (un0.ext ((((((((z2.trans z3).trans z4).trans z5).trans z6).trans z7).trans z8).trans z9).trans z10))⟩, ⟨[.i x1.Min], [.i x1.Max], rfl, rfl, rfl⟩⟩⟩⟩)⟩⟩⟩⟩)⟩

def Jue := Zs [1, 1, 1, 1, 1, 1] B58 []
def Juf := Zb 2 Jue
def Qn2 := sub [1, 1, 1, 1, 1, 0, 1, 0, 0] B58
def Jug := Zl Qn2 Juf
def Juh := Zc Qn2 Jug
def Jui := Zs [1, 1, 1, 1, 1, 0, 1, 0, 0, 1, 1] B58 Jug
def Juj := Zs [1, 1, 1, 1, 1, 0, 1, 0, 0, 1, 0] B58 Jui
def Juk := Zs [1, 1, 1, 1, 1, 0, 1, 0, 0, 1, 1, 1] B58 Jug
def Jul := Zb 3 Juk
def Qn6 := sub [1, 1, 1, 1, 1, 0, 1, 0, 0, 1, 1, 0, 0] B58
def Jum := Zr Qn6 [2, 3, 4, 5, 6, 7] Jul
def Jun := Zr Qn6 [4, 5, 6, 7] Jul
def Juo := Zs [1, 1, 1, 1, 1, 1, 1] B58 []

def Post.z42 (gx0 : Nat) (uh : Option Nat) (ui : Nat) (uj : Nat) (uk : List Value) (umu : List T45) (r : List T108) (v : Value) (w' : World) : Prop :=
 ∃ S' Gq nq cq csq, v = .slice (Gp Gq) nq cq ∧ Ext S0 w0 S' w' ∧ Hp nz wz S' w' ((Gq, .row 109 csq (cq * (kT108 gx0).size) 0) :: (some gx0, .row 88 [.slice (Gp uh) ui uj] 1 0) :: (uh, .row 46 uk (uj * kT45.size) 0) :: Lr) ∧ Els (kT108 gx0) S' w' csq r ∧ r.length = nq

def L.z43 (gx0 : Nat) (uh : Option Nat) (ui : Nat) (uj : Nat) (uk : List Value) : Int × (List T108) × T57 × Int × Int × (List T45) → (List T108) → Prop := fun ⟨x2, x7, x8v, x37, x38, umu⟩ r => ∀ S1 w1, Ext S0 w0 S1 w1 → ∀ Gx7 nx7 cx7 u5t gx8 un2 un3 un4 (_ : Hp nz wz S1 w1 ((Gx7, .row 109 u5t (cx7 * (kT108 gx0).size) 0) :: (some gx8, .row 58 (.i x8v.Kind :: U4 x8v.Set [.slice un2 un3 un4, .i x8v.Min, .i x8v.Max]) 8 0) :: (some gx0, .row 88 [.slice (Gp uh) ui uj] 1 0) :: (uh, .row 46 uk (uj * kT45.size) 0) :: Lr)) (_ : Els (kT108 gx0) S1 w1 u5t x7) (_ : x7.length = nx7) (_ : x8v.Set.length = 4) (_ : Rd kT57 S1 w1 un2 un4 x8v.L) (_ : x8v.L.length = un3) (_ : Els kT45 S1 w1 uk umu) (_ : umu.length = ui) (junk : Nat → Value),
 Goes Tryz.prog (base 58) Juh ⟨lfr 49 [(0, (pt gx0 0)), (2, .i x2), (7, .slice (Gp Gx7) nx7 cx7), (8, (pt gx8 0)), (37, .i x37), (38, .i x38)] junk, []⟩ w1 (Done Tryz.prog 58 (Rets (Post.z42 nz wz S0 w0 Lr gx0 uh ui uj uk umu r)))

theorem W.z43 {nz wz S0 w0 Lr} (gx0 : Nat) (uh : Option Nat) (ui : Nat) (uj : Nat) (uk : List Value) : ∀ a r, M.prog_writer_times_l3 a = some r → (L.z43 nz wz S0 w0 Lr gx0 uh ui uj uk) a r := by
 refine M.prog_writer_times_l3.partial_correctness (motive := (L.z43 nz wz S0 w0 Lr gx0 uh ui uj uk)) ?_
 intro un5 un6 ⟨x2, x7, x8v, x37, x38, umu⟩ r h S1 w1 hx Gx7 nx7 cx7 u5t gx8 un2 un3 un4 p1 fx7 lx7 un7 un8 un9 fs5 ls5 junk
 try dsimp only at h
 subst lx7
 subst un9
 subst ls5
 refine Gn 5 [(39, .bool (decide (x38 < x37)))] Juj ?_
 refine ite_some h (fun h99 h => ?_) (fun h99 h => ?_)
 ·
  rw [decide_eq_true h99]
  refine Gn 7 [(40, .slice (Gp Gx7) x7.length cx7), (41, (pt gx0 0))] Jum ?_
  refine Goes.ldN 58 (.tmp 8) 42 58 ⟨gx8, 0, none⟩ (.i x8v.Kind :: U4 x8v.Set [.slice un2 x8v.L.length un4, .i x8v.Min, .i x8v.Max]) (p1.pa 1 0) ?_
  refine Gn 1 [(43, .i x2)] Jun ?_
  have p1 := (p1.fr 3).fr 3
  refine bind_some' h fun una unb h => ?_
  refine Gc (kc 79 [41, 42, 43] #[86, 58, 3]) 44 109 79 _ (W.z41 umu x8v x2 una unb gx0 uh umu.length uj uk un2 x8v.L.length un4 p1 fs5 rfl un7 un8 rfl) ?_
  rintro _ w20 ⟨S20, unc, rfl, z20, p20, und⟩
  have une : Els (kT108 gx0) S20 w20 ([.i una.n, unc] : List Value) [una] := by exact (Els.cons (K := (kT108 gx0)) (vs := [.i una.n, unc]) (x := una) ⟨[.i una.n], [unc], rfl, rfl, und⟩ Els.nil)
  refine Op_.made (.buildSlice 104 1 #[(0, (.tmp 44))]) 45 104 (fun b => .slice (Gp (some b)) 1 1) 109 ([.i una.n, unc] : List Value) p20 Goes.v (by kernel_rfl) ?_
  intro unf w21 z21 p21
  have p21 : Hp nz wz S20 w21 (((some unf), .row 109 ([.i una.n, unc] : List Value) (1 * (kT108 gx0).size) 0) :: (some gx0, .row 88 [.slice (Gp uh) umu.length uj] 1 0) :: (uh, .row 46 uk (uj * kT45.size) 0) :: (Gx7, .row 109 u5t (cx7 * (kT108 gx0).size) 0) :: (some gx8, .row 58 (.i x8v.Kind :: U4 x8v.Set [.slice un2 x8v.L.length un4, .i x8v.Min, .i x8v.Max]) 8 0) :: Lr) := p21
  refine guard_some' h fun ung h => ?_
  refine Op_.ap_n (K := (kT108 gx0)) 104 (.tmp 40) (.tmp 45) 46 104 109 3 (.agg #[.i 0, .nilFunc]) 16 x7.length cx7 1 x7 [una] (x7 ++ [una]) (Gp (some unf)) 1 rfl rfl rfl p21 rfl (fx7.ext (z20.trans z21)) Goes.v (by kernel_rfl) (by kernel_rfl) (by kernel_rfl) (by kernel_rfl) rfl (show (0 : Nat) < 2 by decide) (une.ext z21) (src_own p21 (q := 0) rfl) (by have := ung; omega) (by have := ung; omega) ?_
  intro w22 unh uni u5c z22 p22 u5d
  refine Gn 8 [(7, .slice (Gp unh) ((x7 ++ [una]).length) uni), (47, .i (wr .i64 (x38 + 1))), (38, .i (wr .i64 (x38 + 1)))] Juh ?_
  have p22 := p22.dp 0
  have p22 := (((p22.fr 1).fr 1).fr 3).fr 3
  exact Gj 49 [(0, (pt gx0 0)), (2, .i x2), (7, .slice (Gp unh) ((x7 ++ [una]).length) uni), (8, (pt gx8 0)), (37, .i x37), (38, .i (wr .i64 (x38 + 1)))] (un6 _ _ h _ _ (((hx.trans z20).trans z21).trans z22) unh ((x7 ++ [una]).length) uni u5c gx8 un2 x8v.L.length un4 p22 u5d rfl un7 (un8.ext ((z20.trans z21).trans z22)) rfl (fs5.ext ((z20.trans z21).trans z22)) rfl)
 ·
  rw [decide_eq_false h99]
  refine Gn 7 [(48, .slice (Gp Gx7) x7.length cx7), (6, .slice (Gp Gx7) x7.length cx7)] Juo ?_
  obtain rfl := Option.some.inj h
  have p1 := p1.dp 1
  exact Goes.rt Tryz.f58 (.slice (Gp Gx7) x7.length cx7) ⟨S1, Gx7, x7.length, cx7, u5t, rfl, hx, p1, fx7, rfl⟩

def Jup := Zs [1, 1, 1, 1] B58 []
def Juq := Zb 0 Jup
def Qn9 := sub [1, 1, 1, 0, 1, 0, 0] B58
def Jur := Zl Qn9 Juq
def Jus := Zc Qn9 Jur
def Jut := Zs [1, 1, 1, 0, 1, 0, 0, 1, 1] B58 Jur
def Juu := Zs [1, 1, 1, 0, 1, 0, 0, 1, 0] B58 Jut
def Juv := Zs [1, 1, 1, 0, 1, 0, 0, 1, 1, 1] B58 Jur
def Juw := Zb 1 Juv
def Jux := Zt [1, 1, 1, 0, 1, 0, 0, 1, 1, 0, 0] B58 [2, 3, 4, 5, 6] Juw
def Juy := Zs [1, 1, 1, 1, 1] B58 []
def Juz := Zs [1, 1, 1, 1, 0, 1] B58 Juy
def Jv0 := Zt [1, 1, 1, 1, 0, 0] B58 [1, 2] Juz
def Jv1 := Zs [1, 1, 1, 1, 0, 1, 0, 1] B58 Juy
def Jv2 := Zt [1, 1, 1, 1, 0, 1, 0, 0] B58 [2, 3, 4, 5, 6] Jv1
def Jv3 := Zs [1, 1, 1, 1, 1, 0, 1] B58 Jue
def Qnk := sub [1, 1, 1, 1, 1, 0, 0] B58
def Jv4 := Zr Qnk [1, 2, 3, 4, 5] Jv3
def Jv5 := Zr Qnk [3, 4, 5] Jv3

def L.z44 (gx0 : Nat) (uh : Option Nat) (ui : Nat) (uj : Nat) (uk : List Value) : Int × T57 × (List T108) × T57 × Int × Int × (List T45) → (List T108) → Prop := fun ⟨x2, x4v, x7, x8v, x14, x15, umu⟩ r => ∀ S1 w1, Ext S0 w0 S1 w1 → ∀ gx4 unj unk unl Gx7 nx7 cx7 u5t gx8 un2 un3 un4 (_ : Hp nz wz S1 w1 ((some gx4, .row 58 (.i x4v.Kind :: U4 x4v.Set [.slice unj unk unl, .i x4v.Min, .i x4v.Max]) 8 0) :: (Gx7, .row 109 u5t (cx7 * (kT108 gx0).size) 0) :: (some gx8, .row 58 (.i x8v.Kind :: U4 x8v.Set [.slice un2 un3 un4, .i x8v.Min, .i x8v.Max]) 8 0) :: (some gx0, .row 88 [.slice (Gp uh) ui uj] 1 0) :: (uh, .row 46 uk (uj * kT45.size) 0) :: Lr)) (_ : x4v.Set.length = 4) (_ : Rd kT57 S1 w1 unj unl x4v.L) (_ : x4v.L.length = unk) (_ : Els (kT108 gx0) S1 w1 u5t x7) (_ : x7.length = nx7) (_ : x8v.Set.length = 4) (_ : Rd kT57 S1 w1 un2 un4 x8v.L) (_ : x8v.L.length = un3) (_ : Els kT45 S1 w1 uk umu) (_ : umu.length = ui) (junk : Nat → Value),
 Goes Tryz.prog (base 58) Jus ⟨lfr 49 [(0, (pt gx0 0)), (2, .i x2), (4, (pt gx4 0)), (7, .slice (Gp Gx7) nx7 cx7), (8, (pt gx8 0)), (14, .i x14), (15, .i x15)] junk, []⟩ w1 (Done Tryz.prog 58 (Rets (Post.z42 nz wz S0 w0 Lr gx0 uh ui uj uk umu r)))

theorem W.z44 {nz wz S0 w0 Lr} (gx0 : Nat) (uh : Option Nat) (ui : Nat) (uj : Nat) (uk : List Value) : ∀ a r, M.prog_writer_times_l1 a = some r → (L.z44 nz wz S0 w0 Lr gx0 uh ui uj uk) a r := by
 refine M.prog_writer_times_l1.partial_correctness (motive := (L.z44 nz wz S0 w0 Lr gx0 uh ui uj uk)) ?_
 intro unm unn ⟨x2, x4v, x7, x8v, x14, x15, umu⟩ r h S1 w1 hx gx4 unj unk unl Gx7 nx7 cx7 u5t gx8 un2 un3 un4 p1 uno unp unq fx7 lx7 un7 un8 un9 fs8 ls8 junk
 try dsimp only at h
 subst unq
 subst lx7
 subst un9
 subst ls8
 refine Gn 5 [(16, .bool (decide (x15 < x14)))] Juu ?_
 refine ite_some h (fun h53 h => ?_) (fun h53 h => ?_)
 ·
  rw [decide_eq_true h53]
  refine Gn 7 [(17, .slice (Gp Gx7) x7.length cx7), (18, (pt gx0 0))] Jux ?_
  refine Goes.ldN 58 (.tmp 8) 19 58 ⟨gx8, 0, none⟩ (.i x8v.Kind :: U4 x8v.Set [.slice un2 x8v.L.length un4, .i x8v.Min, .i x8v.Max]) (p1.pa 2 0) ?_
  have p1 := (p1.fr 4).fr 4
  refine bind_some' h fun y54 e55 h => ?_
  refine Gc (kc 57 [18, 19] #[86, 58]) 20 109 57 _ (W.z3z umu x8v y54 e55 gx0 uh umu.length uj uk un2 x8v.L.length un4 p1 fs8 rfl un7 un8 rfl) ?_
  rintro _ w11 ⟨S11, unr, rfl, z11, p11, uns⟩
  have f57 : Els (kT108 gx0) S11 w11 ([.i y54.n, unr] : List Value) [y54] := by exact (Els.cons (K := (kT108 gx0)) (vs := [.i y54.n, unr]) (x := y54) ⟨[.i y54.n], [unr], rfl, rfl, uns⟩ Els.nil)
  refine Op_.made (.buildSlice 104 1 #[(0, (.tmp 20))]) 21 104 (fun b => .slice (Gp (some b)) 1 1) 109 ([.i y54.n, unr] : List Value) p11 Goes.v (by kernel_rfl) ?_
  intro b56 w12 z12 p12
  have p12 : Hp nz wz S11 w12 (((some b56), .row 109 ([.i y54.n, unr] : List Value) (1 * (kT108 gx0).size) 0) :: (some gx0, .row 88 [.slice (Gp uh) umu.length uj] 1 0) :: (uh, .row 46 uk (uj * kT45.size) 0) :: (some gx4, .row 58 (.i x4v.Kind :: U4 x4v.Set [.slice unj x4v.L.length unl, .i x4v.Min, .i x4v.Max]) 8 0) :: (Gx7, .row 109 u5t (cx7 * (kT108 gx0).size) 0) :: (some gx8, .row 58 (.i x8v.Kind :: U4 x8v.Set [.slice un2 x8v.L.length un4, .i x8v.Min, .i x8v.Max]) 8 0) :: Lr) := p12
  refine guard_some' h fun g62 h => ?_
  refine Op_.ap_n (K := (kT108 gx0)) 104 (.tmp 17) (.tmp 21) 22 104 109 4 (.agg #[.i 0, .nilFunc]) 16 x7.length cx7 1 x7 [y54] (x7 ++ [y54]) (Gp (some b56)) 1 rfl rfl rfl p12 rfl (fx7.ext (z11.trans z12)) Goes.v (by kernel_rfl) (by kernel_rfl) (by kernel_rfl) (by kernel_rfl) rfl (show (0 : Nat) < 2 by decide) (f57.ext z12) (src_own p12 (q := 0) rfl) (by have := g62; omega) (by have := g62; omega) ?_
  intro w13 G63 c64 u2n z13 p13 f66
  refine Gn 8 [(7, .slice (Gp G63) ((x7 ++ [y54]).length) c64), (23, .i (wr .i64 (x15 + 1))), (15, .i (wr .i64 (x15 + 1)))] Jus ?_
  have p13 := p13.dp 0
  have p13 := ((((p13.fr 1).fr 1).fr 4).fr 4).fr 4
  exact Gj 49 [(0, (pt gx0 0)), (2, .i x2), (4, (pt gx4 0)), (7, .slice (Gp G63) ((x7 ++ [y54]).length) c64), (8, (pt gx8 0)), (14, .i x14), (15, .i (wr .i64 (x15 + 1)))] (unn _ _ h _ _ (((hx.trans z11).trans z12).trans z13) gx4 unj x4v.L.length unl G63 ((x7 ++ [y54]).length) c64 u2n gx8 un2 x8v.L.length un4 p13 uno (unp.ext ((z11.trans z12).trans z13)) rfl f66 rfl un7 (un8.ext ((z11.trans z12).trans z13)) rfl (fs8.ext ((z11.trans z12).trans z13)) rfl)
 ·
  rw [decide_eq_false h53]
  refine Gn 6 [(24, (pt gx4 7))] Jv0 ?_
  refine Goes.ld 3 (.tmp 24) 25 3 ⟨gx4, 7, none⟩ (.i x4v.Max) (p1.c 0 7) ?_
  refine Gn 2 [(26, .bool (decide (x4v.Max < 0)))] Juz ?_
  refine ite_some h (fun h67 h => ?_) (fun h67 h => ?_)
  ·
   rw [decide_eq_true h67]
   refine Gn 5 [(27, .slice (Gp Gx7) x7.length cx7), (28, (pt gx0 0))] Jv2 ?_
   refine Goes.ldN 58 (.tmp 8) 29 58 ⟨gx8, 0, none⟩ (.i x8v.Kind :: U4 x8v.Set [.slice un2 x8v.L.length un4, .i x8v.Min, .i x8v.Max]) (p1.pa 2 0) ?_
   have p1 := (p1.fr 4).fr 4
   refine bind_some' h fun y68 e69 h => ?_
   refine Gc (kc 78 [28, 29] #[86, 58]) 30 109 78 _ (W.z40 umu x8v y68 e69 gx0 uh umu.length uj uk un2 x8v.L.length un4 p1 fs8 rfl un7 un8 rfl) ?_
   rintro _ w14 ⟨S14, unt, rfl, z14, p14, unu⟩
   have p14 := (p14.dp 2).dp 3
   have f71 : Els (kT108 gx0) S14 w14 ([.i y68.n, unt] : List Value) [y68] := by exact (Els.cons (K := (kT108 gx0)) (vs := [.i y68.n, unt]) (x := y68) ⟨[.i y68.n], [unt], rfl, rfl, unu⟩ Els.nil)
   refine Op_.made (.buildSlice 104 1 #[(0, (.tmp 30))]) 31 104 (fun b => .slice (Gp (some b)) 1 1) 109 ([.i y68.n, unt] : List Value) p14 Goes.v (by kernel_rfl) ?_
   intro b70 w15 z15 p15
   have p15 : Hp nz wz S14 w15 (((some b70), .row 109 ([.i y68.n, unt] : List Value) (1 * (kT108 gx0).size) 0) :: (some gx0, .row 88 [.slice (Gp uh) umu.length uj] 1 0) :: (uh, .row 46 uk (uj * kT45.size) 0) :: (Gx7, .row 109 u5t (cx7 * (kT108 gx0).size) 0) :: Lr) := p15
   refine guard_some' h fun g76 h => ?_
   refine Op_.ap_n (K := (kT108 gx0)) 104 (.tmp 27) (.tmp 31) 32 104 109 3 (.agg #[.i 0, .nilFunc]) 16 x7.length cx7 1 x7 [y68] (x7 ++ [y68]) (Gp (some b70)) 1 rfl rfl rfl p15 rfl (fx7.ext (z14.trans z15)) Goes.v (by kernel_rfl) (by kernel_rfl) (by kernel_rfl) (by kernel_rfl) rfl (show (0 : Nat) < 2 by decide) (f71.ext z15) (src_own p15 (q := 0) rfl) (by have := g76; omega) (by have := g76; omega) ?_
   intro w16 G77 c78 u2o z16 p16 f80
   refine Gn 2 [(6, .slice (Gp G77) ((x7 ++ [y68]).length) c78)] Jv1 ?_
   obtain rfl := Option.some.inj h
   have p16 := p16.dp 0
   have p16 := ((p16.fr 1).fr 1).fr 2
   exact Goes.rt Tryz.f58 (.slice (Gp G77) ((x7 ++ [y68]).length) c78) ⟨S14, G77, (x7 ++ [y68]).length, c78, u2o, rfl, (((hx.trans z14).trans z15).trans z16), p16, f80, rfl⟩
  ·
   rw [decide_eq_false h67]
   refine Gn 6 [(33, (pt gx4 7))] Jv4 ?_
   refine Goes.ld 3 (.tmp 33) 34 3 ⟨gx4, 7, none⟩ (.i x4v.Max) (p1.c 0 7) ?_
   refine Gn 1 [(35, (pt gx4 6))] Jv5 ?_
   refine Goes.ld 3 (.tmp 35) 36 3 ⟨gx4, 6, none⟩ (.i x4v.Min) (p1.c 0 6) ?_
   refine Gn 5 [(37, .i (wr .i64 (x4v.Max - x4v.Min))), (38, .i 0)] Juh ?_
   have p1 := p1.dp 0
   exact Gj 49 [(0, (pt gx0 0)), (2, .i x2), (7, .slice (Gp Gx7) x7.length cx7), (8, (pt gx8 0)), (37, .i (wr .i64 (x4v.Max - x4v.Min))), (38, .i 0)] (W.z43 gx0 uh umu.length uj uk _ _ h _ _ hx Gx7 x7.length cx7 u5t gx8 un2 x8v.L.length un4 p1 fx7 rfl un7 un8 rfl fs8 rfl)

def L.z45 (gx0 : Nat) (uh : Option Nat) (ui : Nat) (uj : Nat) (uk : List Value) : Int × T57 × Int × Int × (List T45) → (List T108) → Prop := fun ⟨x2, x8v, x37, x38, umu⟩ r => ∀ S1 w1, Ext S0 w0 S1 w1 → ∀ gx8 un2 un3 un4 (_ : Hp nz wz S1 w1 ((some gx8, .row 58 (.i x8v.Kind :: U4 x8v.Set [.slice un2 un3 un4, .i x8v.Min, .i x8v.Max]) 8 0) :: (some gx0, .row 88 [.slice (Gp uh) ui uj] 1 0) :: (uh, .row 46 uk (uj * kT45.size) 0) :: Lr)) (_ : x8v.Set.length = 4) (_ : Rd kT57 S1 w1 un2 un4 x8v.L) (_ : x8v.L.length = un3) (_ : Els kT45 S1 w1 uk umu) (_ : umu.length = ui) (junk : Nat → Value),
 Goes Tryz.prog (base 58) Juh ⟨lfr 49 [(0, (pt gx0 0)), (2, .i x2), (7, .slice none 0 0), (8, (pt gx8 0)), (37, .i x37), (38, .i x38)] junk, []⟩ w1 (Done Tryz.prog 58 (Rets (Post.z42 nz wz S0 w0 Lr gx0 uh ui uj uk umu r)))

theorem W.z45 {nz wz S0 w0 Lr} (gx0 : Nat) (uh : Option Nat) (ui : Nat) (uj : Nat) (uk : List Value) : ∀ a r, M.prog_writer_times_l2 a = some r → L.z45 nz wz S0 w0 Lr gx0 uh ui uj uk a r := by
 intro ⟨x2, x8v, x37, x38, umu⟩ r h S1 w1 hx gx8 un2 un3 un4 p1 un7 un8 un9 fs3 ls3 junk
 rw [M.prog_writer_times_l2] at h
 try dsimp only at h
 subst un9
 subst ls3
 refine Gn 5 [(39, .bool (decide (x38 < x37)))] Juj ?_
 refine ite_some h (fun h83 h => ?_) (fun h83 h => ?_)
 ·
  rw [decide_eq_true h83]
  refine Gn 7 [(40, .slice none 0 0), (41, (pt gx0 0))] Jum ?_
  refine Goes.ldN 58 (.tmp 8) 42 58 ⟨gx8, 0, none⟩ (.i x8v.Kind :: U4 x8v.Set [.slice un2 x8v.L.length un4, .i x8v.Min, .i x8v.Max]) (p1.pa 0 0) ?_
  refine Gn 1 [(43, .i x2)] Jun ?_
  have p1 := (p1.fr 2).fr 2
  refine bind_some' h fun y84 e85 h => ?_
  refine Gc (kc 79 [41, 42, 43] #[86, 58, 3]) 44 109 79 _ (W.z41 umu x8v x2 y84 e85 gx0 uh umu.length uj uk un2 x8v.L.length un4 p1 fs3 rfl un7 un8 rfl) ?_
  rintro _ w17 ⟨S17, unv, rfl, z17, p17, unw⟩
  have f87 : Els (kT108 gx0) S17 w17 ([.i y84.n, unv] : List Value) [y84] := by exact (Els.cons (K := (kT108 gx0)) (vs := [.i y84.n, unv]) (x := y84) ⟨[.i y84.n], [unv], rfl, rfl, unw⟩ Els.nil)
  refine Op_.made (.buildSlice 104 1 #[(0, (.tmp 44))]) 45 104 (fun b => .slice (Gp (some b)) 1 1) 109 ([.i y84.n, unv] : List Value) p17 Goes.v (by kernel_rfl) ?_
  intro b86 w18 z18 p18
  have p18 : Hp nz wz S17 w18 (((some b86), .row 109 ([.i y84.n, unv] : List Value) (1 * (kT108 gx0).size) 0) :: (some gx0, .row 88 [.slice (Gp uh) umu.length uj] 1 0) :: (uh, .row 46 uk (uj * kT45.size) 0) :: (some gx8, .row 58 (.i x8v.Kind :: U4 x8v.Set [.slice un2 x8v.L.length un4, .i x8v.Min, .i x8v.Max]) 8 0) :: Lr) := p18
  have p18 : Hp nz wz S17 w18 ((none, .row 109 [] (0 * (kT108 gx0).size) 0) :: ((some b86), .row 109 ([.i y84.n, unv] : List Value) (1 * (kT108 gx0).size) 0) :: (some gx0, .row 88 [.slice (Gp uh) umu.length uj] 1 0) :: (uh, .row 46 uk (uj * kT45.size) 0) :: (some gx8, .row 58 (.i x8v.Kind :: U4 x8v.Set [.slice un2 x8v.L.length un4, .i x8v.Min, .i x8v.Max]) 8 0) :: Lr) := p18.nilRow' 109
  refine guard_some' h fun g93 h => ?_
  refine Op_.ap_n (K := (kT108 gx0)) 104 (.tmp 40) (.tmp 45) 46 104 109 0 (.agg #[.i 0, .nilFunc]) 16 0 0 1 ([] : List T108) [y84] [y84] (Gp (some b86)) 1 rfl rfl (List.nil_append _) p18 rfl (Els.nil (K := (kT108 gx0))) Goes.v (by kernel_rfl) (by kernel_rfl) (by kernel_rfl) (by kernel_rfl) rfl (show (0 : Nat) < 2 by decide) (f87.ext z18) (src_own p18 (q := 1) rfl) (by have := g93; omega) (by have := g93; omega) ?_
  intro w19 G94 c95 unx z19 p19 f97
  refine Gn 8 [(7, .slice (Gp G94) ([y84].length) c95), (47, .i (wr .i64 (x38 + 1))), (38, .i (wr .i64 (x38 + 1)))] Juh ?_
  have p19 := p19.dp 1
  have p19 := (((p19.fr 2).fr 2).fr 3).fr 3
  exact Gj 49 [(0, (pt gx0 0)), (2, .i x2), (7, .slice (Gp G94) ([y84].length) c95), (8, (pt gx8 0)), (37, .i x37), (38, .i (wr .i64 (x38 + 1)))] (W.z43 gx0 uh umu.length uj uk _ _ h _ _ (((hx.trans z17).trans z18).trans z19) G94 ([y84].length) c95 unx gx8 un2 x8v.L.length un4 p19 f97 rfl un7 (un8.ext ((z17.trans z18).trans z19)) rfl (fs3.ext ((z17.trans z18).trans z19)) rfl)
 ·
  rw [decide_eq_false h83]
  refine Gn 7 [(48, .slice none 0 0), (6, .slice none 0 0)] Juo ?_
  have p1 : Hp nz wz S1 w1 ((none, .row 109 [] (0 * (kT108 gx0).size) 0) :: (some gx8, .row 58 (.i x8v.Kind :: U4 x8v.Set [.slice un2 x8v.L.length un4, .i x8v.Min, .i x8v.Max]) 8 0) :: (some gx0, .row 88 [.slice (Gp uh) umu.length uj] 1 0) :: (uh, .row 46 uk (uj * kT45.size) 0) :: Lr) := p1.nilRow' 109
  obtain rfl := Option.some.inj h
  have p1 := p1.dp 1
  exact Goes.rt Tryz.f58 (.slice (Gp none) 0 0) ⟨S1, none, 0, 0, [], rfl, hx, p1, (Els.nil (K := (kT108 gx0))), rfl⟩

def L.z46 (gx0 : Nat) (uh : Option Nat) (ui : Nat) (uj : Nat) (uk : List Value) : Int × T57 × T57 × Int × Int × (List T45) → (List T108) → Prop := fun ⟨x2, x4v, x8v, x14, x15, umu⟩ r => ∀ S1 w1, Ext S0 w0 S1 w1 → ∀ gx4 unj unk unl gx8 un2 un3 un4 (_ : Hp nz wz S1 w1 ((some gx4, .row 58 (.i x4v.Kind :: U4 x4v.Set [.slice unj unk unl, .i x4v.Min, .i x4v.Max]) 8 0) :: (some gx8, .row 58 (.i x8v.Kind :: U4 x8v.Set [.slice un2 un3 un4, .i x8v.Min, .i x8v.Max]) 8 0) :: (some gx0, .row 88 [.slice (Gp uh) ui uj] 1 0) :: (uh, .row 46 uk (uj * kT45.size) 0) :: Lr)) (_ : x4v.Set.length = 4) (_ : Rd kT57 S1 w1 unj unl x4v.L) (_ : x4v.L.length = unk) (_ : x8v.Set.length = 4) (_ : Rd kT57 S1 w1 un2 un4 x8v.L) (_ : x8v.L.length = un3) (_ : Els kT45 S1 w1 uk umu) (_ : umu.length = ui) (junk : Nat → Value),
 Goes Tryz.prog (base 58) Jus ⟨lfr 49 [(0, (pt gx0 0)), (2, .i x2), (4, (pt gx4 0)), (7, .slice none 0 0), (8, (pt gx8 0)), (14, .i x14), (15, .i x15)] junk, []⟩ w1 (Done Tryz.prog 58 (Rets (Post.z42 nz wz S0 w0 Lr gx0 uh ui uj uk umu r)))

theorem W.z46 {nz wz S0 w0 Lr} (gx0 : Nat) (uh : Option Nat) (ui : Nat) (uj : Nat) (uk : List Value) : ∀ a r, M.prog_writer_times_l0 a = some r → L.z46 nz wz S0 w0 Lr gx0 uh ui uj uk a r := by
 intro ⟨x2, x4v, x8v, x14, x15, umu⟩ r h S1 w1 hx gx4 unj unk unl gx8 un2 un3 un4 p1 uno unp unq un7 un8 un9 fs6 ls6 junk
 rw [M.prog_writer_times_l0] at h
 try dsimp only at h
 subst unq
 subst un9
 subst ls6
 refine Gn 5 [(16, .bool (decide (x15 < x14)))] Juu ?_
 refine ite_some h (fun h19 h => ?_) (fun h19 h => ?_)
 ·
  rw [decide_eq_true h19]
  refine Gn 7 [(17, .slice none 0 0), (18, (pt gx0 0))] Jux ?_
  refine Goes.ldN 58 (.tmp 8) 19 58 ⟨gx8, 0, none⟩ (.i x8v.Kind :: U4 x8v.Set [.slice un2 x8v.L.length un4, .i x8v.Min, .i x8v.Max]) (p1.pa 1 0) ?_
  have p1 := (p1.fr 3).fr 3
  refine bind_some' h fun y20 e21 h => ?_
  refine Gc (kc 57 [18, 19] #[86, 58]) 20 109 57 _ (W.z3z umu x8v y20 e21 gx0 uh umu.length uj uk un2 x8v.L.length un4 p1 fs6 rfl un7 un8 rfl) ?_
  rintro _ w5 ⟨S5, uny, rfl, z5, p5, unz⟩
  have f23 : Els (kT108 gx0) S5 w5 ([.i y20.n, uny] : List Value) [y20] := by exact (Els.cons (K := (kT108 gx0)) (vs := [.i y20.n, uny]) (x := y20) ⟨[.i y20.n], [uny], rfl, rfl, unz⟩ Els.nil)
  refine Op_.made (.buildSlice 104 1 #[(0, (.tmp 20))]) 21 104 (fun b => .slice (Gp (some b)) 1 1) 109 ([.i y20.n, uny] : List Value) p5 Goes.v (by kernel_rfl) ?_
  intro b22 w6 z6 p6
  have p6 : Hp nz wz S5 w6 (((some b22), .row 109 ([.i y20.n, uny] : List Value) (1 * (kT108 gx0).size) 0) :: (some gx0, .row 88 [.slice (Gp uh) umu.length uj] 1 0) :: (uh, .row 46 uk (uj * kT45.size) 0) :: (some gx4, .row 58 (.i x4v.Kind :: U4 x4v.Set [.slice unj x4v.L.length unl, .i x4v.Min, .i x4v.Max]) 8 0) :: (some gx8, .row 58 (.i x8v.Kind :: U4 x8v.Set [.slice un2 x8v.L.length un4, .i x8v.Min, .i x8v.Max]) 8 0) :: Lr) := p6
  have p6 : Hp nz wz S5 w6 ((none, .row 109 [] (0 * (kT108 gx0).size) 0) :: ((some b22), .row 109 ([.i y20.n, uny] : List Value) (1 * (kT108 gx0).size) 0) :: (some gx0, .row 88 [.slice (Gp uh) umu.length uj] 1 0) :: (uh, .row 46 uk (uj * kT45.size) 0) :: (some gx4, .row 58 (.i x4v.Kind :: U4 x4v.Set [.slice unj x4v.L.length unl, .i x4v.Min, .i x4v.Max]) 8 0) :: (some gx8, .row 58 (.i x8v.Kind :: U4 x8v.Set [.slice un2 x8v.L.length un4, .i x8v.Min, .i x8v.Max]) 8 0) :: Lr) := p6.nilRow' 109
  refine guard_some' h fun g29 h => ?_
  refine Op_.ap_n (K := (kT108 gx0)) 104 (.tmp 17) (.tmp 21) 22 104 109 0 (.agg #[.i 0, .nilFunc]) 16 0 0 1 ([] : List T108) [y20] [y20] (Gp (some b22)) 1 rfl rfl (List.nil_append _) p6 rfl (Els.nil (K := (kT108 gx0))) Goes.v (by kernel_rfl) (by kernel_rfl) (by kernel_rfl) (by kernel_rfl) rfl (show (0 : Nat) < 2 by decide) (f23.ext z6) (src_own p6 (q := 1) rfl) (by have := g29; omega) (by have := g29; omega) ?_
  intro w7 G30 c31 u6b z7 p7 f33
  refine Gn 8 [(7, .slice (Gp G30) ([y20].length) c31), (23, .i (wr .i64 (x15 + 1))), (15, .i (wr .i64 (x15 + 1)))] Jus ?_
  have p7 := p7.dp 1
  have p7 := ((((p7.fr 2).fr 2).fr 4).fr 3).fr 4
  exact Gj 49 [(0, (pt gx0 0)), (2, .i x2), (4, (pt gx4 0)), (7, .slice (Gp G30) ([y20].length) c31), (8, (pt gx8 0)), (14, .i x14), (15, .i (wr .i64 (x15 + 1)))] (W.z44 gx0 uh umu.length uj uk _ _ h _ _ (((hx.trans z5).trans z6).trans z7) gx4 unj x4v.L.length unl G30 ([y20].length) c31 u6b gx8 un2 x8v.L.length un4 p7 uno (unp.ext ((z5.trans z6).trans z7)) rfl f33 rfl un7 (un8.ext ((z5.trans z6).trans z7)) rfl (fs6.ext ((z5.trans z6).trans z7)) rfl)
 ·
  rw [decide_eq_false h19]
  refine Gn 6 [(24, (pt gx4 7))] Jv0 ?_
  refine Goes.ld 3 (.tmp 24) 25 3 ⟨gx4, 7, none⟩ (.i x4v.Max) (p1.c 0 7) ?_
  refine Gn 2 [(26, .bool (decide (x4v.Max < 0)))] Juz ?_
  refine ite_some h (fun h37 h => ?_) (fun h37 h => ?_)
  ·
   rw [decide_eq_true h37]
   refine Gn 5 [(27, .slice none 0 0), (28, (pt gx0 0))] Jv2 ?_
   refine Goes.ldN 58 (.tmp 8) 29 58 ⟨gx8, 0, none⟩ (.i x8v.Kind :: U4 x8v.Set [.slice un2 x8v.L.length un4, .i x8v.Min, .i x8v.Max]) (p1.pa 1 0) ?_
   have p1 := (p1.fr 3).fr 3
   refine bind_some' h fun y38 e39 h => ?_
   refine Gc (kc 78 [28, 29] #[86, 58]) 30 109 78 _ (W.z40 umu x8v y38 e39 gx0 uh umu.length uj uk un2 x8v.L.length un4 p1 fs6 rfl un7 un8 rfl) ?_
   rintro _ w8 ⟨S8, uo0, rfl, z8, p8, uo1⟩
   have p8 := (p8.dp 2).dp 2
   have f41 : Els (kT108 gx0) S8 w8 ([.i y38.n, uo0] : List Value) [y38] := by exact (Els.cons (K := (kT108 gx0)) (vs := [.i y38.n, uo0]) (x := y38) ⟨[.i y38.n], [uo0], rfl, rfl, uo1⟩ Els.nil)
   refine Op_.made (.buildSlice 104 1 #[(0, (.tmp 30))]) 31 104 (fun b => .slice (Gp (some b)) 1 1) 109 ([.i y38.n, uo0] : List Value) p8 Goes.v (by kernel_rfl) ?_
   intro b40 w9 z9 p9
   have p9 : Hp nz wz S8 w9 (((some b40), .row 109 ([.i y38.n, uo0] : List Value) (1 * (kT108 gx0).size) 0) :: (some gx0, .row 88 [.slice (Gp uh) umu.length uj] 1 0) :: (uh, .row 46 uk (uj * kT45.size) 0) :: Lr) := p9
   have p9 : Hp nz wz S8 w9 ((none, .row 109 [] (0 * (kT108 gx0).size) 0) :: ((some b40), .row 109 ([.i y38.n, uo0] : List Value) (1 * (kT108 gx0).size) 0) :: (some gx0, .row 88 [.slice (Gp uh) umu.length uj] 1 0) :: (uh, .row 46 uk (uj * kT45.size) 0) :: Lr) := p9.nilRow' 109
   refine guard_some' h fun g47 h => ?_
   refine Op_.ap_n (K := (kT108 gx0)) 104 (.tmp 27) (.tmp 31) 32 104 109 0 (.agg #[.i 0, .nilFunc]) 16 0 0 1 ([] : List T108) [y38] [y38] (Gp (some b40)) 1 rfl rfl (List.nil_append _) p9 rfl (Els.nil (K := (kT108 gx0))) Goes.v (by kernel_rfl) (by kernel_rfl) (by kernel_rfl) (by kernel_rfl) rfl (show (0 : Nat) < 2 by decide) (f41.ext z9) (src_own p9 (q := 1) rfl) (by have := g47; omega) (by have := g47; omega) ?_
   intro w10 G48 c49 uo2 z10 p10 f51
   refine Gn 2 [(6, .slice (Gp G48) ([y38].length) c49)] Jv1 ?_
   obtain rfl := Option.some.inj h
   have p10 := p10.dp 1
   exact Goes.rt Tryz.f58 (.slice (Gp G48) ([y38].length) c49) ⟨S8, G48, [y38].length, c49, uo2, rfl, (((hx.trans z8).trans z9).trans z10), p10, f51, rfl⟩
  ·
   rw [decide_eq_false h37]
   refine Gn 6 [(33, (pt gx4 7))] Jv4 ?_
   refine Goes.ld 3 (.tmp 33) 34 3 ⟨gx4, 7, none⟩ (.i x4v.Max) (p1.c 0 7) ?_
   refine Gn 1 [(35, (pt gx4 6))] Jv5 ?_
   refine Goes.ld 3 (.tmp 35) 36 3 ⟨gx4, 6, none⟩ (.i x4v.Min) (p1.c 0 6) ?_
   refine Gn 5 [(37, .i (wr .i64 (x4v.Max - x4v.Min))), (38, .i 0)] Juh ?_
   have p1 := p1.dp 0
   exact Gj 49 [(0, (pt gx0 0)), (2, .i x2), (7, .slice none 0 0), (8, (pt gx8 0)), (37, .i (wr .i64 (x4v.Max - x4v.Min))), (38, .i 0)] (W.z45 gx0 uh umu.length uj uk _ _ h _ _ hx gx8 un2 x8v.L.length un4 p1 un7 un8 rfl fs6 rfl)

def Jv6 := Zs [1] B58 []
def Jv7 := Zt [0] B58 [0, 1] Jv6
def Jv8 := Zs [1, 1, 1] B58 []
def Jv9 := Zt [1, 1, 0] B58 [1, 2, 3, 4, 5] Jv8
def Jva := Zs [1, 1, 1, 0, 1] B58 Jup
def Jvb := Zt [1, 1, 1, 0, 0] B58 [1, 2] Jva

theorem W.z42 (umu : List T45) (x1 : T57) (x2 : Int) (r : List T108) (h : M.prog_writer_times umu x1 x2 = some r) {nz wz S0 w0 Lr} (gx0 uh ui uj uk umx umy umz) (p0 : Hp nz wz S0 w0 ((some gx0, .row 88 [.slice (Gp uh) ui uj] 1 0) :: (uh, .row 46 uk (uj * kT45.size) 0) :: Lr)) (u14 : Els kT45 S0 w0 uk umu) (u15 : umu.length = ui) (umv : x1.Set.length = 4) (un0 : Rd kT57 S0 w0 umx umz x1.L) (un1 : x1.L.length = umy) :
  Calls Tryz.prog 58 #[(pt gx0 0), (ag (.i x1.Kind :: U4 x1.Set [.slice umx umy umz, .i x1.Min, .i x1.Max])), .i x2] w0 (Rets (Post.z42 nz wz S0 w0 Lr gx0 uh ui uj uk umu r)) := by
 subst u15
 subst un1
 refine Zf Tryz.f58 B58 46 ?_
 refine Gj 49 [(0, (pt gx0 0)), (1, (ag (.i x1.Kind :: U4 x1.Set [.slice umx x1.L.length umz, .i x1.Min, .i x1.Max]))), (2, .i x2)] fun junk => ?_
 delta M.prog_writer_times at h
 refine Gn 2 [] Jv7 ?_
 refine Op_.box 58 (.tmp 1) 4 0 (ag (.i x1.Kind :: U4 x1.Set [.slice umx x1.L.length umz, .i x1.Min, .i x1.Max])) (.i x1.Kind :: U4 x1.Set [.slice umx x1.L.length umz, .i x1.Min, .i x1.Max]) p0 Goes.v (by kernel_rfl) (by kernel_rfl) ?_
 intro b3 w2 z2 p2
 refine Gn 9 [(6, .slice none 0 0), (7, .slice none 0 0), (9, (pt b3 5))] Jv9 ?_
 refine Goes.ld 56 (.tmp 9) 10 56 ⟨b3, 5, none⟩ (.slice umx x1.L.length umz) (p2.c 0 5) ?_
 refine guard_some' h fun g5 h => ?_
 refine Op_.ixR_n 56 (.tmp 10) (.const (.int .i64 0)) 11 0 58 .i64 0 (gi x1.L 0) rfl rfl (un0.ext z2) Goes.v (by kernel_rfl) (by kernel_rfl) (by kernel_rfl) (by kernel_rfl) (by decide : (0 : Int) ≤ 0) g5 ?_
 intro a6 _ f7 q8
 have q9 := q8
 obtain ⟨_, _, rfl, rfl, ⟨_, _, rfl, ⟨l10, f11⟩, ⟨_, _, rfl, ⟨A12, c13, rfl, f14⟩, ⟨_, _, rfl, rfl, rfl⟩⟩⟩⟩ := kT57_open q9
 obtain rfl := els_lit4' f11 l10
 refine Goes.ldN 58 (.tmp 11) 12 58 a6 ([.i ((gi x1.L 0).Kind)] ++ ((U4 ((gi x1.L 0).Set) []) ++ ([.slice A12 (((gi x1.L 0).L).length) c13] ++ ([.i ((gi x1.L 0).Min)] ++ [.i ((gi x1.L 0).Max)])))) (f7.cell) ?_
 refine Op_.alloc 58 8 0 (.agg #[.i 0, .u 0, .u 0, .u 0, .u 0, .slice none 0 0, .i 0, .i 0]) [.i 0, .u 0, .u 0, .u 0, .u 0, .slice none 0 0, .i 0, .i 0] p2 Goes.v (by kernel_rfl) (by kernel_rfl) ?_
 intro b15 w3 z3 p3
 refine So 58 (.tmp 8) (.tmp 12) 0 0 b15 0 (ag (.i ((gi x1.L 0).Kind) :: U4 ((gi x1.L 0).Set) [.slice A12 (((gi x1.L 0).L).length) c13, .i ((gi x1.L 0).Min), .i ((gi x1.L 0).Max)])) (.i ((gi x1.L 0).Kind) :: U4 ((gi x1.L 0).Set) [.slice A12 (((gi x1.L 0).L).length) c13, .i ((gi x1.L 0).Min), .i ((gi x1.L 0).Max)]) p3 rfl Goes.s ?_
 intro w4 z4 p4
 have p4 : Hp nz wz S0 w4 ((some b15, .row 58 (.i ((gi x1.L 0).Kind) :: U4 ((gi x1.L 0).Set) [.slice A12 (((gi x1.L 0).L).length) c13, .i ((gi x1.L 0).Min), .i ((gi x1.L 0).Max)]) 8 0) :: (some b3, .row 58 (.i x1.Kind :: U4 x1.Set [.slice umx x1.L.length umz, .i x1.Min, .i x1.Max]) 8 0) :: (some gx0, .row 88 [.slice (Gp uh) umu.length uj] 1 0) :: (uh, .row 46 uk (uj * kT45.size) 0) :: Lr) := p4
 refine Gn 5 [(13, (pt b3 6))] Jvb ?_
 refine Goes.ld 3 (.tmp 13) 14 3 ⟨b3, 6, none⟩ (.i x1.Min) (p4.c 1 6) ?_
 refine Gn 4 [(15, .i 0)] Jus ?_
 have p4 := (((p4.fr 3).fr 3).fr 2).fr 3
 exact Gj 49 [(0, (pt gx0 0)), (2, .i x2), (4, (pt b3 0)), (7, .slice none 0 0), (8, (pt b15 0)), (14, .i x1.Min), (15, .i 0)] (W.z46 gx0 uh umu.length uj uk _ _ h _ _ ((((Ext.refl S0 w0).trans z2).trans z3).trans z4) b3 umx x1.L.length umz b15 A12 (((gi x1.L 0).L).length) c13 p4 umv (un0.ext ((z2.trans z3).trans z4)) rfl l10 (f14.ext (z3.trans z4)) rfl (u14.ext ((z2.trans z3).trans z4)) rfl)

def Jvc := Zs [1] B56 []
def Jvd := Zb 0 Jvc
def Qns := sub [0, 1, 0, 0] B56
def Jve := Zl Qns Jvd
def Jvf := Zc Qns Jve
def Jvg := Zs [0, 1, 0, 0, 1, 1, 1] B56 Jve
def Jvh := Zb 1 Jvg
def Qnu := sub [0, 1, 0, 0, 1, 1, 0, 0, 1, 1] B56
def Jvi := Zc Qnu Jvh
def Jvj := Zs [1, 1, 1] B39 []
def Jvk := Zb 0 Jvj
def Jvl := Zb 1 Jvk
def Qnw := sub [1, 1, 0, 1, 0, 1, 1, 1, 1, 1, 0, 1, 0, 0] B39
def Jvm := Zl Qnw Jvl
def Jvn := Zc Qnw Jvm
def Qnx := sub [1, 0, 0] B59
def Jvo := Zl Qnx J2g
def Jvp := Zc Qnx Jvo
def Jvq := Zs [1, 0, 0, 1, 1, 1] B59 Jvo
def Jvr := Zb 1 Jvq
def Qnz := sub [1, 0, 0, 1, 1, 0, 0, 1, 1, 1] B59
def Jvs := Zc Qnz Jvr
def Jvt := Zs [1] B39 []
def Jvu := Zt [0] B39 [0] Jvt
def Jvv := Zs [1, 1, 0, 1] B39 Jvj
def Jvw := Zt [1, 1, 0, 0] B39 [1] Jvv
def Jvx := Zs [1, 1, 0, 1, 0, 1] B39 Jvk
def Jvy := Zs [1, 1, 0, 1, 0, 1, 0, 1] B39 Jvk
def Qo6 := sub [1, 1, 0, 1, 0, 1, 0, 0] B39
def Jvz := Zr Qo6 [2, 3, 4, 5] Jvy
def Jw0 := Zr Qo6 [5] Jvy
def Jw1 := Zs [1, 1, 0, 1, 0, 1, 1, 1] B39 Jvk
def Jw2 := Zs [1, 1, 0, 1, 0, 1, 1, 1, 0, 1] B39 Jvk
def Qo9 := sub [1, 1, 0, 1, 0, 1, 1, 1, 0, 0] B39
def Jw3 := Zr Qo9 [2, 3, 4] Jw2
def Jw4 := Zr Qo9 [4] Jw2
def Jw5 := Zs [1, 1, 0, 1, 0, 1, 1, 1, 1, 1] B39 Jvk
def Jw6 := Zs [1, 1, 0, 1, 0, 1, 1, 1, 1, 1, 0, 1] B39 Jvk
def Jw7 := Zt [1, 1, 0, 1, 0, 1, 1, 1, 1, 1, 0, 0] B39 [1, 2, 3] Jw6
def Jw8 := Zs [1, 1, 0, 1, 0, 1, 1, 1, 1, 1, 1, 1] B39 Jvk
def Qoe := sub [1, 1, 0, 1, 0, 1, 1, 1, 1, 1, 1, 1, 0] B39
def Jw9 := Zr Qoe [1, 2, 3, 4] Jvk
def Jwa := Zr Qoe [3, 4] Jvk
def Qof := sub [1, 1, 1, 1] B39
def Jwb := Zc Qof []
def Jwc := Zt [1, 1, 1, 0, 1, 0] B39 [3] Jwb
def Jwd := Zr Qof [3] []
def Jwe := Zs [1, 0, 0, 1, 1] B59 Jvo
def Jwf := Zs [1, 0, 0, 1, 0] B59 Jwe
def Jwg := Zs [1, 0, 0, 1, 1, 0, 0, 1] B59 Jvr
def Qok := sub [1, 0, 0, 1, 1, 0, 0, 0] B59
def Jwh := Zr Qok [1, 2, 3, 4, 5] Jwg
def Jwi := Zr Qok [5] Jwg
def Jwj := Zs [1, 0, 0, 1, 1, 0, 0, 1, 1, 0, 1] B59 Jvs
def Jwk := Zt [1, 0, 0, 1, 1, 0, 0, 1, 1, 0, 0] B59 [] Jwj
def Jwl := Zs [1, 0, 0, 1, 1, 0, 0, 1, 1, 0, 1, 0] B59 Jvs
def Jwm := Zr Qnz [1, 2, 3] Jvr
def Jwn := Zr Qnz [3] Jvr
def Qoo := sub [1] B91
def Jwo := Zc Qoo []
def Jwp := Zs [0] B91 Jwo
def Jwq := Zr Qoo [0, 1, 2, 3] []
def Jwr := Zr Qoo [3] []
def Qoq := sub [1] B90
def Jws := Zc Qoq []
def Jwt := Zs [0] B90 Jws
def Jwu := Zr Qoq [0, 1, 2, 3] []
def Jwv := Zr Qoq [3] []
def Qos := sub [] B77
def Jww := Zr Qos [0, 1, 2, 3] []
def Jwx := Zr Qos [3] []
def Jwy := Zs [1, 1, 1, 0, 1] B39 Jwb
def Jwz := Zs [1, 1, 0, 1, 0, 1, 1, 1, 1, 1, 0, 1, 0, 0, 1, 1] B39 Jvm
def Jx0 := Zs [1, 1, 0, 1, 0, 1, 1, 1, 1, 1, 0, 1, 0, 0, 1, 0] B39 Jwz
def Jx1 := Zs [1, 1, 0, 1, 0, 1, 1, 1, 1, 1, 0, 1, 0, 0, 1, 1, 1] B39 Jvm
def Jx2 := Zb 2 Jx1
def Qox := sub [1, 1, 0, 1, 0, 1, 1, 1, 1, 1, 0, 1, 0, 0, 1, 1, 0, 0, 1] B39
def Jx3 := Zc Qox Jx2
def Jx4 := Zt [1, 1, 0, 1, 0, 1, 1, 1, 1, 1, 0, 1, 0, 0, 1, 1, 0, 0, 0] B39 [0, 1, 2, 3] Jx3
def Jx5 := Zr Qox [2, 3, 4, 5, 6] Jx2
def Jx6 := Zs [0, 1, 0, 0, 1, 1] B56 Jve
def Jx7 := Zs [0, 1, 0, 0, 1, 0] B56 Jx6
def Jx8 := Zs [0, 1, 0, 0, 1, 1, 0, 0, 1] B56 Jvh
def Qp2 := sub [0, 1, 0, 0, 1, 1, 0, 0, 0] B56
def Jx9 := Zr Qp2 [1, 2, 3, 4, 5] Jx8
def Jxa := Zr Qp2 [5] Jx8
def Jxb := Zs [0, 1, 0, 0, 1, 1, 0, 0, 1, 0, 1] B56 Jvi
def Qp4 := sub [0, 1, 0, 0, 1, 1, 0, 0, 1, 0, 1, 0, 1] B56
def Jxc := Zc Qp4 Jvi
def Jxd := Zt [0, 1, 0, 0, 1, 1, 0, 0, 1, 0, 1, 0, 0] B56 [3, 4, 5, 6] Jxc
def Jxe := Zr Qp4 [3, 4, 5, 6, 7] Jvi
def Jxf := Zr Qp4 [7] Jvi
def Jxg := Zs [1, 1] B56 []
def Jxh := Zt [1, 1, 0] B56 [3] []
def Jxi := Zr Qnu [1, 2, 3] Jvh
def Jxj := Zr Qnu [3] Jvh

def Post.z47 (gx0 : Nat) (r : List T45) (v : Value) (w' : World) : Prop :=
 ∃ S' u1e u1f u1g u1h, v = .tuple #[] ∧ Ext S0 w0 S' w' ∧ Hp nz wz S' w' ((some gx0, .row 88 [.slice (Gp u1e) u1f u1g] 1 0) :: (u1e, .row 46 u1h (u1g * kT45.size) 0) :: Lr) ∧ Els kT45 S' w' u1h r ∧ r.length = u1f

def Post.z48 (gx0 : Nat) (r : List T45) (v : Value) (w' : World) : Prop :=
 ∃ S' u1e u1f u1g u1h, v = .tuple #[] ∧ Ext S0 w0 S' w' ∧ Hp nz wz S' w' ((some gx0, .row 88 [.slice (Gp u1e) u1f u1g] 1 0) :: (u1e, .row 46 u1h (u1g * kT45.size) 0) :: Lr) ∧ Els kT45 S' w' u1h r ∧ r.length = u1f

def Post.z49 (gx0 : Nat) (r : List T45) (v : Value) (w' : World) : Prop :=
 ∃ S' u1e u1f u1g u1h, v = .tuple #[] ∧ Ext S0 w0 S' w' ∧ Hp nz wz S' w' ((some gx0, .row 88 [.slice (Gp u1e) u1f u1g] 1 0) :: (u1e, .row 46 u1h (u1g * kT45.size) 0) :: Lr) ∧ Els kT45 S' w' u1h r ∧ r.length = u1f

def Post.z4a (gx1 : Nat) (r : List T45) (v : Value) (w' : World) : Prop :=
 ∃ S' u1e u1f u1g u1h, v = .tuple #[] ∧ Ext S0 w0 S' w' ∧ Hp nz wz S' w' ((some gx1, .row 88 [.slice (Gp u1e) u1f u1g] 1 0) :: (u1e, .row 46 u1h (u1g * kT45.size) 0) :: Lr) ∧ Els kT45 S' w' u1h r ∧ r.length = u1f

def Post.z4b (gx1 : Nat) (r : List T45) (v : Value) (w' : World) : Prop :=
 ∃ S' u1e u1f u1g u1h, v = .tuple #[] ∧ Ext S0 w0 S' w' ∧ Hp nz wz S' w' ((some gx1, .row 88 [.slice (Gp u1e) u1f u1g] 1 0) :: (u1e, .row 46 u1h (u1g * kT45.size) 0) :: Lr) ∧ Els kT45 S' w' u1h r ∧ r.length = u1f

def Post.z4c (gx1 : Nat) (r : List T45) (v : Value) (w' : World) : Prop :=
 ∃ S' u1e u1f u1g u1h, v = .tuple #[] ∧ Ext S0 w0 S' w' ∧ Hp nz wz S' w' ((some gx1, .row 88 [.slice (Gp u1e) u1f u1g] 1 0) :: (u1e, .row 46 u1h (u1g * kT45.size) 0) :: Lr) ∧ Els kT45 S' w' u1h r ∧ r.length = u1f

def LF.z47 : (List T45) × T57 × Int → (List T45) → Prop := fun ⟨umu, x1, x2⟩ r => ∀ {nz wz S0 w0 Lr} gx0 uh ui uj uk umx umy umz (_ : Hp nz wz S0 w0 ((some gx0, .row 88 [.slice (Gp uh) ui uj] 1 0) :: (uh, .row 46 uk (uj * kT45.size) 0) :: Lr)) (_ : Els kT45 S0 w0 uk umu) (_ : umu.length = ui) (_ : x1.Set.length = 4) (_ : Rd kT57 S0 w0 umx umz x1.L) (_ : x1.L.length = umy),
 Calls Tryz.prog 39 #[(pt gx0 0), (ag (.i x1.Kind :: U4 x1.Set [.slice umx umy umz, .i x1.Min, .i x1.Max])), .i x2] w0 (Rets (Post.z47 nz wz S0 w0 Lr gx0 r))

def LF.z48 : (List T45) × (List T57) × Int → (List T45) → Prop := fun ⟨umu, x1, x2⟩ r => ∀ {nz wz S0 w0 Lr} gx0 uh ui uj uk Ax1 nx1 cx1 (_ : Hp nz wz S0 w0 ((some gx0, .row 88 [.slice (Gp uh) ui uj] 1 0) :: (uh, .row 46 uk (uj * kT45.size) 0) :: Lr)) (_ : Els kT45 S0 w0 uk umu) (_ : umu.length = ui) (_ : Rd kT57 S0 w0 Ax1 cx1 x1) (_ : x1.length = nx1),
 Calls Tryz.prog 56 #[(pt gx0 0), .slice Ax1 nx1 cx1, .i x2] w0 (Rets (Post.z48 nz wz S0 w0 Lr gx0 r))

def L.z4d (gx0 : Nat) : (List T57) × Int × (List T57) × Int × Int × (List T45) → (List T45) → Prop := fun ⟨x1, x2, x9, x10, x11, ulv⟩ r => ∀ S1 w1, Ext S0 w0 S1 w1 → ∀ Ax1 nx1 cx1 Ax9 nx9 cx9 u1e u1f u1g u1h (_ : Hp nz wz S1 w1 ((some gx0, .row 88 [.slice (Gp u1e) u1f u1g] 1 0) :: (u1e, .row 46 u1h (u1g * kT45.size) 0) :: Lr)) (_ : Rd kT57 S1 w1 Ax1 cx1 x1) (_ : x1.length = nx1) (_ : Rd kT57 S1 w1 Ax9 cx9 x9) (_ : x9.length = nx9) (_ : Els kT45 S1 w1 u1h ulv) (_ : ulv.length = u1f) (junk : Nat → Value),
 Goes Tryz.prog (base 56) Jvf ⟨lfr 47 [(0, (pt gx0 0)), (1, .slice Ax1 nx1 cx1), (2, .i x2), (9, .slice Ax9 nx9 cx9), (10, .i x10), (11, .i x11)] junk, []⟩ w1 (Done Tryz.prog 56 (Rets (Post.z48 nz wz S0 w0 Lr gx0 r)))

def LL.z4d : (List T57) × Int × (List T57) × Int × Int × (List T45) → (List T45) → Prop := fun a r => ∀ {nz wz S0 w0 Lr} (gx0 : Nat), L.z4d nz wz S0 w0 Lr gx0 a r

def L.z4e (gx0 : Nat) : (List T57) × Int × T57 × (List T57) × Int × Int × (List T45) → (List T45) → Prop := fun ⟨x1, x2, x7v, x9, x10, x11, ulv⟩ r => ∀ S1 w1, Ext S0 w0 S1 w1 → ∀ Ax1 nx1 cx1 gx7 uo3 uo4 uo5 Ax9 nx9 cx9 u1e u1f u1g u1h (_ : Hp nz wz S1 w1 ((some gx7, .row 58 (.i x7v.Kind :: U4 x7v.Set [.slice uo3 uo4 uo5, .i x7v.Min, .i x7v.Max]) 8 0) :: (some gx0, .row 88 [.slice (Gp u1e) u1f u1g] 1 0) :: (u1e, .row 46 u1h (u1g * kT45.size) 0) :: Lr)) (_ : Rd kT57 S1 w1 Ax1 cx1 x1) (_ : x1.length = nx1) (_ : x7v.Set.length = 4) (_ : Rd kT57 S1 w1 uo3 uo5 x7v.L) (_ : x7v.L.length = uo4) (_ : Rd kT57 S1 w1 Ax9 cx9 x9) (_ : x9.length = nx9) (_ : Els kT45 S1 w1 u1h ulv) (_ : ulv.length = u1f) (junk : Nat → Value),
 Goes Tryz.prog (base 56) Jvi ⟨lfr 47 [(0, (pt gx0 0)), (1, .slice Ax1 nx1 cx1), (2, .i x2), (7, (pt gx7 0)), (9, .slice Ax9 nx9 cx9), (10, .i x10), (11, .i x11)] junk, []⟩ w1 (Done Tryz.prog 56 (Rets (Post.z48 nz wz S0 w0 Lr gx0 r)))

def LL.z4e : (List T57) × Int × T57 × (List T57) × Int × Int × (List T45) → (List T45) → Prop := fun a r => ∀ {nz wz S0 w0 Lr} (gx0 : Nat), L.z4e nz wz S0 w0 Lr gx0 a r

def L.z4f (gx0 : Nat) : Int × (List T57) × Int × Int × (List T45) → (List T45) → Prop := fun ⟨x2, x29, x30, x31, ulv⟩ r => ∀ S1 w1, Ext S0 w0 S1 w1 → ∀ uo6 uo7 uo8 u1e u1f u1g u1h (_ : Hp nz wz S1 w1 ((some gx0, .row 88 [.slice (Gp u1e) u1f u1g] 1 0) :: (u1e, .row 46 u1h (u1g * kT45.size) 0) :: Lr)) (_ : Rd kT57 S1 w1 uo6 uo8 x29) (_ : x29.length = uo7) (_ : Els kT45 S1 w1 u1h ulv) (_ : ulv.length = u1f) (junk : Nat → Value),
 Goes Tryz.prog (base 39) Jvn ⟨lfr 59 [(0, (pt gx0 0)), (2, .i x2), (6, .slice none 0 0), (29, .slice uo6 uo7 uo8), (30, .i x30), (31, .i x31)] junk, []⟩ w1 (Done Tryz.prog 39 (Rets (Post.z47 nz wz S0 w0 Lr gx0 r)))

def LL.z4f : Int × (List T57) × Int × Int × (List T45) → (List T45) → Prop := fun a r => ∀ {nz wz S0 w0 Lr} (gx0 : Nat), L.z4f nz wz S0 w0 Lr gx0 a r

def L.z4g (gx0 : Nat) : Int × (List T108) × (List T57) × Int × Int × (List T45) → (List T45) → Prop := fun ⟨x2, x6, x29, x30, x31, ulv⟩ r => ∀ S1 w1, Ext S0 w0 S1 w1 → ∀ Gx6 nx6 cx6 u22 uo6 uo7 uo8 u1e u1f u1g u1h (_ : Hp nz wz S1 w1 ((Gx6, .row 109 u22 (cx6 * (kT108 gx0).size) 0) :: (some gx0, .row 88 [.slice (Gp u1e) u1f u1g] 1 0) :: (u1e, .row 46 u1h (u1g * kT45.size) 0) :: Lr)) (_ : Els (kT108 gx0) S1 w1 u22 x6) (_ : x6.length = nx6) (_ : Rd kT57 S1 w1 uo6 uo8 x29) (_ : x29.length = uo7) (_ : Els kT45 S1 w1 u1h ulv) (_ : ulv.length = u1f) (junk : Nat → Value),
 Goes Tryz.prog (base 39) Jvn ⟨lfr 59 [(0, (pt gx0 0)), (2, .i x2), (6, .slice (Gp Gx6) nx6 cx6), (29, .slice uo6 uo7 uo8), (30, .i x30), (31, .i x31)] junk, []⟩ w1 (Done Tryz.prog 39 (Rets (Post.z47 nz wz S0 w0 Lr gx0 r)))

def LL.z4g : Int × (List T108) × (List T57) × Int × Int × (List T45) → (List T45) → Prop := fun a r => ∀ {nz wz S0 w0 Lr} (gx0 : Nat), L.z4g nz wz S0 w0 Lr gx0 a r

def L.z4h (gx0 : Nat) : Int × (List T108) × (List T45) → (List T45) → Prop := fun ⟨x2, x6, ulv⟩ r => ∀ S1 w1, Ext S0 w0 S1 w1 → ∀ Gx6 nx6 cx6 u22 u1e u1f u1g u1h (_ : Hp nz wz S1 w1 ((Gx6, .row 109 u22 (cx6 * (kT108 gx0).size) 0) :: (some gx0, .row 88 [.slice (Gp u1e) u1f u1g] 1 0) :: (u1e, .row 46 u1h (u1g * kT45.size) 0) :: Lr)) (_ : Els (kT108 gx0) S1 w1 u22 x6) (_ : x6.length = nx6) (_ : Els kT45 S1 w1 u1h ulv) (_ : ulv.length = u1f) (junk : Nat → Value),
 Goes Tryz.prog (base 39) Jvk ⟨lfr 59 [(0, (pt gx0 0)), (2, .i x2), (6, .slice (Gp Gx6) nx6 cx6)] junk, []⟩ w1 (Done Tryz.prog 39 (Rets (Post.z47 nz wz S0 w0 Lr gx0 r)))

def LL.z4h : Int × (List T108) × (List T45) → (List T45) → Prop := fun a r => ∀ {nz wz S0 w0 Lr} (gx0 : Nat), L.z4h nz wz S0 w0 Lr gx0 a r

def LF.z49 : (List T45) × (List T108) × Int → (List T45) → Prop := fun ⟨umu, x1, x2⟩ r => ∀ {nz wz S0 w0 Lr} gx0 uh ui uj uk Ax1 nx1 cx1 (_ : Hp nz wz S0 w0 ((some gx0, .row 88 [.slice (Gp uh) ui uj] 1 0) :: (uh, .row 46 uk (uj * kT45.size) 0) :: Lr)) (_ : Els kT45 S0 w0 uk umu) (_ : umu.length = ui) (_ : Rd (kT108 gx0) S0 w0 Ax1 cx1 x1) (_ : x1.length = nx1),
 Calls Tryz.prog 59 #[(pt gx0 0), .slice Ax1 nx1 cx1, .i x2] w0 (Rets (Post.z49 nz wz S0 w0 Lr gx0 r))

def L.z4i (gx0 : Nat) : (List T108) × Int × (List T108) × Int × Int × (List T45) → (List T45) → Prop := fun ⟨x1, x2, x9, x10, x11, ulv⟩ r => ∀ S1 w1, Ext S0 w0 S1 w1 → ∀ Ax1 nx1 cx1 Ax9 nx9 cx9 u1e u1f u1g u1h (_ : Hp nz wz S1 w1 ((some gx0, .row 88 [.slice (Gp u1e) u1f u1g] 1 0) :: (u1e, .row 46 u1h (u1g * kT45.size) 0) :: Lr)) (_ : Rd (kT108 gx0) S1 w1 Ax1 cx1 x1) (_ : x1.length = nx1) (_ : Rd (kT108 gx0) S1 w1 Ax9 cx9 x9) (_ : x9.length = nx9) (_ : Els kT45 S1 w1 u1h ulv) (_ : ulv.length = u1f) (junk : Nat → Value),
 Goes Tryz.prog (base 59) Jvp ⟨lfr 35 [(0, (pt gx0 0)), (1, .slice Ax1 nx1 cx1), (2, .i x2), (9, .slice Ax9 nx9 cx9), (10, .i x10), (11, .i x11)] junk, []⟩ w1 (Done Tryz.prog 59 (Rets (Post.z49 nz wz S0 w0 Lr gx0 r)))

def LL.z4i : (List T108) × Int × (List T108) × Int × Int × (List T45) → (List T45) → Prop := fun a r => ∀ {nz wz S0 w0 Lr} (gx0 : Nat), L.z4i nz wz S0 w0 Lr gx0 a r

def L.z4j (gx0 : Nat) : (List T108) × Int × T108 × Int × (List T108) × Int × Int × (List T45) → (List T45) → Prop := fun ⟨x1, x2, x7v, x8, x9, x10, x11, ulv⟩ r => ∀ S1 w1, Ext S0 w0 S1 w1 → ∀ Ax1 nx1 cx1 gx7 uo9 Ax9 nx9 cx9 u1e u1f u1g u1h (_ : Hp nz wz S1 w1 ((some gx7, .row 109 [.i x7v.n, uo9] 2 0) :: (some gx0, .row 88 [.slice (Gp u1e) u1f u1g] 1 0) :: (u1e, .row 46 u1h (u1g * kT45.size) 0) :: Lr)) (_ : Rd (kT108 gx0) S1 w1 Ax1 cx1 x1) (_ : x1.length = nx1) (_ : Rp1 (kC107 gx0) S1 w1 uo9 x7v.code) (_ : Rd (kT108 gx0) S1 w1 Ax9 cx9 x9) (_ : x9.length = nx9) (_ : Els kT45 S1 w1 u1h ulv) (_ : ulv.length = u1f) (junk : Nat → Value),
 Goes Tryz.prog (base 59) Jvs ⟨lfr 35 [(0, (pt gx0 0)), (1, .slice Ax1 nx1 cx1), (2, .i x2), (7, (pt gx7 0)), (8, .i x8), (9, .slice Ax9 nx9 cx9), (10, .i x10), (11, .i x11)] junk, []⟩ w1 (Done Tryz.prog 59 (Rets (Post.z49 nz wz S0 w0 Lr gx0 r)))

def LL.z4j : (List T108) × Int × T108 × Int × (List T108) × Int × Int × (List T45) → (List T45) → Prop := fun a r => ∀ {nz wz S0 w0 Lr} (gx0 : Nat), L.z4j nz wz S0 w0 Lr gx0 a r

def LF.z4a : Int × (List T45) × T57 → (List T45) → Prop := fun ⟨x0, u0, x2⟩ r => ∀ {nz wz S0 w0 Lr} ax1 gx1 uoa uob uoc uod ax2 uoe uof uog (_ : Hp nz wz S0 w0 ((some gx1, .row 88 [.slice (Gp uoa) uob uoc] 1 0) :: (uoa, .row 46 uod (uoc * kT45.size) 0) :: Lr)) (_ : Els kT45 S0 w0 uod u0) (_ : u0.length = uob) (_ : Cs S0 w0 ax1 [(pt gx1 0)]) (_ : x2.Set.length = 4) (_ : Rd kT57 S0 w0 uoe uog x2.L) (_ : x2.L.length = uof) (_ : Cs S0 w0 ax2 (.i x2.Kind :: U4 x2.Set [.slice uoe uof uog, .i x2.Min, .i x2.Max])),
 Calls Tryz.prog 77 #[.i x0, .pointer (some ax1), .pointer (some ax2)] w0 (Rets (Post.z4a nz wz S0 w0 Lr gx1 r))

def L.z4k (gx0 : Nat) : (List T108) × Int × (List T108) × Int × Int × (List T45) → (List T45) → Prop := fun ⟨x1, x2, x9, x10, x11, ulv⟩ r => ∀ S1 w1, Ext S0 w0 S1 w1 → ∀ Ax1 nx1 cx1 Ax9 nx9 cx9 u1e u1f u1g u1h (_ : Hp nz wz S1 w1 ((some gx0, .row 88 [.slice (Gp u1e) u1f u1g] 1 0) :: (u1e, .row 46 u1h (u1g * kT45.size) 0) :: Lr)) (_ : Rd (kT108 gx0) S1 w1 Ax1 cx1 x1) (_ : x1.length = nx1) (_ : Rd (kT108 gx0) S1 w1 Ax9 cx9 x9) (_ : x9.length = nx9) (_ : Els kT45 S1 w1 u1h ulv) (_ : ulv.length = u1f) (junk : Nat → Value),
 Goes Tryz.prog (base 59) Jvr ⟨lfr 35 [(0, (pt gx0 0)), (1, .slice Ax1 nx1 cx1), (2, .i x2), (9, .slice Ax9 nx9 cx9), (10, .i x10), (11, .i x11)] junk, []⟩ w1 (Done Tryz.prog 59 (Rets (Post.z49 nz wz S0 w0 Lr gx0 r)))

def LL.z4k : (List T108) × Int × (List T108) × Int × Int × (List T45) → (List T45) → Prop := fun a r => ∀ {nz wz S0 w0 Lr} (gx0 : Nat), L.z4k nz wz S0 w0 Lr gx0 a r

def LF.z4b : Int × (List T45) × T57 → (List T45) → Prop := fun ⟨x0, u0, x2⟩ r => ∀ {nz wz S0 w0 Lr} ax1 gx1 uoa uob uoc uod ax2 uoe uof uog (_ : Hp nz wz S0 w0 ((some gx1, .row 88 [.slice (Gp uoa) uob uoc] 1 0) :: (uoa, .row 46 uod (uoc * kT45.size) 0) :: Lr)) (_ : Els kT45 S0 w0 uod u0) (_ : u0.length = uob) (_ : Cs S0 w0 ax1 [(pt gx1 0)]) (_ : x2.Set.length = 4) (_ : Rd kT57 S0 w0 uoe uog x2.L) (_ : x2.L.length = uof) (_ : Cs S0 w0 ax2 (.i x2.Kind :: U4 x2.Set [.slice uoe uof uog, .i x2.Min, .i x2.Max])),
 Calls Tryz.prog 90 #[.i x0, .pointer (some ax1), .pointer (some ax2)] w0 (Rets (Post.z4b nz wz S0 w0 Lr gx1 r))

def LF.z4c : Int × (List T45) × Int × T57 → (List T45) → Prop := fun ⟨x0, u0, x2, x3⟩ r => ∀ {nz wz S0 w0 Lr} ax1 gx1 uoa uob uoc uod ax2 ax3 uoh uoi uoj (_ : Hp nz wz S0 w0 ((some gx1, .row 88 [.slice (Gp uoa) uob uoc] 1 0) :: (uoa, .row 46 uod (uoc * kT45.size) 0) :: Lr)) (_ : Els kT45 S0 w0 uod u0) (_ : u0.length = uob) (_ : Cs S0 w0 ax1 [(pt gx1 0)]) (_ : Cs S0 w0 ax2 [.i x2]) (_ : x3.Set.length = 4) (_ : Rd kT57 S0 w0 uoh uoj x3.L) (_ : x3.L.length = uoi) (_ : Cs S0 w0 ax3 (.i x3.Kind :: U4 x3.Set [.slice uoh uoi uoj, .i x3.Min, .i x3.Max])),
 Calls Tryz.prog 91 #[.i x0, .pointer (some ax1), .pointer (some ax2), .pointer (some ax3)] w0 (Rets (Post.z4c nz wz S0 w0 Lr gx1 r))

def L.z4l (gx0 : Nat) : Int × (List T45) → (List T45) → Prop := fun ⟨x2, ulv⟩ r => ∀ S1 w1, Ext S0 w0 S1 w1 → ∀ u1e u1f u1g u1h (_ : Hp nz wz S1 w1 ((some gx0, .row 88 [.slice (Gp u1e) u1f u1g] 1 0) :: (u1e, .row 46 u1h (u1g * kT45.size) 0) :: Lr)) (_ : Els kT45 S1 w1 u1h ulv) (_ : ulv.length = u1f) (junk : Nat → Value),
 Goes Tryz.prog (base 39) Jvk ⟨lfr 59 [(0, (pt gx0 0)), (2, .i x2), (6, .slice none 0 0)] junk, []⟩ w1 (Done Tryz.prog 39 (Rets (Post.z47 nz wz S0 w0 Lr gx0 r)))

def LL.z4l : Int × (List T45) → (List T45) → Prop := fun a r => ∀ {nz wz S0 w0 Lr} (gx0 : Nat), L.z4l nz wz S0 w0 Lr gx0 a r

theorem W.z4m : (∀ a r, M.prog_writer_code a = some r → LF.z47 a r) ∧ (∀ a r, M.prog_writer_code_l2 a = some r → LL.z4l a r) ∧ (∀ a r, M.prog_writer_row a = some r → LF.z49 a r) ∧ (∀ a r, M.prog_writer_row_l0 a = some r → LL.z4i a r) ∧ (∀ a r, M.prog_writer_row_l1 a = some r → LL.z4j a r) ∧ (∀ a r, M.prog_writer_perhaps_1 a = some r → LF.z4c a r) ∧ (∀ a r, M.prog_writer_loop_1 a = some r → LF.z4b a r) ∧ (∀ a r, M.prog_writer_row_l2 a = some r → LL.z4k a r) ∧ (∀ a r, M.prog_writer_of_1 a = some r → LF.z4a a r) ∧ (∀ a r, M.prog_writer_code_l1 a = some r → LL.z4h a r) ∧ (∀ a r, M.prog_writer_code_l0 a = some r → LL.z4f a r) ∧ (∀ a r, M.prog_writer_code_l3 a = some r → LL.z4g a r) ∧ (∀ a r, M.prog_writer_any a = some r → LF.z48 a r) ∧ (∀ a r, M.prog_writer_any_l0 a = some r → LL.z4d a r) ∧ (∀ a r, M.prog_writer_any_l1 a = some r → LL.z4e a r) := by
 refine M.prog_writer_code.mutual_partial_correctness LF.z47 LL.z4l LF.z49 LL.z4i LL.z4j LF.z4c LF.z4b LL.z4k LF.z4a LL.z4h LL.z4f LL.z4g LF.z48 LL.z4d LL.z4e ?_ ?_ ?_ ?_ ?_ ?_ ?_ ?_ ?_ ?_ ?_ ?_ ?_ ?_ ?_
 ·
  intro uok uol uom rec_prog_writer_any uon uoo uop ih_prog_writer_any ⟨umu, x1, x2⟩ r h nz wz S0 w0 Lr gx0 uh ui uj uk umx umy umz p0 u14 u15 umv un0 un1
  try dsimp only at h
  subst u15
  subst un1
  refine Zf Tryz.f39 B39 56 ?_
  refine Gj 59 [(0, (pt gx0 0)), (1, (ag (.i x1.Kind :: U4 x1.Set [.slice umx x1.L.length umz, .i x1.Min, .i x1.Max]))), (2, .i x2)] fun junk => ?_
  refine Gn 2 [] Jvu ?_
  refine Op_.box 58 (.tmp 1) 4 0 (ag (.i x1.Kind :: U4 x1.Set [.slice umx x1.L.length umz, .i x1.Min, .i x1.Max])) (.i x1.Kind :: U4 x1.Set [.slice umx x1.L.length umz, .i x1.Min, .i x1.Max]) p0 Goes.v (by kernel_rfl) (by kernel_rfl) ?_
  intro b3 w2 z2 p2
  refine Gn 9 [(6, .slice none 0 0), (9, (pt b3 0))] Jvw ?_
  refine Goes.ld 3 (.tmp 9) 10 3 ⟨b3, 0, none⟩ (.i x1.Kind) (p2.c 0 0) ?_
  refine Gn 7 [(12, .bool (decide (x1.Kind = 1))), (11, .bool (decide (x1.Kind = 1)))] Jvx ?_
  refine ite_some h (fun h5 h => ?_) (fun h5 h => ?_)
  ·
   rw [decide_eq_true h5]
   refine Gn 5 [(13, (pt gx0 0)), (14, (pt b3 1))] Jvz ?_
   refine Goes.ldN 44 (.tmp 14) 15 44 ⟨b3, 1, none⟩ (U4 x1.Set []) (p2.pa 0 1) ?_
   refine Gn 2 [(16, .i x2), (17, (ag (.i 1 :: U4 x1.Set [.i x2, .i 0])))] Jw0 ?_
   have p2 := (p2.fr 2).fr 2
   refine bind_some' h fun y6 e7 h => ?_
   refine Gc (kc 40 [13, 17] #[86, 46]) 18 3 40 _ (W.z3y umu (⟨1, x1.Set, x2, 0⟩ : T45) y6 e7 gx0 uh umu.length uj uk p2 (u14.ext z2) rfl umv) ?_
   rintro _ w3 ⟨S3, u2c, u2d, u2e, u2f, rfl, z3, p3, u2k, rfl⟩
   have p3 := p3.dp 2
   refine Gn 1 [] Jvy ?_
   obtain rfl := Option.some.inj h
   exact Goes.rt Tryz.f39 (.tuple #[]) ⟨S3, u2c, y6.2.length, u2e, u2f, rfl, (((Ext.refl S0 w0).trans z2).trans z3), p3, u2k, rfl⟩
  ·
   rw [decide_eq_false h5]
   refine Gn 6 [(20, .bool (decide (x1.Kind = 3))), (19, .bool (decide (x1.Kind = 3)))] Jw1 ?_
   refine ite_some h (fun h9 h => ?_) (fun h9 h => ?_)
   ·
    rw [decide_eq_true h9]
    refine Gn 5 [(21, (pt gx0 0)), (22, (pt b3 5))] Jw3 ?_
    refine Goes.ld 56 (.tmp 22) 23 56 ⟨b3, 5, none⟩ (.slice umx x1.L.length umz) (p2.c 0 5) ?_
    refine Gn 1 [(24, .i x2)] Jw4 ?_
    have p2 := (p2.fr 2).fr 2
    refine bind_some' h fun y10 e11 h => ?_
    refine Gc (kc 56 [21, 23, 24] #[86, 56, 3]) 25 0 56 _ (ih_prog_writer_any (umu, x1.L, x2) y10 e11 gx0 uh umu.length uj uk umx x1.L.length umz p2 (u14.ext z2) rfl (un0.ext z2) rfl) ?_
    rintro _ w4 ⟨S4, ucl, ucm, ucn, uco, rfl, z4, p4, uct, rfl⟩
    have p4 := p4.dp 2
    refine Gn 1 [] Jw2 ?_
    obtain rfl := Option.some.inj h
    exact Goes.rt Tryz.f39 (.tuple #[]) ⟨S4, ucl, y10.length, ucn, uco, rfl, (((Ext.refl S0 w0).trans z2).trans z4), p4, uct, rfl⟩
   ·
    rw [decide_eq_false h9]
    refine Gn 6 [(27, .bool (decide (x1.Kind = 2))), (26, .bool (decide (x1.Kind = 2)))] Jw5 ?_
    refine ite_some h (fun h13 h => ?_) (fun h13 h => ?_)
    ·
     rw [decide_eq_true h13]
     refine Gn 4 [(28, (pt b3 5))] Jw7 ?_
     refine Goes.ld 56 (.tmp 28) 29 56 ⟨b3, 5, none⟩ (.slice umx x1.L.length umz) (p2.c 0 5) ?_
     refine Gn 5 [(30, .i (x1.L.length : Int)), (31, .i 0)] Jvn ?_
     have p2 := p2.dp 0
     exact Gj 59 [(0, (pt gx0 0)), (2, .i x2), (6, .slice none 0 0), (29, .slice umx x1.L.length umz), (30, .i (x1.L.length : Int)), (31, .i 0)] (uop _ _ h gx0 _ _ ((Ext.refl S0 w0).trans z2) umx x1.L.length umz uh umu.length uj uk p2 (un0.ext z2) rfl (u14.ext z2) rfl)
    ·
     rw [decide_eq_false h13]
     refine Gn 6 [(43, .bool (decide (x1.Kind = 4))), (42, .bool (decide (x1.Kind = 4)))] Jw8 ?_
     refine ite_some h (fun h15 h => ?_) (fun h15 h => ?_)
     ·
      rw [decide_eq_true h15]
      refine Gn 3 [(44, (pt gx0 0))] Jw9 ?_
      refine Goes.ldN 58 (.tmp 4) 45 58 ⟨b3, 0, none⟩ (.i x1.Kind :: U4 x1.Set [.slice umx x1.L.length umz, .i x1.Min, .i x1.Max]) (p2.pa 0 0) ?_
      refine Gn 1 [(46, .i x2)] Jwa ?_
      have p2 := (p2.fr 2).fr 2
      refine bind_some' h fun y16 e17 h => ?_
      refine Gc (kc 58 [44, 45, 46] #[86, 58, 3]) 47 104 58 _ (W.z42 umu x1 x2 y16 e17 gx0 uh umu.length uj uk umx x1.L.length umz p2 (u14.ext z2) rfl umv (un0.ext z2) rfl) ?_
      rintro _ w5 ⟨S5, u5j, u5k, u5l, u5m, rfl, z5, p5, u5n, rfl⟩
      have p5 := p5.dp 3
      refine Gn 2 [(6, .slice (Gp u5j) y16.length u5l)] Jvk ?_
      exact Gj 59 [(0, (pt gx0 0)), (2, .i x2), (6, .slice (Gp u5j) y16.length u5l)] (uoo _ _ h gx0 _ _ (((Ext.refl S0 w0).trans z2).trans z5) u5j y16.length u5l u5m uh umu.length uj uk p5 u5n rfl (u14.ext (z2.trans z5)) rfl)
     ·
      rw [decide_eq_false h15]
      refine Gn 2 [] Jvk ?_
      have p2 := p2.dp 0
      exact Gj 59 [(0, (pt gx0 0)), (2, .i x2), (6, .slice none 0 0)] (uon _ _ h gx0 _ _ ((Ext.refl S0 w0).trans z2) uh umu.length uj uk p2 (u14.ext z2) rfl)
 ·
  intro rec_prog_writer_row ih_prog_writer_row ⟨x2, ulv⟩ r h nz wz S0 w0 Lr gx0 S1 w1 hx u1e u1f u1g u1h p1 uoq uor junk
  try dsimp only at h
  subst uor
  refine Gn 13 [(48, .slice none 0 0), (49, .i 0), (50, .bool true), (51, (pt gx0 0)), (52, .i x2), (53, .agg #[.i 4, .u 0, .u 0, .u 0, .u 0, .i x2, .i 0])] Jwc ?_
  refine bind_some' h fun y64 e65 h => ?_
  refine Gc (kc 40 [51, 53] #[86, 46]) 54 3 40 _ (W.z3y ulv (⟨4, [0, 0, 0, 0], x2, 0⟩ : T45) y64 e65 gx0 u1e ulv.length u1g u1h p1 uoq rfl rfl) ?_
  rintro _ w16 ⟨S16, uos, uot, uou, uov, rfl, z16, p16, uow, rfl⟩
  refine Gn 5 [(55, (pt gx0 0)), (56, .slice none 0 0), (57, .i x2)] Jwd ?_
  refine bind_some' h fun y67 e68 h => ?_
  refine Gc (kc 59 [55, 56, 57] #[86, 104, 3]) 58 0 59 _ (ih_prog_writer_row (y64.2, ([] : List T108), x2) y67 e68 gx0 uos y64.2.length uou uov none 0 0 p16 uow rfl Rd.none_ rfl) ?_
  rintro _ w17 ⟨S17, uox, uoy, uoz, up0, rfl, z17, p17, up1, rfl⟩
  refine Gn 1 [] [] ?_
  obtain rfl := Option.some.inj h
  exact Goes.end_ (fn := Tryz.f39) (by kernel_rfl) (v := .tuple #[]) (by kernel_rfl) ⟨S17, uox, y67.length, uoz, up0, rfl, ((hx.trans z16).trans z17), p17, up1, rfl⟩
 ·
  intro up2 up3 ⟨umu, x1, x2⟩ r h nz wz S0 w0 Lr gx0 uh ui uj uk Ax1 nx1 cx1 p0 u14 u15 fx1 lx1
  try dsimp only at h
  subst u15
  subst lx1
  refine Zf Tryz.f59 B59 32 ?_
  refine Gj 35 [(0, (pt gx0 0)), (1, .slice Ax1 x1.length cx1), (2, .i x2)] fun junk => ?_
  refine Gn 8 [(9, .slice Ax1 x1.length cx1), (10, .i (x1.length : Int)), (11, .i 0)] Jvp ?_
  exact Gj 35 [(0, (pt gx0 0)), (1, .slice Ax1 x1.length cx1), (2, .i x2), (9, .slice Ax1 x1.length cx1), (10, .i (x1.length : Int)), (11, .i 0)] (up3 _ _ h gx0 _ _ (Ext.refl S0 w0) Ax1 x1.length cx1 Ax1 x1.length cx1 uh umu.length uj uk p0 fx1 rfl fx1 rfl u14 rfl)
 ·
  intro up4 up5 ⟨x1, x2, x9, x10, x11, ulv⟩ r h nz wz S0 w0 Lr gx0 S1 w1 hx Ax1 nx1 cx1 Ax9 nx9 cx9 u1e u1f u1g u1h p1 fx1 lx1 fx9 lx9 uoq uor junk
  try dsimp only at h
  subst lx1
  subst lx9
  subst uor
  refine Gn 5 [(12, .bool (decide (x11 < x10)))] Jwf ?_
  refine ite_some h (fun h4 h => ?_) (fun h4 h => ?_)
  ·
   rw [decide_eq_true h4]
   refine Gn 7 [(13, .i x11)] Jwh ?_
   refine guard_some' h fun g5 h => ?_
   refine guard_some' h fun g6 h => ?_
   refine Op_.ixR_n 104 (.tmp 9) (.tmp 11) 14 0 109 .i64 x11 (gi x9 x11) rfl rfl fx9 Goes.v (by kernel_rfl) (by kernel_rfl) (by kernel_rfl) (by kernel_rfl) g5 g6 ?_
   intro a7 _ f8 q9
   obtain ⟨_, _, rfl, rfl, q12⟩ := q9
   obtain ⟨v10, rfl, f11⟩ := rp1_one rfl q12
   refine Goes.ldN 109 (.tmp 14) 15 109 a7 ([.i ((gi x9 x11).n)] ++ [v10]) (f8.cell) ?_
   refine Op_.alloc 109 7 0 (.agg #[.i 0, .nilFunc]) [.i 0, .nilFunc] p1 Goes.v (by kernel_rfl) (by kernel_rfl) ?_
   intro b13 w2 z2 p2
   refine Gn 1 [(6, .i x11)] Jwi ?_
   refine Op_.st 109 (.tmp 7) (.tmp 15) 0 0 b13 0 (.agg #[.i ((gi x9 x11).n), v10]) [.i ((gi x9 x11).n), v10] p2 rfl Goes.s (by kernel_rfl) (by kernel_rfl) (by kernel_rfl) (by kernel_rfl) (Nat.zero_le _) (by simp only [List.length_cons, List.length_nil]; omega) (by intro v hv; simp only [List.mem_cons, List.not_mem_nil, or_false] at hv; rcases hv with rfl | rfl <;> first | rfl | exact Rp1.one1 (f11.ext z2)) ?_
   intro w3 z3 p3
   have p3 : Hp nz wz S1 w3 ((some b13, .row 109 [.i ((gi x9 x11).n), v10] 2 0) :: (some gx0, .row 88 [.slice (Gp u1e) ulv.length u1g] 1 0) :: (u1e, .row 46 u1h (u1g * kT45.size) 0) :: Lr) := p3
   refine Gn 14 [(16, .i x2), (8, .i x2), (17, .i x11), (18, .slice Ax1 x1.length cx1), (19, .i (x1.length : Int)), (20, .i (wr .i64 ((x1.length : Int) - 1))), (21, .bool (decide (x11 < wr .i64 ((x1.length : Int) - 1))))] Jwk ?_
   refine Gn 1 [] Jwj ?_
   refine ite_some h (fun h15 h => ?_) (fun h15 h => ?_)
   ·
    rw [decide_eq_true h15]
    refine Gn 1 [] Jwl ?_
    have z4 : Ext S1 w3 S1 (w3).drew := Ext.draw
    have p4 := p3.draw
    refine Goes.drawn (s := []) (F := Fc S1 (w3).drew [(⟨gx0, 0, none⟩, .slice (Gp u1e) ulv.length u1g), (⟨b13, 0, none⟩, .i ((gi x9 x11).n))]) 5 9 (by kernel_rfl) (by kernel_rfl) (by kernel_rfl) (by kernel_rfl) ?_
    generalize (w3).drew = w4 at z4 p4 ⊢
    refine AnyG.pu 0 (.move (.tmp 0)) 22 86 ((pt gx0 0)) (Fc.here (p4.cs [(1, 0, 1), (0, 0, 1)])) ?_
    refine AnyG.pu 1 (.nilCheck (.tmp 22)) 23 0 ((pt gx0 0)) (Fc.here (p4.cs [(1, 0, 1), (0, 0, 1)])) ?_
    refine AnyG.pu 2 (.fieldAddr 88 (.tmp 23) 0) 24 0 ((pt gx0 0)) (Fc.here (p4.cs [(1, 0, 1), (0, 0, 1)])) ?_
    refine AnyG.ld1 (i := 3) 22 (.tmp 24) 25 22 ⟨gx0, 0, none⟩ (.slice (Gp u1e) ulv.length u1g) (by kernel_rfl) (by kernel_rfl) (Fc.here (p4.cs [(1, 0, 1), (0, 0, 1)])) (by kernel_rfl) (by kernel_rfl) (fun _ h => h.2.at_ 0 rfl) ?_
    refine AnyG.pu 4 (.call { callee := .builtin .len, args := #[(.tmp 25)], argTypes := #[22] }) 26 3 (.i (ulv.length : Int)) (Fc.here (p4.cs [(1, 0, 1), (0, 0, 1)])) ?_
    refine AnyG.pu 5 (.fieldAddr 109 (.tmp 7) 0) 27 0 ((pt b13 0)) (Fc.here (p4.cs [(1, 0, 1), (0, 0, 1)])) ?_
    refine AnyG.ld1 (i := 6) 3 (.tmp 27) 28 3 ⟨b13, 0, none⟩ (.i ((gi x9 x11).n)) (by kernel_rfl) (by kernel_rfl) (Fc.here (p4.cs [(1, 0, 1), (0, 0, 1)])) (by kernel_rfl) (by kernel_rfl) (fun _ h => h.2.at_ 1 rfl) ?_
    refine AnyG.pu 7 (.binOp .add 3 (.tmp 26) (.tmp 28) 3) 29 3 (.i (wr .i64 ((ulv.length : Int) + ((gi x9 x11).n)))) (Fc.here (p4.cs [(1, 0, 1), (0, 0, 1)])) ?_
    refine AnyG.pu 8 (.assign (.tmp 29)) 8 3 (.i (wr .i64 ((ulv.length : Int) + ((gi x9 x11).n)))) (Fc.here (p4.cs [(1, 0, 1), (0, 0, 1)])) ?_
    refine AnyG.done (by kernel_rfl) ?_ _
    exact Gj 35 [(0, (pt gx0 0)), (1, .slice Ax1 x1.length cx1), (2, .i x2), (7, (pt b13 0)), (8, .i (wr .i64 ((ulv.length : Int) + ((gi x9 x11).n)))), (9, .slice Ax9 x9.length cx9), (10, .i x10), (11, .i x11)] (up5 _ _ h gx0 _ _ (((hx.trans z2).trans z3).trans z4) Ax1 x1.length cx1 b13 v10 Ax9 x9.length cx9 u1e ulv.length u1g u1h p4 (fx1.ext ((z2.trans z3).trans z4)) rfl (f11.ext ((z2.trans z3).trans z4)) (fx9.ext ((z2.trans z3).trans z4)) rfl (uoq.ext ((z2.trans z3).trans z4)) rfl)
   ·
    rw [decide_eq_false h15]
    refine Gn 2 [] Jvs ?_
    exact Gj 35 [(0, (pt gx0 0)), (1, .slice Ax1 x1.length cx1), (2, .i x2), (7, (pt b13 0)), (8, .i x2), (9, .slice Ax9 x9.length cx9), (10, .i x10), (11, .i x11)] (up5 _ _ h gx0 _ _ ((hx.trans z2).trans z3) Ax1 x1.length cx1 b13 v10 Ax9 x9.length cx9 u1e ulv.length u1g u1h p3 (fx1.ext (z2.trans z3)) rfl (f11.ext (z2.trans z3)) (fx9.ext (z2.trans z3)) rfl (uoq.ext (z2.trans z3)) rfl)
  ·
   rw [decide_eq_false h4]
   refine Gn 2 [] [] ?_
   obtain rfl := Option.some.inj h
   exact Goes.end_ (fn := Tryz.f59) (by kernel_rfl) (v := .tuple #[]) (by kernel_rfl) ⟨S1, u1e, ulv.length, u1g, u1h, rfl, hx, p1, uoq, rfl⟩
 ·
  intro up6 up7 up8 up9 upa upb upc upe ⟨x1, x2, x7v, x8, x9, x10, x11, ulv⟩ r h nz wz S0 w0 Lr gx0 S1 w1 hx Ax1 nx1 cx1 gx7 uo9 Ax9 nx9 cx9 u1e u1f u1g u1h p1 fx1 lx1 upf fx9 lx9 uoq uor junk
  try dsimp only at h
  subst lx1
  subst lx9
  subst uor
  refine Gn 2 [(30, (pt gx7 1))] Jwm ?_
  refine Goes.ld 107 (.tmp 30) 31 107 ⟨gx7, 1, none⟩ (uo9) (p1.c 0 1) ?_
  refine Gn 1 [(32, .i x8)] Jwn ?_
  refine let_some h fun v19 e20 h => ?_
  have f18 : Rp1 (kC107 gx0) S1 w1 uo9 v19 := by rw [← e20]; exact upf
  rcases v19 with y21 | y33 | y45
  ·
   try dsimp only at h
   obtain ⟨_, rfl, ⟨_, _, rfl, ⟨a22, rfl, f23⟩, ⟨a24, _, rfl, -, f25, q26⟩⟩⟩ := kFn_get (kSum_l f18)
   have q27 := q26
   obtain ⟨_, _, rfl, rfl, ⟨_, _, rfl, ⟨l28, f29⟩, ⟨_, _, rfl, ⟨A30, c31, rfl, f32⟩, ⟨_, _, rfl, rfl, rfl⟩⟩⟩⟩ := kT57_open q27
   obtain rfl := els_lit4' f29 l28
   have p1 := (p1.fr 2).fr 2
   refine bind_some' h fun y60 e61 h => ?_
   refine Gc (.call { callee := .value (.tmp 31), args := #[(.tmp 32)], argTypes := #[3] }) 33 0 77 _ (upe (x8, ulv, y21) y60 e61 a22 gx0 u1e ulv.length u1g u1h a24 A30 y21.L.length c31 p1 uoq rfl f23 l28 f32 rfl f25) ?_
   rintro _ w5 ⟨S5, upg, uph, upi, upj, rfl, z5, p5, upk, rfl⟩
   have p5 := p5.dp 2
   refine Gn 1 [] Jvr ?_
   exact Gj 35 [(0, (pt gx0 0)), (1, .slice Ax1 x1.length cx1), (2, .i x2), (9, .slice Ax9 x9.length cx9), (10, .i x10), (11, .i x11)] (upc _ _ h gx0 _ _ (hx.trans z5) Ax1 x1.length cx1 Ax9 x9.length cx9 upg y60.length upi upj p5 (fx1.ext z5) rfl (fx9.ext z5) rfl upk rfl)
  ·
   try dsimp only at h
   obtain ⟨_, rfl, ⟨_, _, rfl, ⟨a34, rfl, f35⟩, ⟨a36, _, rfl, -, f37, q38⟩⟩⟩ := kFn_get (kSum_l (kSum_r f18))
   have q39 := q38
   obtain ⟨_, _, rfl, rfl, ⟨_, _, rfl, ⟨l40, f41⟩, ⟨_, _, rfl, ⟨A42, c43, rfl, f44⟩, ⟨_, _, rfl, rfl, rfl⟩⟩⟩⟩ := kT57_open q39
   obtain rfl := els_lit4' f41 l40
   have p1 := (p1.fr 2).fr 2
   refine bind_some' h fun y64 e65 h => ?_
   refine Gc (.call { callee := .value (.tmp 31), args := #[(.tmp 32)], argTypes := #[3] }) 33 0 90 _ (upb (x8, ulv, y33) y64 e65 a34 gx0 u1e ulv.length u1g u1h a36 A42 y33.L.length c43 p1 uoq rfl f35 l40 f44 rfl f37) ?_
   rintro _ w6 ⟨S6, upl, upm, upn, upo, rfl, z6, p6, upp, rfl⟩
   have p6 := p6.dp 2
   refine Gn 1 [] Jvr ?_
   exact Gj 35 [(0, (pt gx0 0)), (1, .slice Ax1 x1.length cx1), (2, .i x2), (9, .slice Ax9 x9.length cx9), (10, .i x10), (11, .i x11)] (upc _ _ h gx0 _ _ (hx.trans z6) Ax1 x1.length cx1 Ax9 x9.length cx9 upl y64.length upn upo p6 (fx1.ext z6) rfl (fx9.ext z6) rfl upp rfl)
  ·
   try dsimp only at h
   obtain ⟨_, rfl, ⟨_, _, rfl, ⟨a46, rfl, f47⟩, ⟨_, _, rfl, ⟨a48, _, rfl, -, f49, q50⟩, ⟨a51, _, rfl, -, f52, q53⟩⟩⟩⟩ := kFn_get (kSum_r (kSum_r f18))
   obtain rfl := q50
   have q54 := q53
   obtain ⟨_, _, rfl, rfl, ⟨_, _, rfl, ⟨l55, f56⟩, ⟨_, _, rfl, ⟨A57, c58, rfl, f59⟩, ⟨_, _, rfl, rfl, rfl⟩⟩⟩⟩ := kT57_open q54
   obtain rfl := els_lit4' f56 l55
   have p1 := (p1.fr 2).fr 2
   refine bind_some' h fun y67 e68 h => ?_
   refine Gc (.call { callee := .value (.tmp 31), args := #[(.tmp 32)], argTypes := #[3] }) 33 0 91 _ (upa (x8, ulv, y45.1, y45.2) y67 e68 a46 gx0 u1e ulv.length u1g u1h a48 a51 A57 y45.2.L.length c58 p1 uoq rfl f47 f49 l55 f59 rfl f52) ?_
   rintro _ w7 ⟨S7, upq, upr, ups, upt, rfl, z7, p7, upu, rfl⟩
   have p7 := p7.dp 2
   refine Gn 1 [] Jvr ?_
   exact Gj 35 [(0, (pt gx0 0)), (1, .slice Ax1 x1.length cx1), (2, .i x2), (9, .slice Ax9 x9.length cx9), (10, .i x10), (11, .i x11)] (upc _ _ h gx0 _ _ (hx.trans z7) Ax1 x1.length cx1 Ax9 x9.length cx9 upq y67.length ups upt p7 (fx1.ext z7) rfl (fx9.ext z7) rfl upu rfl)
 ·
  intro rec_prog_writer_code ih_prog_writer_code ⟨x0, u0, x2, x3⟩ r h nz wz S0 w0 Lr ax1 gx1 uoa uob uoc uod ax2 ax3 uoh uoi uoj p0 upv upw upx upy upz uq0 uq1 uq2
  try dsimp only at h
  subst upw
  subst uq1
  refine Zf Tryz.f91 B91 15 ?_
  refine Gj 19 [(0, .i x0), (1, .pointer (some ax1)), (2, .pointer (some ax2)), (3, .pointer (some ax3))] fun junk => ?_
  refine Gn 1 [] Jwp ?_
  have z2 : Ext S0 w0 S0 (w0).drew := Ext.draw
  have p2 := p0.draw
  refine Goes.drawn (s := [9]) (F := Fc S0 (w0).drew []) 0 10 (by kernel_rfl) (by kernel_rfl) (by kernel_rfl) (by kernel_rfl) ?_
  generalize (w0).drew = w2 at z2 p2 ⊢
  refine AnyG.ld1 (i := 0) 86 (.tmp 1) 5 86 ax1 ((pt gx1 0)) (by kernel_rfl) (by kernel_rfl) (Fc.here trivial) (by kernel_rfl) (by kernel_rfl) (fun _ h => (upx.ext z2).fc h 0 _ rfl) ?_
  refine AnyG.ld1 (i := 1) 86 (.tmp 1) 6 86 ax1 ((pt gx1 0)) (by kernel_rfl) (by kernel_rfl) (Fc.here trivial) (by kernel_rfl) (by kernel_rfl) (fun _ h => (upx.ext z2).fc h 0 _ rfl) ?_
  refine AnyG.pu 2 (.nilCheck (.tmp 6)) 7 0 ((pt gx1 0)) (Fc.here trivial) ?_
  refine AnyG.pu 3 (.fieldAddr 88 (.tmp 7) 0) 8 0 ((pt gx1 0)) (Fc.here trivial) ?_
  refine AnyG.ld1 (i := 7) 3 (.tmp 2) 12 3 ax2 (.i x2) (by kernel_rfl) (by kernel_rfl) (Fc.here trivial) (by kernel_rfl) (by kernel_rfl) (fun _ h => (upy.ext z2).fc h 0 _ rfl) ?_
  refine Op_.ld1 22 (.tmp 8) 9 22 ⟨gx1, 0, none⟩ (.slice (Gp uoa) u0.length uoc) (AnyG.vs (i := 4) (by kernel_rfl) (by kernel_rfl)) (by kernel_rfl) (by kernel_rfl) (p2.c 0 0) ?_
  refine AnyG.next (Ext.refl _ _) trivial ?_
  refine AnyG.pu 5 (.call { callee := .builtin .len, args := #[(.tmp 9)], argTypes := #[22] }) 10 3 (.i (u0.length : Int)) (Fc.here trivial) ?_
  refine AnyG.pu 6 (.binOp .add 3 (.tmp 10) (.const (.int .i64 1)) 3) 11 3 (.i (wr .i64 ((u0.length : Int) + 1))) (Fc.here trivial) ?_
  refine AnyG.pu 8 (.build 46 #[(0, (.const (.int .i64 2))), (2, (.tmp 11)), (3, (.tmp 12))]) 13 46 (.agg #[.i 2, .u 0, .u 0, .u 0, .u 0, .i (wr .i64 ((u0.length : Int) + 1)), .i x2]) (Fc.here trivial) ?_
  refine bind_some' h fun y3 e4 h => ?_
  refine Op_.call (kc 40 [5, 13] #[86, 46]) 14 3 40 #[(pt gx1 0), .agg #[.i 2, .u 0, .u 0, .u 0, .u 0, .i (wr .i64 ((u0.length : Int) + 1)), .i x2]] (AnyG.cs (i := 9) (by kernel_rfl) (by kernel_rfl)) (by kernel_rfl) (W.z3y u0 (⟨2, [0, 0, 0, 0], wr .i64 ((u0.length : Int) + 1), x2⟩ : T45) y3 e4 gx1 uoa u0.length uoc uod p2 (upv.ext z2) rfl rfl) ?_
  rintro _ w3 ⟨S3, u2c, u2d, u2e, u2f, rfl, z3, p3, u2k, rfl⟩
  refine AnyG.last [] (Fc S3 w3 []) (by decide) ?_
  refine AnyG.done (by kernel_rfl) ?_ _
  refine Gn 1 [] Jwq ?_
  refine Goes.ld 86 (.tmp 1) 15 86 ax1 ((pt gx1 0)) ((upx.ext (z2.trans z3)).cell 0 _ rfl) ?_
  refine Goes.ldN 58 (.tmp 3) 16 58 ax3 (.i x3.Kind :: U4 x3.Set [.slice uoh x3.L.length uoj, .i x3.Min, .i x3.Max]) ((uq2.ext (z2.trans z3)).cell) ?_
  refine Gn 1 [(17, .i x0)] Jwr ?_
  refine bind_some' h fun y6 e7 h => ?_
  refine Gc (kc 39 [15, 16, 17] #[86, 58, 3]) 18 0 39 _ (ih_prog_writer_code (y3.2, x3, x0) y6 e7 gx1 u2c y3.2.length u2e u2f uoh x3.L.length uoj p3 u2k rfl upz (uq0.ext (z2.trans z3)) rfl) ?_
  rintro _ w4 ⟨S4, ucl, ucm, ucn, uco, rfl, z4, p4, uct, rfl⟩
  refine Gn 1 [] [] ?_
  obtain rfl := Option.some.inj h
  exact Goes.end_ (fn := Tryz.f91) (by kernel_rfl) (v := .tuple #[]) (by kernel_rfl) ⟨S4, ucl, y6.length, ucn, uco, rfl, ((((Ext.refl S0 w0).trans z2).trans z3).trans z4), p4, uct, rfl⟩
 ·
  intro rec_prog_writer_code ih_prog_writer_code ⟨x0, u0, x2⟩ r h nz wz S0 w0 Lr ax1 gx1 uoa uob uoc uod ax2 uoe uof uog p0 upv upw upx uq3 uq4 uq5 upy
  try dsimp only at h
  subst upw
  subst uq5
  refine Zf Tryz.f90 B90 16 ?_
  refine Gj 19 [(0, .i x0), (1, .pointer (some ax1)), (2, .pointer (some ax2))] fun junk => ?_
  refine Gn 1 [] Jwt ?_
  have z2 : Ext S0 w0 S0 (w0).drew := Ext.draw
  have p2 := p0.draw
  refine Goes.drawn (s := [9]) (F := Fc S0 (w0).drew []) 0 11 (by kernel_rfl) (by kernel_rfl) (by kernel_rfl) (by kernel_rfl) ?_
  generalize (w0).drew = w2 at z2 p2 ⊢
  refine AnyG.ld1 (i := 0) 86 (.tmp 1) 5 86 ax1 ((pt gx1 0)) (by kernel_rfl) (by kernel_rfl) (Fc.here trivial) (by kernel_rfl) (by kernel_rfl) (fun _ h => (upx.ext z2).fc h 0 _ rfl) ?_
  refine AnyG.ld1 (i := 1) 86 (.tmp 1) 6 86 ax1 ((pt gx1 0)) (by kernel_rfl) (by kernel_rfl) (Fc.here trivial) (by kernel_rfl) (by kernel_rfl) (fun _ h => (upx.ext z2).fc h 0 _ rfl) ?_
  refine AnyG.pu 2 (.nilCheck (.tmp 6)) 7 0 ((pt gx1 0)) (Fc.here trivial) ?_
  refine AnyG.pu 3 (.fieldAddr 88 (.tmp 7) 0) 8 0 ((pt gx1 0)) (Fc.here trivial) ?_
  refine AnyG.pu 7 (.move (.tmp 0)) 12 3 (.i x0) (Fc.here trivial) ?_
  refine Op_.ld1 22 (.tmp 8) 9 22 ⟨gx1, 0, none⟩ (.slice (Gp uoa) u0.length uoc) (AnyG.vs (i := 4) (by kernel_rfl) (by kernel_rfl)) (by kernel_rfl) (by kernel_rfl) (p2.c 0 0) ?_
  refine AnyG.next (Ext.refl _ _) trivial ?_
  refine AnyG.pu 5 (.call { callee := .builtin .len, args := #[(.tmp 9)], argTypes := #[22] }) 10 3 (.i (u0.length : Int)) (Fc.here trivial) ?_
  refine AnyG.pu 6 (.binOp .add 3 (.tmp 10) (.const (.int .i64 1)) 3) 11 3 (.i (wr .i64 ((u0.length : Int) + 1))) (Fc.here trivial) ?_
  refine AnyG.pu 8 (.build 46 #[(0, (.const (.int .i64 2))), (2, (.tmp 11)), (3, (.tmp 12))]) 13 46 (.agg #[.i 2, .u 0, .u 0, .u 0, .u 0, .i (wr .i64 ((u0.length : Int) + 1)), .i x0]) (Fc.here trivial) ?_
  refine bind_some' h fun y3 e4 h => ?_
  refine Op_.call (kc 40 [5, 13] #[86, 46]) 14 3 40 #[(pt gx1 0), .agg #[.i 2, .u 0, .u 0, .u 0, .u 0, .i (wr .i64 ((u0.length : Int) + 1)), .i x0]] (AnyG.cs (i := 9) (by kernel_rfl) (by kernel_rfl)) (by kernel_rfl) (W.z3y u0 (⟨2, [0, 0, 0, 0], wr .i64 ((u0.length : Int) + 1), x0⟩ : T45) y3 e4 gx1 uoa u0.length uoc uod p2 (upv.ext z2) rfl rfl) ?_
  rintro _ w3 ⟨S3, u2c, u2d, u2e, u2f, rfl, z3, p3, u2k, rfl⟩
  refine AnyG.last [] (Fc S3 w3 []) (by decide) ?_
  refine AnyG.pu 10 (.assign (.tmp 14)) 4 3 (.i y3.1) (Fc.here trivial) ?_
  refine AnyG.done (by kernel_rfl) ?_ _
  refine Gn 1 [] Jwu ?_
  refine Goes.ld 86 (.tmp 1) 15 86 ax1 ((pt gx1 0)) ((upx.ext (z2.trans z3)).cell 0 _ rfl) ?_
  refine Goes.ldN 58 (.tmp 2) 16 58 ax2 (.i x2.Kind :: U4 x2.Set [.slice uoe x2.L.length uog, .i x2.Min, .i x2.Max]) ((upy.ext (z2.trans z3)).cell) ?_
  refine Gn 1 [(17, .i y3.1)] Jwv ?_
  refine bind_some' h fun y6 e7 h => ?_
  refine Gc (kc 39 [15, 16, 17] #[86, 58, 3]) 18 0 39 _ (ih_prog_writer_code (y3.2, x2, y3.1) y6 e7 gx1 u2c y3.2.length u2e u2f uoe x2.L.length uog p3 u2k rfl uq3 (uq4.ext (z2.trans z3)) rfl) ?_
  rintro _ w4 ⟨S4, ucl, ucm, ucn, uco, rfl, z4, p4, uct, rfl⟩
  refine Gn 1 [] [] ?_
  obtain rfl := Option.some.inj h
  exact Goes.end_ (fn := Tryz.f90) (by kernel_rfl) (v := .tuple #[]) (by kernel_rfl) ⟨S4, ucl, y6.length, ucn, uco, rfl, ((((Ext.refl S0 w0).trans z2).trans z3).trans z4), p4, uct, rfl⟩
 ·
  intro up2 up3 ⟨x1, x2, x9, x10, x11, ulv⟩ r h nz wz S0 w0 Lr gx0 S1 w1 hx Ax1 nx1 cx1 Ax9 nx9 cx9 u1e u1f u1g u1h p1 fx1 lx1 fx9 lx9 uoq uor junk
  try dsimp only at h
  subst lx1
  subst lx9
  subst uor
  refine Gn 6 [(34, .i (wr .i64 (x11 + 1))), (11, .i (wr .i64 (x11 + 1)))] Jvp ?_
  exact Gj 35 [(0, (pt gx0 0)), (1, .slice Ax1 x1.length cx1), (2, .i x2), (9, .slice Ax9 x9.length cx9), (10, .i x10), (11, .i (wr .i64 (x11 + 1)))] (up3 _ _ h gx0 _ _ hx Ax1 x1.length cx1 Ax9 x9.length cx9 u1e ulv.length u1g u1h p1 fx1 rfl fx9 rfl uoq rfl)
 ·
  intro rec_prog_writer_code ih_prog_writer_code ⟨x0, u0, x2⟩ r h nz wz S0 w0 Lr ax1 gx1 uoa uob uoc uod ax2 uoe uof uog p0 upv upw upx uq3 uq4 uq5 upy
  try dsimp only at h
  subst upw
  subst uq5
  refine Zf Tryz.f77 B77 5 ?_
  refine Gj 8 [(0, .i x0), (1, .pointer (some ax1)), (2, .pointer (some ax2))] fun junk => ?_
  refine Gn 1 [] Jww ?_
  refine Goes.ld 86 (.tmp 1) 4 86 ax1 ((pt gx1 0)) (upx.cell 0 _ rfl) ?_
  refine Goes.ldN 58 (.tmp 2) 5 58 ax2 (.i x2.Kind :: U4 x2.Set [.slice uoe x2.L.length uog, .i x2.Min, .i x2.Max]) (upy.cell) ?_
  refine Gn 1 [(6, .i x0)] Jwx ?_
  refine bind_some' h fun y3 e4 h => ?_
  refine Gc (kc 39 [4, 5, 6] #[86, 58, 3]) 7 0 39 _ (ih_prog_writer_code (u0, x2, x0) y3 e4 gx1 uoa u0.length uoc uod uoe x2.L.length uog p0 upv rfl uq3 uq4 rfl) ?_
  rintro _ w2 ⟨S2, uq6, uq7, uq8, uq9, rfl, z2, p2, uqa, rfl⟩
  refine Gn 1 [] [] ?_
  obtain rfl := Option.some.inj h
  exact Goes.end_ (fn := Tryz.f77) (by kernel_rfl) (v := .tuple #[]) (by kernel_rfl) ⟨S2, uq6, y3.length, uq8, uq9, rfl, ((Ext.refl S0 w0).trans z2), p2, uqa, rfl⟩
 ·
  intro rec_prog_writer_row ih_prog_writer_row ⟨x2, x6, ulv⟩ r h nz wz S0 w0 Lr gx0 S1 w1 hx Gx6 nx6 cx6 u22 u1e u1f u1g u1h p1 fx6 lx6 uoq uor junk
  try dsimp only at h
  subst lx6
  subst uor
  refine Gn 8 [(48, .slice (Gp Gx6) x6.length cx6), (49, .i (x6.length : Int)), (50, .bool (decide ((x6.length : Int) = 0)))] Jwy ?_
  refine ite_some h (fun h52 h => ?_) (fun h52 h => ?_)
  ·
   rw [decide_eq_true h52]
   refine Gn 5 [(51, (pt gx0 0)), (52, .i x2), (53, .agg #[.i 4, .u 0, .u 0, .u 0, .u 0, .i x2, .i 0])] Jwc ?_
   have p1 := (p1.fr 2).fr 2
   refine bind_some' h fun y53 e54 h => ?_
   refine Gc (kc 40 [51, 53] #[86, 46]) 54 3 40 _ (W.z3y ulv (⟨4, [0, 0, 0, 0], x2, 0⟩ : T45) y53 e54 gx0 u1e ulv.length u1g u1h p1 uoq rfl rfl) ?_
   rintro _ w11 ⟨S11, uqb, uqc, uqd, uqe, rfl, z11, p11, uqf, rfl⟩
   refine Gn 5 [(55, (pt gx0 0)), (56, .slice (Gp Gx6) x6.length cx6), (57, .i x2)] Jwd ?_
   obtain ⟨S12, z12, p12, f56⟩ := p11.freezeRd 2 rfl (fx6.ext z11) (show (0 : Nat) < 2 by decide)
   refine bind_some' h fun y57 e58 h => ?_
   refine Gc (kc 59 [55, 56, 57] #[86, 104, 3]) 58 0 59 _ (ih_prog_writer_row (y53.2, x6, x2) y57 e58 gx0 uqb y53.2.length uqd uqe (Gp Gx6) x6.length cx6 p12 (uqf.ext z12) rfl f56 rfl) ?_
   rintro _ w13 ⟨S13, uqg, uqh, uqi, uqj, rfl, z13, p13, uqk, rfl⟩
   have p13 := p13.dp 2
   refine Gn 1 [] [] ?_
   obtain rfl := Option.some.inj h
   exact Goes.end_ (fn := Tryz.f39) (by kernel_rfl) (v := .tuple #[]) (by kernel_rfl) ⟨S13, uqg, y57.length, uqi, uqj, rfl, (((hx.trans z11).trans z12).trans z13), p13, uqk, rfl⟩
  ·
   rw [decide_eq_false h52]
   refine Gn 6 [(55, (pt gx0 0)), (56, .slice (Gp Gx6) x6.length cx6), (57, .i x2)] Jwd ?_
   obtain ⟨S14, z14, p14, f60⟩ := p1.freezeRd 0 rfl fx6 (show (0 : Nat) < 2 by decide)
   have p14 := (p14.fr 2).fr 2
   refine bind_some' h fun y61 e62 h => ?_
   refine Gc (kc 59 [55, 56, 57] #[86, 104, 3]) 58 0 59 _ (ih_prog_writer_row (ulv, x6, x2) y61 e62 gx0 u1e ulv.length u1g u1h (Gp Gx6) x6.length cx6 p14 (uoq.ext z14) rfl f60 rfl) ?_
   rintro _ w15 ⟨S15, uql, uqm, uqn, uqo, rfl, z15, p15, uqp, rfl⟩
   have p15 := p15.dp 2
   refine Gn 1 [] [] ?_
   obtain rfl := Option.some.inj h
   exact Goes.end_ (fn := Tryz.f39) (by kernel_rfl) (v := .tuple #[]) (by kernel_rfl) ⟨S15, uql, y61.length, uqn, uqo, rfl, ((hx.trans z14).trans z15), p15, uqp, rfl⟩
 ·
  intro uok uqq uon uqr ⟨x2, x29, x30, x31, ulv⟩ r h nz wz S0 w0 Lr gx0 S1 w1 hx uo6 uo7 uo8 u1e u1f u1g u1h p1 uqs uqt uoq uor junk
  try dsimp only at h
  subst uqt
  subst uor
  refine Gn 5 [(32, .bool (decide (x31 < x30)))] Jx0 ?_
  refine ite_some h (fun h22 h => ?_) (fun h22 h => ?_)
  ·
   rw [decide_eq_true h22]
   refine Gn 6 [] Jx4 ?_
   refine guard_some' h fun g23 h => ?_
   refine guard_some' h fun g24 h => ?_
   refine Op_.ixR_n 56 (.tmp 29) (.tmp 31) 33 0 58 .i64 x31 (gi x29 x31) rfl rfl uqs Goes.v (by kernel_rfl) (by kernel_rfl) (by kernel_rfl) (by kernel_rfl) g23 g24 ?_
   intro a25 _ f26 q27
   have q28 := q27
   obtain ⟨_, _, rfl, rfl, ⟨_, _, rfl, ⟨l29, f30⟩, ⟨_, _, rfl, ⟨A31, c32, rfl, f33⟩, ⟨_, _, rfl, rfl, rfl⟩⟩⟩⟩ := kT57_open q28
   obtain rfl := els_lit4' f30 l29
   refine Goes.ldN 58 (.tmp 33) 34 58 a25 ([.i ((gi x29 x31).Kind)] ++ ((U4 ((gi x29 x31).Set) []) ++ ([.slice A31 (((gi x29 x31).L).length) c32] ++ ([.i ((gi x29 x31).Min)] ++ [.i ((gi x29 x31).Max)])))) (f26.cell) ?_
   refine Op_.alloc 58 8 0 (.agg #[.i 0, .u 0, .u 0, .u 0, .u 0, .slice none 0 0, .i 0, .i 0]) [.i 0, .u 0, .u 0, .u 0, .u 0, .slice none 0 0, .i 0, .i 0] p1 Goes.v (by kernel_rfl) (by kernel_rfl) ?_
   intro b34 w6 z6 p6
   refine So 58 (.tmp 8) (.tmp 34) 0 0 b34 0 (ag (.i ((gi x29 x31).Kind) :: U4 ((gi x29 x31).Set) [.slice A31 (((gi x29 x31).L).length) c32, .i ((gi x29 x31).Min), .i ((gi x29 x31).Max)])) (.i ((gi x29 x31).Kind) :: U4 ((gi x29 x31).Set) [.slice A31 (((gi x29 x31).L).length) c32, .i ((gi x29 x31).Min), .i ((gi x29 x31).Max)]) p6 rfl Goes.s ?_
   intro w7 z7 p7
   have p7 : Hp nz wz S1 w7 ((some b34, .row 58 (.i ((gi x29 x31).Kind) :: U4 ((gi x29 x31).Set) [.slice A31 (((gi x29 x31).L).length) c32, .i ((gi x29 x31).Min), .i ((gi x29 x31).Max)]) 8 0) :: (some gx0, .row 88 [.slice (Gp u1e) ulv.length u1g] 1 0) :: (u1e, .row 46 u1h (u1g * kT45.size) 0) :: Lr) := p7
   refine Gn 4 [(35, .slice none 0 0), (36, (pt gx0 0))] Jx5 ?_
   refine Goes.ldN 58 (.tmp 8) 37 58 ⟨b34, 0, none⟩ (.i ((gi x29 x31).Kind) :: U4 ((gi x29 x31).Set) [.slice A31 (((gi x29 x31).L).length) c32, .i ((gi x29 x31).Min), .i ((gi x29 x31).Max)]) (p7.pa 0 0) ?_
   have p7 := (p7.fr 2).fr 2
   refine bind_some' h fun y36 e37 h => ?_
   refine Gc (kc 57 [36, 37] #[86, 58]) 38 109 57 _ (W.z3z ulv (⟨(gi x29 x31).Kind, ((gi x29 x31).Set), (gi x29 x31).L, (gi x29 x31).Min, (gi x29 x31).Max⟩ : T57) y36 e37 gx0 u1e ulv.length u1g u1h A31 (((gi x29 x31).L).length) c32 p7 (uoq.ext (z6.trans z7)) rfl l29 (f33.ext (z6.trans z7)) rfl) ?_
   rintro _ w8 ⟨S8, uo0, rfl, z8, p8, uo1⟩
   have p8 := p8.dp 2
   have f39 : Els (kT108 gx0) S8 w8 ([.i y36.n, uo0] : List Value) [y36] := by exact (Els.cons (K := (kT108 gx0)) (vs := [.i y36.n, uo0]) (x := y36) ⟨[.i y36.n], [uo0], rfl, rfl, uo1⟩ Els.nil)
   refine Op_.made (.buildSlice 104 1 #[(0, (.tmp 38))]) 39 104 (fun b => .slice (Gp (some b)) 1 1) 109 ([.i y36.n, uo0] : List Value) p8 Goes.v (by kernel_rfl) ?_
   intro b38 w9 z9 p9
   have p9 : Hp nz wz S8 w9 (((some b38), .row 109 ([.i y36.n, uo0] : List Value) (1 * (kT108 gx0).size) 0) :: (some gx0, .row 88 [.slice (Gp u1e) ulv.length u1g] 1 0) :: (u1e, .row 46 u1h (u1g * kT45.size) 0) :: Lr) := p9
   have p9 : Hp nz wz S8 w9 ((none, .row 109 [] (0 * (kT108 gx0).size) 0) :: ((some b38), .row 109 ([.i y36.n, uo0] : List Value) (1 * (kT108 gx0).size) 0) :: (some gx0, .row 88 [.slice (Gp u1e) ulv.length u1g] 1 0) :: (u1e, .row 46 u1h (u1g * kT45.size) 0) :: Lr) := p9.nilRow' 109
   refine guard_some' h fun g45 h => ?_
   refine Op_.ap_n (K := (kT108 gx0)) 104 (.tmp 35) (.tmp 39) 40 104 109 0 (.agg #[.i 0, .nilFunc]) 16 0 0 1 ([] : List T108) [y36] [y36] (Gp (some b38)) 1 rfl rfl (List.nil_append _) p9 rfl (Els.nil (K := (kT108 gx0))) Goes.v (by kernel_rfl) (by kernel_rfl) (by kernel_rfl) (by kernel_rfl) rfl (show (0 : Nat) < 2 by decide) (f39.ext z9) (src_own p9 (q := 1) rfl) (by have := g45; omega) (by have := g45; omega) ?_
   intro w10 G46 c47 u5y z10 p10 f49
   refine Gn 8 [(6, .slice (Gp G46) ([y36].length) c47), (41, .i (wr .i64 (x31 + 1))), (31, .i (wr .i64 (x31 + 1)))] Jvn ?_
   have p10 := p10.dp 1
   exact Gj 59 [(0, (pt gx0 0)), (2, .i x2), (6, .slice (Gp G46) ([y36].length) c47), (29, .slice uo6 x29.length uo8), (30, .i x30), (31, .i (wr .i64 (x31 + 1)))] (uqr _ _ h gx0 _ _ (((((hx.trans z6).trans z7).trans z8).trans z9).trans z10) G46 ([y36].length) c47 u5y uo6 x29.length uo8 u1e ulv.length u1g u1h p10 f49 rfl (uqs.ext ((((z6.trans z7).trans z8).trans z9).trans z10)) rfl (uoq.ext ((((z6.trans z7).trans z8).trans z9).trans z10)) rfl)
  ·
   rw [decide_eq_false h22]
   refine Gn 2 [] Jvk ?_
   exact Gj 59 [(0, (pt gx0 0)), (2, .i x2), (6, .slice none 0 0)] (uon _ _ h gx0 _ _ hx u1e ulv.length u1g u1h p1 uoq rfl)
 ·
  intro uol uqq uoo uqr ⟨x2, x6, x29, x30, x31, ulv⟩ r h nz wz S0 w0 Lr gx0 S1 w1 hx Gx6 nx6 cx6 u22 uo6 uo7 uo8 u1e u1f u1g u1h p1 fx6 lx6 uqs uqt uoq uor junk
  try dsimp only at h
  subst lx6
  subst uqt
  subst uor
  refine Gn 5 [(32, .bool (decide (x31 < x30)))] Jx0 ?_
  refine ite_some h (fun h70 h => ?_) (fun h70 h => ?_)
  ·
   rw [decide_eq_true h70]
   refine Gn 6 [] Jx4 ?_
   refine guard_some' h fun g71 h => ?_
   refine guard_some' h fun g72 h => ?_
   refine Op_.ixR_n 56 (.tmp 29) (.tmp 31) 33 0 58 .i64 x31 (gi x29 x31) rfl rfl uqs Goes.v (by kernel_rfl) (by kernel_rfl) (by kernel_rfl) (by kernel_rfl) g71 g72 ?_
   intro a73 _ f74 q75
   have q76 := q75
   obtain ⟨_, _, rfl, rfl, ⟨_, _, rfl, ⟨l77, f78⟩, ⟨_, _, rfl, ⟨A79, c80, rfl, f81⟩, ⟨_, _, rfl, rfl, rfl⟩⟩⟩⟩ := kT57_open q76
   obtain rfl := els_lit4' f78 l77
   refine Goes.ldN 58 (.tmp 33) 34 58 a73 ([.i ((gi x29 x31).Kind)] ++ ((U4 ((gi x29 x31).Set) []) ++ ([.slice A79 (((gi x29 x31).L).length) c80] ++ ([.i ((gi x29 x31).Min)] ++ [.i ((gi x29 x31).Max)])))) (f74.cell) ?_
   refine Op_.alloc 58 8 0 (.agg #[.i 0, .u 0, .u 0, .u 0, .u 0, .slice none 0 0, .i 0, .i 0]) [.i 0, .u 0, .u 0, .u 0, .u 0, .slice none 0 0, .i 0, .i 0] p1 Goes.v (by kernel_rfl) (by kernel_rfl) ?_
   intro b82 w18 z18 p18
   refine So 58 (.tmp 8) (.tmp 34) 0 0 b82 0 (ag (.i ((gi x29 x31).Kind) :: U4 ((gi x29 x31).Set) [.slice A79 (((gi x29 x31).L).length) c80, .i ((gi x29 x31).Min), .i ((gi x29 x31).Max)])) (.i ((gi x29 x31).Kind) :: U4 ((gi x29 x31).Set) [.slice A79 (((gi x29 x31).L).length) c80, .i ((gi x29 x31).Min), .i ((gi x29 x31).Max)]) p18 rfl Goes.s ?_
   intro w19 z19 p19
   have p19 : Hp nz wz S1 w19 ((some b82, .row 58 (.i ((gi x29 x31).Kind) :: U4 ((gi x29 x31).Set) [.slice A79 (((gi x29 x31).L).length) c80, .i ((gi x29 x31).Min), .i ((gi x29 x31).Max)]) 8 0) :: (Gx6, .row 109 u22 (cx6 * (kT108 gx0).size) 0) :: (some gx0, .row 88 [.slice (Gp u1e) ulv.length u1g] 1 0) :: (u1e, .row 46 u1h (u1g * kT45.size) 0) :: Lr) := p19
   refine Gn 4 [(35, .slice (Gp Gx6) x6.length cx6), (36, (pt gx0 0))] Jx5 ?_
   refine Goes.ldN 58 (.tmp 8) 37 58 ⟨b82, 0, none⟩ (.i ((gi x29 x31).Kind) :: U4 ((gi x29 x31).Set) [.slice A79 (((gi x29 x31).L).length) c80, .i ((gi x29 x31).Min), .i ((gi x29 x31).Max)]) (p19.pa 0 0) ?_
   have p19 := (p19.fr 3).fr 3
   refine bind_some' h fun y84 e85 h => ?_
   refine Gc (kc 57 [36, 37] #[86, 58]) 38 109 57 _ (W.z3z ulv (⟨(gi x29 x31).Kind, ((gi x29 x31).Set), (gi x29 x31).L, (gi x29 x31).Min, (gi x29 x31).Max⟩ : T57) y84 e85 gx0 u1e ulv.length u1g u1h A79 (((gi x29 x31).L).length) c80 p19 (uoq.ext (z18.trans z19)) rfl l77 (f81.ext (z18.trans z19)) rfl) ?_
   rintro _ w20 ⟨S20, unc, rfl, z20, p20, und⟩
   have p20 := p20.dp 2
   have f87 : Els (kT108 gx0) S20 w20 ([.i y84.n, unc] : List Value) [y84] := by exact (Els.cons (K := (kT108 gx0)) (vs := [.i y84.n, unc]) (x := y84) ⟨[.i y84.n], [unc], rfl, rfl, und⟩ Els.nil)
   refine Op_.made (.buildSlice 104 1 #[(0, (.tmp 38))]) 39 104 (fun b => .slice (Gp (some b)) 1 1) 109 ([.i y84.n, unc] : List Value) p20 Goes.v (by kernel_rfl) ?_
   intro b86 w21 z21 p21
   have p21 : Hp nz wz S20 w21 (((some b86), .row 109 ([.i y84.n, unc] : List Value) (1 * (kT108 gx0).size) 0) :: (some gx0, .row 88 [.slice (Gp u1e) ulv.length u1g] 1 0) :: (u1e, .row 46 u1h (u1g * kT45.size) 0) :: (Gx6, .row 109 u22 (cx6 * (kT108 gx0).size) 0) :: Lr) := p21
   refine guard_some' h fun g92 h => ?_
   refine Op_.ap_n (K := (kT108 gx0)) 104 (.tmp 35) (.tmp 39) 40 104 109 3 (.agg #[.i 0, .nilFunc]) 16 x6.length cx6 1 x6 [y84] (x6 ++ [y84]) (Gp (some b86)) 1 rfl rfl rfl p21 rfl (fx6.ext (((z18.trans z19).trans z20).trans z21)) Goes.v (by kernel_rfl) (by kernel_rfl) (by kernel_rfl) (by kernel_rfl) rfl (show (0 : Nat) < 2 by decide) (f87.ext z21) (src_own p21 (q := 0) rfl) (by have := g92; omega) (by have := g92; omega) ?_
   intro w22 G93 c94 uqu z22 p22 f96
   refine Gn 8 [(6, .slice (Gp G93) ((x6 ++ [y84]).length) c94), (41, .i (wr .i64 (x31 + 1))), (31, .i (wr .i64 (x31 + 1)))] Jvn ?_
   have p22 := p22.dp 0
   have p22 := ((p22.fr 1).fr 1).fr 2
   exact Gj 59 [(0, (pt gx0 0)), (2, .i x2), (6, .slice (Gp G93) ((x6 ++ [y84]).length) c94), (29, .slice uo6 x29.length uo8), (30, .i x30), (31, .i (wr .i64 (x31 + 1)))] (uqr _ _ h gx0 _ _ (((((hx.trans z18).trans z19).trans z20).trans z21).trans z22) G93 ((x6 ++ [y84]).length) c94 uqu uo6 x29.length uo8 u1e ulv.length u1g u1h p22 f96 rfl (uqs.ext ((((z18.trans z19).trans z20).trans z21).trans z22)) rfl (uoq.ext ((((z18.trans z19).trans z20).trans z21).trans z22)) rfl)
  ·
   rw [decide_eq_false h70]
   refine Gn 2 [] Jvk ?_
   exact Gj 59 [(0, (pt gx0 0)), (2, .i x2), (6, .slice (Gp Gx6) x6.length cx6)] (uoo _ _ h gx0 _ _ hx Gx6 x6.length cx6 u22 u1e ulv.length u1g u1h p1 fx6 rfl uoq rfl)
 ·
  intro uqv uqw ⟨umu, x1, x2⟩ r h nz wz S0 w0 Lr gx0 uh ui uj uk Ax1 nx1 cx1 p0 u14 u15 fx1 lx1
  try dsimp only at h
  subst u15
  subst lx1
  refine Zf Tryz.f56 B56 44 ?_
  refine Gj 47 [(0, (pt gx0 0)), (1, .slice Ax1 x1.length cx1), (2, .i x2)] fun junk => ?_
  refine Gn 9 [(9, .slice Ax1 x1.length cx1), (10, .i (x1.length : Int)), (11, .i 0)] Jvf ?_
  exact Gj 47 [(0, (pt gx0 0)), (1, .slice Ax1 x1.length cx1), (2, .i x2), (9, .slice Ax1 x1.length cx1), (10, .i (x1.length : Int)), (11, .i 0)] (uqw _ _ h gx0 _ _ (Ext.refl S0 w0) Ax1 x1.length cx1 Ax1 x1.length cx1 uh umu.length uj uk p0 fx1 rfl fx1 rfl u14 rfl)
 ·
  intro uqx uqy ⟨x1, x2, x9, x10, x11, ulv⟩ r h nz wz S0 w0 Lr gx0 S1 w1 hx Ax1 nx1 cx1 Ax9 nx9 cx9 u1e u1f u1g u1h p1 fx1 lx1 fx9 lx9 uoq uor junk
  try dsimp only at h
  subst lx1
  subst lx9
  subst uor
  refine Gn 5 [(12, .bool (decide (x11 < x10)))] Jx7 ?_
  refine ite_some h (fun h4 h => ?_) (fun h4 h => ?_)
  ·
   rw [decide_eq_true h4]
   refine Gn 7 [(13, .i x11)] Jx9 ?_
   refine guard_some' h fun g5 h => ?_
   refine guard_some' h fun g6 h => ?_
   refine Op_.ixR_n 56 (.tmp 9) (.tmp 11) 14 0 58 .i64 x11 (gi x9 x11) rfl rfl fx9 Goes.v (by kernel_rfl) (by kernel_rfl) (by kernel_rfl) (by kernel_rfl) g5 g6 ?_
   intro a7 _ f8 q9
   have q10 := q9
   obtain ⟨_, _, rfl, rfl, ⟨_, _, rfl, ⟨l11, f12⟩, ⟨_, _, rfl, ⟨A13, c14, rfl, f15⟩, ⟨_, _, rfl, rfl, rfl⟩⟩⟩⟩ := kT57_open q10
   obtain rfl := els_lit4' f12 l11
   refine Goes.ldN 58 (.tmp 14) 15 58 a7 ([.i ((gi x9 x11).Kind)] ++ ((U4 ((gi x9 x11).Set) []) ++ ([.slice A13 (((gi x9 x11).L).length) c14] ++ ([.i ((gi x9 x11).Min)] ++ [.i ((gi x9 x11).Max)])))) (f8.cell) ?_
   refine Op_.alloc 58 7 0 (.agg #[.i 0, .u 0, .u 0, .u 0, .u 0, .slice none 0 0, .i 0, .i 0]) [.i 0, .u 0, .u 0, .u 0, .u 0, .slice none 0 0, .i 0, .i 0] p1 Goes.v (by kernel_rfl) (by kernel_rfl) ?_
   intro b16 w2 z2 p2
   refine Gn 1 [(6, .i x11)] Jxa ?_
   refine So 58 (.tmp 7) (.tmp 15) 0 0 b16 0 (ag (.i ((gi x9 x11).Kind) :: U4 ((gi x9 x11).Set) [.slice A13 (((gi x9 x11).L).length) c14, .i ((gi x9 x11).Min), .i ((gi x9 x11).Max)])) (.i ((gi x9 x11).Kind) :: U4 ((gi x9 x11).Set) [.slice A13 (((gi x9 x11).L).length) c14, .i ((gi x9 x11).Min), .i ((gi x9 x11).Max)]) p2 rfl Goes.s ?_
   intro w3 z3 p3
   have p3 : Hp nz wz S1 w3 ((some b16, .row 58 (.i ((gi x9 x11).Kind) :: U4 ((gi x9 x11).Set) [.slice A13 (((gi x9 x11).L).length) c14, .i ((gi x9 x11).Min), .i ((gi x9 x11).Max)]) 8 0) :: (some gx0, .row 88 [.slice (Gp u1e) ulv.length u1g] 1 0) :: (u1e, .row 46 u1h (u1g * kT45.size) 0) :: Lr) := p3
   refine Gn 10 [(16, .i x11), (17, .slice Ax1 x1.length cx1), (18, .i (x1.length : Int)), (19, .i (wr .i64 ((x1.length : Int) - 1))), (20, .bool (decide (x11 < wr .i64 ((x1.length : Int) - 1))))] Jxb ?_
   refine ite_some h (fun h18 h => ?_) (fun h18 h => ?_)
   ·
    rw [decide_eq_true h18]
    refine Gn 6 [(21, (pt gx0 0)), (22, (pt gx0 0)), (23, (pt gx0 0))] Jxd ?_
    refine Goes.ld 22 (.tmp 23) 24 22 ⟨gx0, 0, none⟩ (.slice (Gp u1e) ulv.length u1g) (p3.c 1 0) ?_
    refine Gn 8 [(25, .i (ulv.length : Int)), (26, .i (wr .i64 ((ulv.length : Int) + 1))), (8, .i (wr .i64 ((ulv.length : Int) + 1))), (27, (pt gx0 0)), (28, .i (wr .i64 ((ulv.length : Int) + 1))), (29, .i (wr .i64 ((ulv.length : Int) + 1)))] Jxe ?_
    refine Goes.ldN 58 (.tmp 7) 30 58 ⟨b16, 0, none⟩ (.i ((gi x9 x11).Kind) :: U4 ((gi x9 x11).Set) [.slice A13 (((gi x9 x11).L).length) c14, .i ((gi x9 x11).Min), .i ((gi x9 x11).Max)]) (p3.pa 0 0) ?_
    refine bind_some' h fun y19 e20 h => ?_
    refine Gc (kc 55 [30] #[58]) 31 3 55 _ (W.z3u (⟨(gi x9 x11).Kind, ((gi x9 x11).Set), (gi x9 x11).L, (gi x9 x11).Min, (gi x9 x11).Max⟩ : T57) y19 e20 A13 (((gi x9 x11).L).length) c14 p3 l11 (f15.ext (z2.trans z3)) rfl) ?_
    rintro _ w4 ⟨S4, rfl, z4, p4⟩
    refine Gn 2 [(32, .i (wr .i64 ((wr .i64 ((ulv.length : Int) + 1)) + y19))), (33, .agg #[.i 2, .u 0, .u 0, .u 0, .u 0, .i (wr .i64 ((ulv.length : Int) + 1)), .i (wr .i64 ((wr .i64 ((ulv.length : Int) + 1)) + y19))])] Jxf ?_
    have p4 := (p4.fr 2).fr 2
    refine bind_some' h fun y21 e22 h => ?_
    refine Gc (kc 40 [27, 33] #[86, 46]) 34 3 40 _ (W.z3y ulv (⟨2, [0, 0, 0, 0], wr .i64 ((ulv.length : Int) + 1), wr .i64 ((wr .i64 ((ulv.length : Int) + 1)) + y19)⟩ : T45) y21 e22 gx0 u1e ulv.length u1g u1h p4 (uoq.ext ((z2.trans z3).trans z4)) rfl rfl) ?_
    rintro _ w5 ⟨S5, upg, uph, upi, upj, rfl, z5, p5, upk, rfl⟩
    refine Gn 1 [] Jvi ?_
    have p5 := ((p5.fr 1).fr 1).fr 2
    exact Gj 47 [(0, (pt gx0 0)), (1, .slice Ax1 x1.length cx1), (2, .i x2), (7, (pt b16 0)), (9, .slice Ax9 x9.length cx9), (10, .i x10), (11, .i x11)] (uqy _ _ h gx0 _ _ ((((hx.trans z2).trans z3).trans z4).trans z5) Ax1 x1.length cx1 b16 A13 (((gi x9 x11).L).length) c14 Ax9 x9.length cx9 upg y21.2.length upi upj p5 (fx1.ext (((z2.trans z3).trans z4).trans z5)) rfl l11 (f15.ext (((z2.trans z3).trans z4).trans z5)) rfl (fx9.ext (((z2.trans z3).trans z4).trans z5)) rfl upk rfl)
   ·
    rw [decide_eq_false h18]
    refine Gn 2 [] Jvi ?_
    exact Gj 47 [(0, (pt gx0 0)), (1, .slice Ax1 x1.length cx1), (2, .i x2), (7, (pt b16 0)), (9, .slice Ax9 x9.length cx9), (10, .i x10), (11, .i x11)] (uqy _ _ h gx0 _ _ ((hx.trans z2).trans z3) Ax1 x1.length cx1 b16 A13 (((gi x9 x11).L).length) c14 Ax9 x9.length cx9 u1e ulv.length u1g u1h p3 (fx1.ext (z2.trans z3)) rfl l11 (f15.ext (z2.trans z3)) rfl (fx9.ext (z2.trans z3)) rfl (uoq.ext (z2.trans z3)) rfl)
  ·
   rw [decide_eq_false h4]
   refine Gn 8 [(40, .slice Ax1 x1.length cx1), (41, .i (x1.length : Int)), (42, .bool (decide ((x1.length : Int) = 0)))] Jxg ?_
   refine ite_some h (fun h26 h => ?_) (fun h26 h => ?_)
   ·
    rw [decide_eq_true h26]
    refine Gn 5 [(43, (pt gx0 0)), (44, .i x2), (45, .agg #[.i 1, .u 0, .u 0, .u 0, .u 0, .i x2, .i 0])] Jxh ?_
    refine bind_some' h fun y27 e28 h => ?_
    refine Gc (kc 40 [43, 45] #[86, 46]) 46 3 40 _ (W.z3y ulv (⟨1, [0, 0, 0, 0], x2, 0⟩ : T45) y27 e28 gx0 u1e ulv.length u1g u1h p1 uoq rfl rfl) ?_
    rintro _ w6 ⟨S6, upl, upm, upn, upo, rfl, z6, p6, upp, rfl⟩
    refine Gn 1 [] [] ?_
    obtain rfl := Option.some.inj h
    exact Goes.end_ (fn := Tryz.f56) (by kernel_rfl) (v := .tuple #[]) (by kernel_rfl) ⟨S6, upl, y27.2.length, upn, upo, rfl, (hx.trans z6), p6, upp, rfl⟩
   ·
    rw [decide_eq_false h26]
    refine Gn 2 [] [] ?_
    obtain rfl := Option.some.inj h
    exact Goes.end_ (fn := Tryz.f56) (by kernel_rfl) (v := .tuple #[]) (by kernel_rfl) ⟨S1, u1e, ulv.length, u1g, u1h, rfl, hx, p1, uoq, rfl⟩
 ·
  intro rec_prog_writer_code uqv ih_prog_writer_code uqw ⟨x1, x2, x7v, x9, x10, x11, ulv⟩ r h nz wz S0 w0 Lr gx0 S1 w1 hx Ax1 nx1 cx1 gx7 uo3 uo4 uo5 Ax9 nx9 cx9 u1e u1f u1g u1h p1 fx1 lx1 uqz ur0 ur1 fx9 lx9 uoq uor junk
  try dsimp only at h
  subst lx1
  subst ur1
  subst lx9
  subst uor
  refine Gn 2 [(35, (pt gx0 0))] Jxi ?_
  refine Goes.ldN 58 (.tmp 7) 36 58 ⟨gx7, 0, none⟩ (.i x7v.Kind :: U4 x7v.Set [.slice uo3 x7v.L.length uo5, .i x7v.Min, .i x7v.Max]) (p1.pa 0 0) ?_
  refine Gn 1 [(37, .i x2)] Jxj ?_
  have p1 := (p1.fr 2).fr 2
  refine bind_some' h fun y30 e31 h => ?_
  refine Gc (kc 39 [35, 36, 37] #[86, 58, 3]) 38 0 39 _ (ih_prog_writer_code (ulv, x7v, x2) y30 e31 gx0 u1e ulv.length u1g u1h uo3 x7v.L.length uo5 p1 uoq rfl uqz ur0 rfl) ?_
  rintro _ w7 ⟨S7, upq, upr, ups, upt, rfl, z7, p7, upu, rfl⟩
  have p7 := p7.dp 2
  refine Gn 7 [(39, .i (wr .i64 (x11 + 1))), (11, .i (wr .i64 (x11 + 1)))] Jvf ?_
  exact Gj 47 [(0, (pt gx0 0)), (1, .slice Ax1 x1.length cx1), (2, .i x2), (9, .slice Ax9 x9.length cx9), (10, .i x10), (11, .i (wr .i64 (x11 + 1)))] (uqw _ _ h gx0 _ _ (hx.trans z7) Ax1 x1.length cx1 Ax9 x9.length cx9 upq y30.length ups upt p7 (fx1.ext z7) rfl (fx9.ext z7) rfl upu rfl)

theorem W.z47 : ∀ a r, M.prog_writer_code a = some r → LF.z47 a r := (W.z4m).1

theorem W.z4l : ∀ a r, M.prog_writer_code_l2 a = some r → LL.z4l a r := (W.z4m).2.1

theorem W.z49 : ∀ a r, M.prog_writer_row a = some r → LF.z49 a r := (W.z4m).2.2.1

theorem W.z4i : ∀ a r, M.prog_writer_row_l0 a = some r → LL.z4i a r := (W.z4m).2.2.2.1

theorem W.z4j : ∀ a r, M.prog_writer_row_l1 a = some r → LL.z4j a r := (W.z4m).2.2.2.2.1

theorem W.z4c : ∀ a r, M.prog_writer_perhaps_1 a = some r → LF.z4c a r := (W.z4m).2.2.2.2.2.1

theorem W.z4b : ∀ a r, M.prog_writer_loop_1 a = some r → LF.z4b a r := (W.z4m).2.2.2.2.2.2.1

theorem W.z4k : ∀ a r, M.prog_writer_row_l2 a = some r → LL.z4k a r := (W.z4m).2.2.2.2.2.2.2.1

theorem W.z4a : ∀ a r, M.prog_writer_of_1 a = some r → LF.z4a a r := (W.z4m).2.2.2.2.2.2.2.2.1

theorem W.z4h : ∀ a r, M.prog_writer_code_l1 a = some r → LL.z4h a r := (W.z4m).2.2.2.2.2.2.2.2.2.1

theorem W.z4f : ∀ a r, M.prog_writer_code_l0 a = some r → LL.z4f a r := (W.z4m).2.2.2.2.2.2.2.2.2.2.1

theorem W.z4g : ∀ a r, M.prog_writer_code_l3 a = some r → LL.z4g a r := (W.z4m).2.2.2.2.2.2.2.2.2.2.2.1

theorem W.z48 : ∀ a r, M.prog_writer_any a = some r → LF.z48 a r := (W.z4m).2.2.2.2.2.2.2.2.2.2.2.2.1

theorem W.z4d : ∀ a r, M.prog_writer_any_l0 a = some r → LL.z4d a r := (W.z4m).2.2.2.2.2.2.2.2.2.2.2.2.2.1

theorem W.z4e : ∀ a r, M.prog_writer_any_l1 a = some r → LL.z4e a r := (W.z4m).2.2.2.2.2.2.2.2.2.2.2.2.2.2

def Jxk := Zs [1] B22 []
def Jxl := Zt [0] B22 [0, 1, 2] Jxk
def Jxm := Zs [1, 1] B22 []
def Jxn := Zt [1, 0] B22 [0, 1, 2, 3, 4, 5, 6] Jxm
def Jxo := Zs [1, 1, 1] B22 []
def Jxp := Zb 0 Jxo
def Jxq := Zs [1, 1, 0, 0, 1] B22 Jxp
def Jxr := Zs [1, 1, 0, 0, 1, 1, 1] B22 Jxp
def Jxs := Zs [1, 1, 0, 0, 1, 1, 1, 0, 1] B22 Jxp
def Jxt := Zs [1, 1, 1, 1] B22 []
def Jxu := Zt [1, 1, 1, 0] B22 [1, 2] Jxt
def Jxv := Zs [1, 1, 1, 1, 1] B22 []
def Qpj := sub [1, 1, 1, 1, 0] B22
def Jxw := Zr Qpj [1, 2, 3, 4] Jxv
def Jxx := Zr Qpj [4] Jxv
def Jxy := Zs [1, 1, 1, 1, 1, 1] B22 []
def Jxz := Zt [1, 1, 1, 1, 1, 0] B22 [2] Jxy
def Jy0 := Zs [1, 1, 1, 1, 1, 1, 1] B22 []
def Jy1 := Zt [1, 1, 1, 1, 1, 1, 0] B22 [3, 4, 5, 6] Jy0
def Jy2 := Zs [1, 1, 0, 0, 1, 0, 1] B22 Jxp

def Post.z4n (r : (List T45) × Int) (v : Value) (w' : World) : Prop :=
 ∃ S' u62 u63 u64 u65, v = .tuple #[.slice (Gp u62) u63 u64, .i r.2] ∧ Ext S0 w0 S' w' ∧ Hp nz wz S' w' ((u62, .row 46 u65 (u64 * kT45.size) 0) :: Lr) ∧ Els kT45 S' w' u65 r.1 ∧ r.1.length = u63

theorem W.z4n (x0 : T57) (r : (List T45) × Int) (h : M.prog_Make x0 = some r) {nz wz S0 w0 Lr} (uls ult ulu) (p0 : Hp nz wz S0 w0 (Lr)) (u1 : x0.Set.length = 4) (um4 : Rd kT57 S0 w0 uls ulu x0.L) (um5 : x0.L.length = ult) :
  Calls Tryz.prog 22 #[(ag (.i x0.Kind :: U4 x0.Set [.slice uls ult ulu, .i x0.Min, .i x0.Max]))] w0 (Rets (Post.z4n nz wz S0 w0 Lr r)) := by
 subst um5
 refine Zf Tryz.f22 B22 33 ?_
 refine Gj 34 [(0, (ag (.i x0.Kind :: U4 x0.Set [.slice uls x0.L.length ulu, .i x0.Min, .i x0.Max])))] fun junk => ?_
 delta M.prog_Make at h
 refine Gn 2 [] Jxl ?_
 refine Op_.box 58 (.tmp 0) 1 0 (ag (.i x0.Kind :: U4 x0.Set [.slice uls x0.L.length ulu, .i x0.Min, .i x0.Max])) (.i x0.Kind :: U4 x0.Set [.slice uls x0.L.length ulu, .i x0.Min, .i x0.Max]) p0 Goes.v (by kernel_rfl) (by kernel_rfl) ?_
 intro b1 w2 z2 p2
 refine Gn 5 [(2, .slice none 0 0), (3, .i 0)] Jxn ?_
 refine Goes.ldN 58 (.tmp 1) 8 58 ⟨b1, 0, none⟩ (.i x0.Kind :: U4 x0.Set [.slice uls x0.L.length ulu, .i x0.Min, .i x0.Max]) (p2.pa 0 0) ?_
 refine bind_some' h fun y3 e4 h => ?_
 refine Gc (kc 38 [8] #[58]) 9 84 38 _ (W.z3x x0 y3 e4 uls x0.L.length ulu p2 u1 (um4.ext z2) rfl) ?_
 rintro _ w3 ⟨S3, rfl, z3, p3⟩
 refine Gn 14 [(7, .tuple #[.i y3.1, .i y3.2]), (10, .i y3.1), (11, .i y3.2), (4, .i y3.1), (5, .i y3.2), (13, .i y3.2), (14, .bool (!(decide (y3.2 = 0)))), (12, .bool (!(decide (y3.2 = 0))))] Jxq ?_
 refine ite_some h (fun h5 h => ?_) (fun h5 h => ?_)
 ·
  rw [decide_eq_true h5]
  refine Gn 7 [(17, .i y3.1), (18, .bool (decide (y3.1 > 2048))), (16, .bool (decide (y3.1 > 2048)))] Jxr ?_
  refine ite_some h (fun h6 h => ?_) (fun h6 h => ?_)
  ·
   rw [decide_eq_true h6]
   refine Gn 6 [(2, .slice none 0 0), (3, .i 110)] Jxs ?_
   have p3 : Hp nz wz S3 w3 ((none, .row 46 [] (0 * kT45.size) 0) :: (some b1, .row 58 (.i x0.Kind :: U4 x0.Set [.slice uls x0.L.length ulu, .i x0.Min, .i x0.Max]) 8 0) :: Lr) := p3.nilRow' 46
   obtain rfl := Option.some.inj h
   have p3 := p3.dp 1
   exact Goes.rt Tryz.f22 (.tuple #[.slice (Gp none) 0 0, .i 110]) ⟨S3, none, 0, 0, [], rfl, (((Ext.refl S0 w0).trans z2).trans z3), p3, (Els.nil (K := kT45)), rfl⟩
  ·
   rw [decide_eq_false h6]
   refine Gn 6 [(19, .agg #[.slice none 0 0])] Jxu ?_
   refine Op_.box 88 (.tmp 19) 20 86 (.agg #[.slice none 0 0]) [.slice none 0 0] p3 Goes.v (by kernel_rfl) (by kernel_rfl) ?_
   intro b8 w4 z4 p4
   refine Gn 5 [(6, (pt b8 0)), (21, (pt b8 0))] Jxw ?_
   refine Goes.ldN 58 (.tmp 1) 22 58 ⟨b1, 0, none⟩ (.i x0.Kind :: U4 x0.Set [.slice uls x0.L.length ulu, .i x0.Min, .i x0.Max]) (p4.pa 1 0) ?_
   refine Gn 2 [(23, .i y3.1), (24, .i (wr .i64 (y3.1 - 1)))] Jxx ?_
   have p4 : Hp nz wz S3 w4 ((none, .row 46 [] (0 * kT45.size) 0) :: (some b8, .row 88 [.slice none 0 0] 1 0) :: (some b1, .row 58 (.i x0.Kind :: U4 x0.Set [.slice uls x0.L.length ulu, .i x0.Min, .i x0.Max]) 8 0) :: Lr) := p4.nilRow' 46
   have p4 := (p4.fr 0).fr 1
   refine bind_some' h fun y11 e12 h => ?_
   refine Gc (kc 39 [21, 22, 24] #[86, 58, 3]) 25 0 39 _ (W.z47 (([] : List T45), x0, wr .i64 (y3.1 - 1)) y11 e12 b8 none 0 0 [] uls x0.L.length ulu p4 (Els.nil (K := kT45)) rfl u1 (um4.ext ((z2.trans z3).trans z4)) rfl) ?_
   rintro _ w5 ⟨S5, upg, uph, upi, upj, rfl, z5, p5, upk, rfl⟩
   have p5 := p5.dp 2
   refine Gn 5 [(26, (pt b8 0)), (27, .agg #[.i 3, .u 0, .u 0, .u 0, .u 0, .i 0, .i 0])] Jxz ?_
   refine bind_some' h fun y14 e15 h => ?_
   refine Gc (kc 40 [26, 27] #[86, 46]) 28 3 40 _ (W.z3y y11 (⟨3, [0, 0, 0, 0], 0, 0⟩ : T45) y14 e15 b8 upg y11.length upi upj p5 upk rfl rfl) ?_
   rintro _ w6 ⟨S6, upl, upm, upn, upo, rfl, z6, p6, upp, rfl⟩
   refine Gn 6 [(29, (pt b8 0)), (30, (pt b8 0)), (31, (pt b8 0))] Jy1 ?_
   refine Goes.ld 22 (.tmp 31) 32 22 ⟨b8, 0, none⟩ (.slice (Gp upl) y14.2.length upn) (p6.c 0 0) ?_
   refine Gn 4 [(33, .i y3.2), (2, .slice (Gp upl) y14.2.length upn), (3, .i y3.2)] Jy0 ?_
   obtain rfl := Option.some.inj h
   have p6 := p6.dp 0
   exact Goes.rt Tryz.f22 (.tuple #[.slice (Gp upl) y14.2.length upn, .i y3.2]) ⟨S6, upl, y14.2.length, upn, upo, rfl, ((((((Ext.refl S0 w0).trans z2).trans z3).trans z4).trans z5).trans z6), p6, upp, rfl⟩
 ·
  rw [decide_eq_false h5]
  refine Gn 7 [(15, .i y3.2), (2, .slice none 0 0), (3, .i y3.2)] Jy2 ?_
  have p3 : Hp nz wz S3 w3 ((none, .row 46 [] (0 * kT45.size) 0) :: (some b1, .row 58 (.i x0.Kind :: U4 x0.Set [.slice uls x0.L.length ulu, .i x0.Min, .i x0.Max]) 8 0) :: Lr) := p3.nilRow' 46
  obtain rfl := Option.some.inj h
  have p3 := p3.dp 1
  exact Goes.rt Tryz.f22 (.tuple #[.slice (Gp none) 0 0, .i y3.2]) ⟨S3, none, 0, 0, [], rfl, (((Ext.refl S0 w0).trans z2).trans z3), p3, (Els.nil (K := kT45)), rfl⟩

def Jy3 := Zs [1, 1] B41 []
def Jy4 := Zt [1, 0] B41 [1, 2, 3, 4, 5, 6] Jy3
def Jy5 := Zs [1, 1, 1] B41 []
def Jy6 := Zs [1, 1, 0, 1] B41 Jy5
def Jy7 := Zt [1, 1, 0, 0] B41 [3, 4, 5, 6] Jy6
def Jy8 := Zs [1, 1, 1, 1] B41 []

def Post.z4o (r : (T50 × Int) ⊕ Int) (v : Value) (w' : World) : Prop :=
 match r with
 | .inl r => ∃ S' u30 u31 u32 u33 u34 u35 u36 u37 u38 u39 u3a u3b u3c u3d u3e u3f u3g u3h u3i u3j u3k u3l u3m, v = .tuple #[(pt u30 0), .i r.2] ∧ Ext S0 w0 S' w' ∧ Hp nz wz S' w' ((some u30, .row 51 [.slice (Gp u31) u32 u33, (pt u35 0), (pt u3e 0)] 3 0) :: (u31, .row 46 u34 (u33 * kT45.size) 0) :: (some u35, .row 66 [.slice (Gp u36) u37 u38, .slice (Gp u3a) u3b u3c] 2 0) :: (u36, .row 3 u39 (u38 * (kInt .i64).size) 0) :: (u3a, .row 49 u3d (u3c * (kInt .i64).size) 0) :: (some u3e, .row 66 [.slice (Gp u3f) u3g u3h, .slice (Gp u3j) u3k u3l] 2 0) :: (u3f, .row 3 u3i (u3h * (kInt .i64).size) 0) :: (u3j, .row 49 u3m (u3l * (kInt .i64).size) 0) :: Lr) ∧ Els kT45 S' w' u34 r.1.l ∧ r.1.l.length = u32 ∧ Els (kInt .i64) S' w' u39 r.1.now.place ∧ r.1.now.place.length = u37 ∧ Els (kInt .i64) S' w' u3d r.1.now.list ∧ r.1.now.list.length = u3b ∧ Els (kInt .i64) S' w' u3i r.1.next.place ∧ r.1.next.place.length = u3g ∧ Els (kInt .i64) S' w' u3m r.1.next.list ∧ r.1.next.list.length = u3k
 | .inr (r) => ∃ S', v = .tuple #[.pointer none, .i r] ∧ Ext S0 w0 S' w' ∧ Hp nz wz S' w' (Lr)

theorem W.z4o (x0 : List T45) (x1 : ByteArray) (r : (T50 × Int) ⊕ Int) (h : M.sim_begin x0 x1 = some r) {nz wz S0 w0 Lr} (Ax0 nx0 cx0) (p0 : Hp nz wz S0 w0 (Lr)) (fx0 : Rd kT45 S0 w0 Ax0 cx0 x0) (lx0 : x0.length = nx0) :
  Calls Tryz.prog 41 #[.slice Ax0 nx0 cx0, .string x1] w0 (Rets (Post.z4o nz wz S0 w0 Lr r)) := by
 subst lx0
 refine Zf Tryz.f41 B41 20 ?_
 refine Gj 22 [(0, .slice Ax0 x0.length cx0), (1, .string x1)] fun junk => ?_
 delta M.sim_begin at h
 refine Gn 8 [(4, .pointer none), (5, .i 0), (9, .slice Ax0 x0.length cx0)] Jy4 ?_
 refine bind_some' h fun y1 e2 h => ?_
 rcases y1 with ur2 | ur3
 ·
  try dsimp only at h
  refine Gc (kc 4 [9] #[22]) 10 27 4 _ (W.ze x0 (Sum.inl ur2) e2 Ax0 x0.length cx0 p0 fx0 rfl) ?_
  rintro _ w2 ⟨S2, ur4, ur5, ur6, ur7, ur8, ur9, ura, urb, urc, urd, ure, urf, urg, urh, uri, urj, urk, url, urm, urn, uro, urp, urq, rfl, z2, p2, urr, rfl, urs, rfl, urt, rfl, uru, rfl, urv, rfl⟩
  refine Gn 12 [(8, .tuple #[(pt ur4 0), .i ur2.2]), (11, (pt ur4 0)), (12, .i ur2.2), (6, (pt ur4 0)), (7, .i ur2.2), (13, .i ur2.2), (14, .bool (decide (ur2.2 = 0))), (15, .bool (decide (ur2.2 = 0)))] Jy7 ?_
  refine ite_some h (fun h11 h => ?_) (fun h11 h => ?_)
  ·
   rw [decide_eq_true h11]
   refine Gn 5 [(16, .string x1), (17, .i (x1.size : Int)), (18, .bool (decide ((x1.size : Int) > 65536))), (19, .bool (decide ((x1.size : Int) > 65536)))] Jy6 ?_
   refine ite_some h (fun h12 h => ?_) (fun h12 h => ?_)
   ·
    rw [decide_eq_true h12]
    refine Gn 11 [(7, .i 3), (20, (pt ur4 0)), (21, .i 3), (4, (pt ur4 0)), (5, .i 3)] Jy8 ?_
    obtain rfl := Option.some.inj h
    exact Goes.rt Tryz.f41 (.tuple #[(pt ur4 0), .i 3]) ⟨S2, ur4, ur5, ur2.1.l.length, ur7, ur8, ur9, ura, ur2.1.now.place.length, urc, urd, ure, ur2.1.now.list.length, urg, urh, uri, urj, ur2.1.next.place.length, url, urm, urn, ur2.1.next.list.length, urp, urq, rfl, ((Ext.refl S0 w0).trans z2), p2, urr, rfl, urs, rfl, urt, rfl, uru, rfl, urv, rfl⟩
   ·
    rw [decide_eq_false h12]
    refine Gn 9 [(20, (pt ur4 0)), (21, .i ur2.2), (4, (pt ur4 0)), (5, .i ur2.2)] Jy8 ?_
    obtain rfl := Option.some.inj h
    exact Goes.rt Tryz.f41 (.tuple #[(pt ur4 0), .i ur2.2]) ⟨S2, ur4, ur5, ur2.1.l.length, ur7, ur8, ur9, ura, ur2.1.now.place.length, urc, urd, ure, ur2.1.now.list.length, urg, urh, uri, urj, ur2.1.next.place.length, url, urm, urn, ur2.1.next.list.length, urp, urq, rfl, ((Ext.refl S0 w0).trans z2), p2, urr, rfl, urs, rfl, urt, rfl, uru, rfl, urv, rfl⟩
  ·
   rw [decide_eq_false h11]
   refine Gn 14 [(16, undef), (17, undef), (18, undef), (19, .bool false), (20, (pt ur4 0)), (21, .i ur2.2), (4, (pt ur4 0)), (5, .i ur2.2)] Jy8 ?_
   obtain rfl := Option.some.inj h
   exact Goes.rt Tryz.f41 (.tuple #[(pt ur4 0), .i ur2.2]) ⟨S2, ur4, ur5, ur2.1.l.length, ur7, ur8, ur9, ura, ur2.1.now.place.length, urc, urd, ure, ur2.1.now.list.length, urg, urh, uri, urj, ur2.1.next.place.length, url, urm, urn, ur2.1.next.list.length, urp, urq, rfl, ((Ext.refl S0 w0).trans z2), p2, urr, rfl, urs, rfl, urt, rfl, uru, rfl, urv, rfl⟩
 ·
  try dsimp only at h
  refine Gc (kc 4 [9] #[22]) 10 27 4 _ (W.ze x0 (Sum.inr ur3) e2 Ax0 x0.length cx0 p0 fx0 rfl) ?_
  rintro _ w3 ⟨S3, rfl, z3, p3⟩
  refine Gn 12 [(8, .tuple #[.pointer none, .i ur3]), (11, .pointer none), (12, .i ur3), (6, .pointer none), (7, .i ur3), (13, .i ur3), (14, .bool (decide (ur3 = 0))), (15, .bool (decide (ur3 = 0)))] Jy7 ?_
  refine ite_some h (fun h13 h => ?_) (fun h13 h => ?_)
  ·
   rw [decide_eq_true h13]
   refine Gn 5 [(16, .string x1), (17, .i (x1.size : Int)), (18, .bool (decide ((x1.size : Int) > 65536))), (19, .bool (decide ((x1.size : Int) > 65536)))] Jy6 ?_
   refine ite_some h (fun h14 h => ?_) (fun h14 h => ?_)
   ·
    rw [decide_eq_true h14]
    refine Gn 11 [(7, .i 3), (20, .pointer none), (21, .i 3), (4, .pointer none), (5, .i 3)] Jy8 ?_
    obtain rfl := Option.some.inj h
    exact Goes.rt Tryz.f41 (.tuple #[.pointer none, .i 3]) ⟨S3, rfl, ((Ext.refl S0 w0).trans z3), p3⟩
   ·
    rw [decide_eq_false h14]
    refine Gn 9 [(20, .pointer none), (21, .i ur3), (4, .pointer none), (5, .i ur3)] Jy8 ?_
    obtain rfl := Option.some.inj h
    exact Goes.rt Tryz.f41 (.tuple #[.pointer none, .i ur3]) ⟨S3, rfl, ((Ext.refl S0 w0).trans z3), p3⟩
  ·
   rw [decide_eq_false h13]
   refine Gn 14 [(16, undef), (17, undef), (18, undef), (19, .bool false), (20, .pointer none), (21, .i ur3), (4, .pointer none), (5, .i ur3)] Jy8 ?_
   obtain rfl := Option.some.inj h
   exact Goes.rt Tryz.f41 (.tuple #[.pointer none, .i ur3]) ⟨S3, rfl, ((Ext.refl S0 w0).trans z3), p3⟩

def Jy9 := Zs [1, 1, 1, 1] B35 []
def Jya := Zb 0 Jy9
def Qpw := sub [1, 1, 1, 0, 1, 0, 0] B35
def Jyb := Zl Qpw Jya
def Jyc := Zc Qpw Jyb
def Jyd := Zs [1, 1, 1, 0, 1, 0, 0, 1, 1] B35 Jyb
def Jye := Zs [1, 1, 1, 0, 1, 0, 0, 1, 0] B35 Jyd
def Jyf := Zs [1, 1, 1, 0, 1, 0, 0, 1, 1, 1] B35 Jyb
def Jyg := Zb 1 Jyf
def Jyh := Zs [1, 1, 1, 0, 1, 0, 0, 1, 1, 0, 0, 1, 1] B35 Jyg
def Jyi := Zt [1, 1, 1, 0, 1, 0, 0, 1, 1, 0, 0, 1, 0] B35 [3, 4, 5] Jyh
def Jyj := Zs [1, 1, 1, 0, 1, 0, 0, 1, 1, 0, 0, 1, 1, 0, 1] B35 Jyg
def Jyk := Zs [1, 1, 1, 1, 1] B35 []
def Jyl := Zt [1, 1, 1, 1, 0] B35 [1, 2, 3, 4] Jyk

def Post.z4p (r : Bool × Int) (v : Value) (w' : World) : Prop :=
 ∃ S', v = .tuple #[.bool r.1, .i r.2] ∧ Ext S0 w0 S' w' ∧ Hp nz wz S' w' (Lr)

def L.z4q : ByteArray × T50 × Int × Int × Int → (Bool × Int) → Prop := fun ⟨x1, x6v, x7, x19, x20⟩ r => ∀ S1 w1, Ext S0 w0 S1 w1 → ∀ gx6 urw urx ury urz us0 us1 us2 us3 us4 us5 us6 us7 us8 us9 usa usb usc usd use usf usg ush (_ : Hp nz wz S1 w1 ((some gx6, .row 51 [.slice (Gp urw) urx ury, (pt us0 0), (pt us9 0)] 3 0) :: (urw, .row 46 urz (ury * kT45.size) 0) :: (some us0, .row 66 [.slice (Gp us1) us2 us3, .slice (Gp us5) us6 us7] 2 0) :: (us1, .row 3 us4 (us3 * (kInt .i64).size) 0) :: (us5, .row 49 us8 (us7 * (kInt .i64).size) 0) :: (some us9, .row 66 [.slice (Gp usa) usb usc, .slice (Gp use) usf usg] 2 0) :: (usa, .row 3 usd (usc * (kInt .i64).size) 0) :: (use, .row 49 ush (usg * (kInt .i64).size) 0) :: Lr)) (_ : Els kT45 S1 w1 urz x6v.l) (_ : x6v.l.length = urx) (_ : Els (kInt .i64) S1 w1 us4 x6v.now.place) (_ : x6v.now.place.length = us2) (_ : Els (kInt .i64) S1 w1 us8 x6v.now.list) (_ : x6v.now.list.length = us6) (_ : Els (kInt .i64) S1 w1 usd x6v.next.place) (_ : x6v.next.place.length = usb) (_ : Els (kInt .i64) S1 w1 ush x6v.next.list) (_ : x6v.next.list.length = usf) (junk : Nat → Value),
 Goes Tryz.prog (base 35) Jyc ⟨lfr 34 [(1, .string x1), (6, (pt gx6 0)), (7, .i x7), (19, .i x19), (20, .i x20)] junk, []⟩ w1 (Done Tryz.prog 35 (Rets (Post.z4p nz wz S0 w0 Lr r)))

theorem W.z4q {nz wz S0 w0 Lr} : ∀ a r, M.sim_Match_l0 a = some r → (L.z4q nz wz S0 w0 Lr) a r := by
 refine M.sim_Match_l0.partial_correctness (motive := (L.z4q nz wz S0 w0 Lr)) ?_
 intro usi usj ⟨x1, x6v, x7, x19, x20⟩ r h S1 w1 hx gx6 urw urx ury urz us0 us1 us2 us3 us4 us5 us6 us7 us8 us9 usa usb usc usd use usf usg ush p1 usk ugc usl usm usn uso usp usq usr uss junk
 try dsimp only at h
 subst ugc
 subst usm
 subst uso
 subst usq
 subst uss
 refine Gn 5 [(21, .bool (decide (x20 < x19)))] Jye ?_
 refine ite_some h (fun h21 h => ?_) (fun h21 h => ?_)
 ·
  rw [decide_eq_true h21]
  refine Gn 14 [(22, .i x20), (8, .i x20), (23, (pt gx6 0)), (24, .string x1), (25, .i x20)] Jyi ?_
  refine guard_some' h fun g22 h => ?_
  refine guard_some' h fun g23 h => ?_
  refine Op_.ixS 9 (.tmp 24) (.tmp 25) 26 5 .i64 x1 x20 Goes.v (by kernel_rfl) (by kernel_rfl) (by kernel_rfl) g22 g23 ?_
  refine bind_some' h fun y24 e25 h => ?_
  refine Gc (kc 14 [23, 26] #[25, 5]) 27 4 14 _ (W.z1t x6v (bt x1 x20) y24 e25 gx6 urw x6v.l.length ury urz us0 us1 x6v.now.place.length us3 us4 us5 x6v.now.list.length us7 us8 us9 usa x6v.next.place.length usc usd use x6v.next.list.length usg ush p1 usk rfl usl rfl usn rfl usp rfl usr rfl) ?_
  rintro _ w4 ⟨S4, ucl, ucm, ucn, uco, uao, uap, uaq, uar, uas, uat, uau, uav, rfl, z4, p4, uct, rfl, uaw, rfl, uax, rfl⟩
  refine Gn 2 [(28, .bool (!y24.1))] Jyh ?_
  refine ite_some h (fun h29 h => ?_) (fun h29 h => ?_)
  ·
   rw [h29]
   refine Gn 8 [(30, .i (wr .i64 (x20 + 1))), (20, .i (wr .i64 (x20 + 1)))] Jyc ?_
   have p4 := (((((((p4.fr 4).fr 4).fr 4).fr 7).fr 7).fr 7).fr 7).fr 7
   exact Gj 34 [(1, .string x1), (6, (pt gx6 0)), (7, .i x7), (19, .i x19), (20, .i (wr .i64 (x20 + 1)))] (usj _ _ h _ _ (hx.trans z4) gx6 ucl y24.2.1.length ucn uco us9 uao y24.2.2.place.length uaq uar uas y24.2.2.list.length uau uav us0 us1 x6v.now.place.length us3 us4 us5 x6v.now.list.length us7 us8 p4 uct rfl uaw rfl uax rfl (usl.ext z4) rfl (usn.ext z4) rfl)
  ·
   have u2p : y24.1 = false := by simpa using h29
   rw [u2p]
   refine Gn 7 [(29, .i x7), (4, .bool false), (5, .i x7)] Jyj ?_
   obtain rfl := Option.some.inj h
   have p4 := (((((((p4.dp 0).dp 0).dp 0).dp 0).dp 0).dp 0).dp 0).dp 0
   exact Goes.rt Tryz.f35 (.tuple #[.bool false, .i x7]) ⟨S4, rfl, (hx.trans z4), p4⟩
 ·
  rw [decide_eq_false h21]
  refine Gn 5 [(31, (pt gx6 0))] Jyl ?_
  refine bind_some' h fun y30 e31 h => ?_
  refine Gc (kc 11 [31] #[25]) 32 4 11 _ (W.z1j x6v y30 e31 gx6 urw x6v.l.length ury urz us0 us1 x6v.now.place.length us3 us4 us5 x6v.now.list.length us7 us8 us9 usa x6v.next.place.length usc usd use x6v.next.list.length usg ush p1 usk rfl usl rfl usn rfl usp rfl usr rfl) ?_
  rintro _ w5 ⟨S5, rfl, z5, p5⟩
  have p5 := (((((((p5.dp 0).dp 0).dp 0).dp 0).dp 0).dp 0).dp 0).dp 0
  refine Gn 4 [(33, .i x7), (4, .bool y30), (5, .i x7)] Jyk ?_
  obtain rfl := Option.some.inj h
  exact Goes.rt Tryz.f35 (.tuple #[.bool y30, .i x7]) ⟨S5, rfl, (hx.trans z5), p5⟩

def Jym := Zr Q1a [8, 9] J1t

def Post.z4r (r : Unit) (v : Value) (w' : World) : Prop :=
 ∃ S', v = .bool false ∧ Ext S0 w0 S' w' ∧ Hp nz wz S' w' (Lr)

theorem W.z4r (r : Unit) (h : M.sim_Runner_is_2 = some r) {nz wz S0 w0 Lr} (p0 : Hp nz wz S0 w0 (Lr)) :
  Calls Tryz.prog 25 #[.pointer none] w0 (Rets (Post.z4r nz wz S0 w0 Lr r)) := by
 refine Zf Tryz.f25 B25 11 ?_
 refine Gj 12 [(0, .pointer none)] fun junk => ?_
 delta M.sim_Runner_is_2 at h
 refine Gn 14 [(2, .bool false), (3, .pointer none), (4, .bool false), (5, .bool false), (6, undef), (7, undef), (8, undef), (9, undef), (10, undef)] Jym ?_
 refine Gn 3 [(11, .bool false), (2, .bool false)] J1t ?_
 obtain rfl := Option.some.inj h
 exact Goes.rt Tryz.f25 (.bool false) ⟨S0, rfl, (Ext.refl S0 w0), p0⟩

def Jyn := Zs [1, 0, 1, 0, 1] B14 Jbr

def Post.z4s (r : Unit) (v : Value) (w' : World) : Prop :=
 ∃ S', v = .bool false ∧ Ext S0 w0 S' w' ∧ Hp nz wz S' w' (Lr)

theorem W.z4s (x1 : Int) (r : Unit) (h : M.sim_Runner_Feed_2 x1 = some r) {nz wz S0 w0 Lr} (p0 : Hp nz wz S0 w0 (Lr)) :
  Calls Tryz.prog 14 #[.pointer none, .int .u8 x1] w0 (Rets (Post.z4s nz wz S0 w0 Lr r)) := by
 refine Zf Tryz.f14 B14 40 ?_
 refine Gj 42 [(0, .pointer none), (1, .int .u8 x1)] fun junk => ?_
 delta M.sim_Runner_Feed_2 at h
 refine Gn 2 [] Jbq ?_
 refine Op_.box 25 (.tmp 0) 2 0 (.pointer none) [.pointer none] p0 Goes.v (by kernel_rfl) (by kernel_rfl) ?_
 intro b1 w2 z2 p2
 refine Gn 5 [(4, .bool false)] Jbt ?_
 refine Goes.ld 25 (.tmp 2) 6 25 ⟨b1, 0, none⟩ (.pointer none) (p2.c 0 0) ?_
 refine bind_some' h fun y3 e4 h => ?_
 refine Gc (kc 25 [6] #[25]) 7 4 25 _ (W.z4r y3 e4  p2 ) ?_
 rintro _ w3 ⟨S3, rfl, z3, p3⟩
 refine Gn 7 [(8, .bool (!false)), (4, .bool false)] Jyn ?_
 obtain rfl := Option.some.inj h
 have p3 := p3.dp 0
 exact Goes.rt Tryz.f14 (.bool false) ⟨S3, rfl, (((Ext.refl S0 w0).trans z2).trans z3), p3⟩

def Jyo := Zs [1, 0, 1, 0, 1] B11 Jak

def Post.z4t (r : Unit) (v : Value) (w' : World) : Prop :=
 ∃ S', v = .bool false ∧ Ext S0 w0 S' w' ∧ Hp nz wz S' w' (Lr)

theorem W.z4t (r : Unit) (h : M.sim_Runner_Accepts_2 = some r) {nz wz S0 w0 Lr} (p0 : Hp nz wz S0 w0 (Lr)) :
  Calls Tryz.prog 11 #[.pointer none] w0 (Rets (Post.z4t nz wz S0 w0 Lr r)) := by
 refine Zf Tryz.f11 B11 14 ?_
 refine Gj 15 [(0, .pointer none)] fun junk => ?_
 delta M.sim_Runner_Accepts_2 at h
 refine Gn 2 [] Jaj ?_
 refine Op_.box 25 (.tmp 0) 1 0 (.pointer none) [.pointer none] p0 Goes.v (by kernel_rfl) (by kernel_rfl) ?_
 intro b1 w2 z2 p2
 refine Gn 5 [(2, .bool false)] Jam ?_
 refine Goes.ld 25 (.tmp 1) 3 25 ⟨b1, 0, none⟩ (.pointer none) (p2.c 0 0) ?_
 refine bind_some' h fun y3 e4 h => ?_
 refine Gc (kc 25 [3] #[25]) 4 4 25 _ (W.z4r y3 e4  p2 ) ?_
 rintro _ w3 ⟨S3, rfl, z3, p3⟩
 refine Gn 7 [(5, .bool (!false)), (2, .bool false)] Jyo ?_
 obtain rfl := Option.some.inj h
 have p3 := p3.dp 0
 exact Goes.rt Tryz.f11 (.bool false) ⟨S3, rfl, (((Ext.refl S0 w0).trans z2).trans z3), p3⟩

def L.z4u : ByteArray × Int × Int × Int → (Bool × Int) → Prop := fun ⟨x1, x7, x19, x20⟩ r => ∀ S1 w1, Ext S0 w0 S1 w1 → ∀ (_ : Hp nz wz S1 w1 (Lr)) (junk : Nat → Value),
 Goes Tryz.prog (base 35) Jyc ⟨lfr 34 [(1, .string x1), (6, .pointer none), (7, .i x7), (19, .i x19), (20, .i x20)] junk, []⟩ w1 (Done Tryz.prog 35 (Rets (Post.z4p nz wz S0 w0 Lr r)))

theorem W.z4u {nz wz S0 w0 Lr} : ∀ a r, M.sim_Match_l1 a = some r → L.z4u nz wz S0 w0 Lr a r := by
 intro ⟨x1, x7, x19, x20⟩ r h S1 w1 hx p1 junk
 rw [M.sim_Match_l1] at h
 try dsimp only at h
 refine Gn 5 [(21, .bool (decide (x20 < x19)))] Jye ?_
 refine ite_some h (fun h32 h => ?_) (fun h32 h => ?_)
 ·
  rw [decide_eq_true h32]
  refine Gn 14 [(22, .i x20), (8, .i x20), (23, .pointer none), (24, .string x1), (25, .i x20)] Jyi ?_
  refine guard_some' h fun g33 h => ?_
  refine guard_some' h fun g34 h => ?_
  refine Op_.ixS 9 (.tmp 24) (.tmp 25) 26 5 .i64 x1 x20 Goes.v (by kernel_rfl) (by kernel_rfl) (by kernel_rfl) g33 g34 ?_
  refine bind_some' h fun y35 e36 h => ?_
  refine Gc (kc 14 [23, 26] #[25, 5]) 27 4 14 _ (W.z4s (bt x1 x20) y35 e36  p1 ) ?_
  rintro _ w6 ⟨S6, rfl, z6, p6⟩
  refine Gn 9 [(28, .bool (!false)), (29, .i x7), (4, .bool false), (5, .i x7)] Jyj ?_
  obtain rfl := Option.some.inj h
  exact Goes.rt Tryz.f35 (.tuple #[.bool false, .i x7]) ⟨S6, rfl, (hx.trans z6), p6⟩
 ·
  rw [decide_eq_false h32]
  refine Gn 5 [(31, .pointer none)] Jyl ?_
  refine bind_some' h fun y37 e38 h => ?_
  refine Gc (kc 11 [31] #[25]) 32 4 11 _ (W.z4t y37 e38  p1 ) ?_
  rintro _ w7 ⟨S7, rfl, z7, p7⟩
  refine Gn 4 [(33, .i x7), (4, .bool false), (5, .i x7)] Jyk ?_
  obtain rfl := Option.some.inj h
  exact Goes.rt Tryz.f35 (.tuple #[.bool false, .i x7]) ⟨S7, rfl, (hx.trans z7), p7⟩

def Jyp := Zs [1, 1] B35 []
def Jyq := Zt [1, 0] B35 [2, 3, 4, 5, 6, 7] Jyp
def Jyr := Zs [1, 1, 1] B35 []
def Jys := Zs [1, 1, 0, 1] B35 Jyr
def Jyt := Zs [1, 1, 0, 1, 0, 1] B35 Jyr

theorem W.z4p (x0 : List T45) (x1 : ByteArray) (r : Bool × Int) (h : M.sim_Match x0 x1 = some r) {nz wz S0 w0 Lr} (Ax0 nx0 cx0) (p0 : Hp nz wz S0 w0 (Lr)) (fx0 : Rd kT45 S0 w0 Ax0 cx0 x0) (lx0 : x0.length = nx0) :
  Calls Tryz.prog 35 #[.slice Ax0 nx0 cx0, .string x1] w0 (Rets (Post.z4p nz wz S0 w0 Lr r)) := by
 subst lx0
 refine Zf Tryz.f35 B35 32 ?_
 refine Gj 34 [(0, .slice Ax0 x0.length cx0), (1, .string x1)] fun junk => ?_
 delta M.sim_Match at h
 refine Gn 9 [(4, .bool false), (5, .i 0), (10, .slice Ax0 x0.length cx0), (11, .string x1)] Jyq ?_
 refine bind_some' h fun y1 e2 h => ?_
 rcases y1 with ur2 | ur3
 ·
  try dsimp only at h
  refine Gc (kc 41 [10, 11] #[22, 9]) 12 27 41 _ (W.z4o x0 x1 (Sum.inl ur2) e2 Ax0 x0.length cx0 p0 fx0 rfl) ?_
  rintro _ w2 ⟨S2, ur4, ur5, ur6, ur7, ur8, ur9, ura, urb, urc, urd, ure, urf, urg, urh, uri, urj, urk, url, urm, urn, uro, urp, urq, rfl, z2, p2, urr, rfl, urs, rfl, urt, rfl, uru, rfl, urv, rfl⟩
  refine Gn 12 [(9, .tuple #[(pt ur4 0), .i ur2.2]), (13, (pt ur4 0)), (14, .i ur2.2), (6, (pt ur4 0)), (7, .i ur2.2), (15, .i ur2.2), (16, .bool (!(decide (ur2.2 = 0))))] Jys ?_
  refine ite_some h (fun h11 h => ?_) (fun h11 h => ?_)
  ·
   rw [decide_eq_true h11]
   refine Gn 11 [(18, .string x1), (19, .i (x1.size : Int)), (20, .i 0)] Jyc ?_
   exact Gj 34 [(1, .string x1), (6, (pt ur4 0)), (7, .i ur2.2), (19, .i (x1.size : Int)), (20, .i 0)] (W.z4q _ _ h _ _ ((Ext.refl S0 w0).trans z2) ur4 ur5 ur2.1.l.length ur7 ur8 ur9 ura ur2.1.now.place.length urc urd ure ur2.1.now.list.length urg urh uri urj ur2.1.next.place.length url urm urn ur2.1.next.list.length urp urq p2 urr rfl urs rfl urt rfl uru rfl urv rfl)
  ·
   rw [decide_eq_false h11]
   refine Gn 7 [(17, .i ur2.2), (4, .bool false), (5, .i ur2.2)] Jyt ?_
   obtain rfl := Option.some.inj h
   have p2 := (((((((p2.dp 0).dp 0).dp 0).dp 0).dp 0).dp 0).dp 0).dp 0
   exact Goes.rt Tryz.f35 (.tuple #[.bool false, .i ur2.2]) ⟨S2, rfl, ((Ext.refl S0 w0).trans z2), p2⟩
 ·
  try dsimp only at h
  refine Gc (kc 41 [10, 11] #[22, 9]) 12 27 41 _ (W.z4o x0 x1 (Sum.inr ur3) e2 Ax0 x0.length cx0 p0 fx0 rfl) ?_
  rintro _ w3 ⟨S3, rfl, z3, p3⟩
  refine Gn 12 [(9, .tuple #[.pointer none, .i ur3]), (13, .pointer none), (14, .i ur3), (6, .pointer none), (7, .i ur3), (15, .i ur3), (16, .bool (!(decide (ur3 = 0))))] Jys ?_
  refine ite_some h (fun h20 h => ?_) (fun h20 h => ?_)
  ·
   rw [decide_eq_true h20]
   refine Gn 11 [(18, .string x1), (19, .i (x1.size : Int)), (20, .i 0)] Jyc ?_
   exact Gj 34 [(1, .string x1), (6, .pointer none), (7, .i ur3), (19, .i (x1.size : Int)), (20, .i 0)] (W.z4u _ _ h _ _ ((Ext.refl S0 w0).trans z3) p3)
  ·
   rw [decide_eq_false h20]
   refine Gn 7 [(17, .i ur3), (4, .bool false), (5, .i ur3)] Jyt ?_
   obtain rfl := Option.some.inj h
   exact Goes.rt Tryz.f35 (.tuple #[.bool false, .i ur3]) ⟨S3, rfl, ((Ext.refl S0 w0).trans z3), p3⟩

end

end Go.Gx
