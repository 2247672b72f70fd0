import Derived.Test.YtemokppdnkiejaaDoorWQsa

set_option linter.unusedVariables false

set_option maxRecDepth 100000

set_option maxHeartbeats 4000000

namespace Go.Gx

open Go.RowKit Go.Proofs

variable (nz : Nat) (wz : World) (S0 : Fz) (w0 : World) (Lr : List Ent)

noncomputable section

def Q6i := sub [1, 1, 1] B120
def J82 : List Item := [.code Q6i]
def J83 : List Item := .inBlock 0 :: J82
def Q6j := sub [1, 1, 0, 0, 1, 1, 1] B120
def J84 : List Item := .code Q6j :: J83
def Q6k := sub [1, 1, 0, 0, 1, 1, 1, 0, 1] B120
def J85 : List Item := .code Q6k :: J83
def Q6l := sub [1, 1, 0, 0, 1, 1, 1, 0, 0] B120
def J86 : List Item := .inRegion (opsOf Q6l) [4, 5] :: J85
def Q6m := sub [1, 1, 0, 0, 1, 1, 1, 0, 1, 1] B120
def J87 : List Item := .code Q6m :: J83
def Q6n := sub [1, 1, 0, 0, 1, 1, 1, 0, 1, 0] B120
def J88 : List Item := .inRegion (opsOf Q6n) [1] :: J87
def Q6o := sub [1, 1, 1, 1] B120
def J89 : List Item := [.code Q6o]
def Q6p := sub [1, 1, 1, 0] B120
def J8a : List Item := .inRegion (opsOf Q6p) [3, 4, 5, 6, 7] :: J89
def J8b : List Item := .inRegion (opsOf Q6p) [7] :: J89
def Q6q := sub [1, 1, 1, 1, 1] B120
def J8c : List Item := [.code Q6q]
def Q6r := sub [1, 1, 1, 1, 0] B120
def J8d : List Item := .inRegion (opsOf Q6r) [1, 2] :: J8c

def Post.z19 (gx0 : Nat) (r : T126 × T68) (v : Value) (w' : World) : Prop :=
 ∃ S' u20, v = (ag (U4 r.1.set_ [.int .u8 r.1.b, .bool r.1.single])) ∧ Ext S0 w0 S' w' ∧ Hp nz wz S' w' ((some gx0, .row 69 [.string r.2.s, .i r.2.at_, .i r.2.deep, u20] 4 0) :: Lr) ∧ r.1.set_.length = 4 ∧ PtO kT72 S' w' u20 r.2.bad

def L.z1a (gx0 : Nat) : T126 × Int × Bool × T68 → (T126 × T68) → Prop := fun ⟨x2v, x3, x11, e0v⟩ r => ∀ S1 w1, Ext S0 w0 S1 w1 → ∀ gx2 u20 (_ : Hp nz wz S1 w1 ((some gx2, .row 127 (U4 x2v.set_ [.int .u8 x2v.b, .bool x2v.single]) 6 0) :: (some gx0, .row 69 [.string e0v.s, .i e0v.at_, .i e0v.deep, u20] 4 0) :: Lr)) (_ : x2v.set_.length = 4) (_ : PtO kT72 S1 w1 u20 e0v.bad) (junk : Nat → Value),
 Goes Tryd.prog (base 120) J84 ⟨lfr 39 [(0, (pt gx0 0)), (2, (pt gx2 0)), (3, .int .u8 x3), (11, .bool x11)] junk, []⟩ w1 (Done Tryd.prog 120 (Rets (Post.z19 nz wz S0 w0 Lr gx0 r)))

theorem W.z1a {nz wz S0 w0 Lr} [Gw nz wz] (gx0 : Nat) : ∀ a r, M.syntax_parser_item_l0 a = some r → L.z1a nz wz S0 w0 Lr gx0 a r := by
 intro ⟨x2v, x3, x11, e0v⟩ r h S1 w1 hx gx2 u20 p1 u2e u21 junk
 rw [M.syntax_parser_item_l0] at h
 try dsimp only at h
 refine ite_some h (fun h16 h => ?_) (fun h16 h => ?_)
 ·
  rw [h16]
  refine Goes.rn 7 [(23, (pt gx0 0)), (24, (pt gx0 0)), (25, (pt gx0 0)), (26, (pt gx0 1))] J86 ?_
  refine Goes.ld 3 (.tmp 26) 27 3 ⟨gx0, 1, none⟩ (.i e0v.at_) (p1.c 1 1) ?_
  have p1 := p1.fr 1
  refine bind_some' h fun y17 e18 h => ?_
  refine Goes.cal (kc 31 [23, 27] #[66, 3]) 28 28 31 _ (W.zp e0v e0v.at_ y17 e18 gx0 u20 p1 u21) ?_
  rintro _ w8 ⟨S8, u4x, u4y, u4z, u50, rfl, z8, p8, u51, u52, rfl, u53⟩
  refine Goes.rn 4 [(29, .agg #[.u 0, .u 0, .u 0, .u 0, .int .u8 0, .bool false])] J88 ?_
  refine Op_.st 127 (.tmp 2) (.tmp 29) 0 1 gx2 0 (.agg #[.u 0, .u 0, .u 0, .u 0, .int .u8 0, .bool false]) [.u 0, .u 0, .u 0, .u 0, .int .u8 0, .bool false] p8 rfl Goes.s (by kernel_rfl) (by kernel_rfl) (by kernel_rfl) (by kernel_rfl) (Nat.zero_le _) (by simp only [List.length_cons, List.length_nil]; omega) (by simp [Value.oneCell']) ?_
  intro w9 z9 p9
  have p9 : Hp nz wz S8 w9 ((some gx0, .row 69 [.string y17.2.s, .i y17.2.at_, .i y17.2.deep, u50] 4 0) :: (some gx2, .row 127 [.u 0, .u 0, .u 0, .u 0, .int .u8 0, .bool false] 6 0) :: Lr) := p9
  refine Goes.rn 1 [] J87 ?_
  obtain rfl := Option.some.inj h
  have p9 := (p9.fr 0).fr 1
  exact Goes.ret (fn := Tryd.f120) (by kernel_rfl) (v := .agg #[.u 0, .u 0, .u 0, .u 0, .int .u8 0, .bool false]) (results_n1 (fn := Tryd.f120) (a := .cell 2 127) (by kernel_rfl) (resV_cell ⟨gx2, 0, none⟩ (by kernel_rfl) (run_loadN [.u 0, .u 0, .u 0, .u 0, .int .u8 0, .bool false] (by kernel_rfl) (by kernel_rfl) (p9.pa 0 0)))) ⟨S8, u50, rfl, ((hx.trans z8).trans z9), p9.drop, rfl, (u53.ext z9)⟩
 ·
  have u54 : x11 = false := by simpa using h16
  rw [u54]
  refine Goes.rn 8 [(30, (pt gx0 0)), (31, (pt gx0 0)), (32, (pt gx0 1))] J8a ?_
  refine Goes.ld 3 (.tmp 32) 33 3 ⟨gx0, 1, none⟩ (.i e0v.at_) (p1.c 1 1) ?_
  refine Goes.rn 3 [(34, .i (wr .i64 (e0v.at_ + 1))), (35, (pt gx0 0)), (36, (pt gx0 1))] J8b ?_
  refine Op_.st 3 (.tmp 36) (.tmp 34) 0 1 gx0 1 (.i (wr .i64 (e0v.at_ + 1))) [.i (wr .i64 (e0v.at_ + 1))] p1 rfl Goes.s (by kernel_rfl) (by kernel_rfl) (by kernel_rfl) (by kernel_rfl) (Nat.zero_le _) (by simp only [List.length_cons, List.length_nil]; omega) (by simp [Value.oneCell']) ?_
  intro w10 z10 p10
  have p10 : Hp nz wz S1 w10 ((some gx2, .row 127 (U4 x2v.set_ [.int .u8 x2v.b, .bool x2v.single]) 6 0) :: (some gx0, .row 69 [.string e0v.s, .i (wr .i64 (e0v.at_ + 1)), .i e0v.deep, u20] 4 0) :: Lr) := p10
  refine Goes.rn 4 [(37, .int .u8 x3)] J8d ?_
  refine bind_some' h fun y19 e20 h => ?_
  refine Goes.cal (kc 105 [37] #[5]) 38 127 105 _ (W.z16 x3 y19 e20  p10 ) ?_
  rintro _ w11 ⟨S11, rfl, z11, p11, u55⟩
  refine Op_.st 127 (.tmp 2) (.tmp 38) 0 0 gx2 0 (ag (U4 y19.set_ [.int .u8 y19.b, .bool y19.single])) (U4 y19.set_ [.int .u8 y19.b, .bool y19.single]) p11 rfl Goes.s (by kernel_rfl) (by kernel_rfl) (by kernel_rfl) (by kernel_rfl) (Nat.zero_le _) (by simp only [List.length_cons, List.length_nil]; omega) (by simp [Value.oneCell']) ?_
  intro w12 z12 p12
  have p12 : Hp nz wz S11 w12 ((some gx2, .row 127 (U4 y19.set_ [.int .u8 y19.b, .bool y19.single]) 6 0) :: (some gx0, .row 69 [.string e0v.s, .i (wr .i64 (e0v.at_ + 1)), .i e0v.deep, u20] 4 0) :: Lr) := p12
  refine Goes.rn 1 [] J8c ?_
  obtain rfl := Option.some.inj h
  exact Goes.ret (fn := Tryd.f120) (by kernel_rfl) (v := (ag (U4 y19.set_ [.int .u8 y19.b, .bool y19.single]))) (results_n1 (fn := Tryd.f120) (a := .cell 2 127) (by kernel_rfl) (resV_cell ⟨gx2, 0, none⟩ (by kernel_rfl) (run_loadN (U4 y19.set_ [.int .u8 y19.b, .bool y19.single]) (by kernel_rfl) (by kernel_rfl) (p12.pa 0 0)))) ⟨S11, u20, rfl, (((hx.trans z10).trans z11).trans z12), p12.drop, u55, (u21.ext ((z10.trans z11).trans z12))⟩

def Q6s := sub [1] B120
def J8e : List Item := [.code Q6s]
def Q6t := sub [0] B120
def J8f : List Item := .inRegion (opsOf Q6t) [0] :: J8e
def Q6u := sub [1, 1] B120
def J8g : List Item := [.code Q6u]
def Q6v := sub [1, 0] B120
def J8h : List Item := .inRegion (opsOf Q6v) [1, 2] :: J8g
def Q6w := sub [1, 1, 0, 0, 1] B120
def J8i : List Item := .code Q6w :: J83
def Q6x := sub [1, 1, 0, 0, 0] B120
def J8j : List Item := .inRegion (opsOf Q6x) [1, 2] :: J8i
def Q6y := sub [1, 1, 0, 0, 1, 0, 1] B120
def J8k : List Item := .code Q6y :: J83
def Q6z := sub [1, 1, 0, 0, 1, 0, 0] B120
def J8l : List Item := .inRegion (opsOf Q6z) [1, 2] :: J8k
def Q70 := sub [1, 1, 0, 0, 1, 1, 0] B120
def J8m : List Item := .inRegion (opsOf Q70) [3, 4, 5, 6, 7, 8, 9, 10, 11] :: J84
def J8n : List Item := .inRegion (opsOf Q70) [7, 8, 9, 10, 11] :: J84
def J8o : List Item := .inRegion (opsOf Q70) [8, 9, 10, 11] :: J84

theorem W.z19 (x0v : T68) (r : T126 × T68) (h : M.syntax_parser_item x0v = some r) {nz wz S0 w0 Lr} [Gw nz wz] (gx0 u22) (p0 : Hp nz wz S0 w0 ((some gx0, .row 69 [.string x0v.s, .i x0v.at_, .i x0v.deep, u22] 4 0) :: Lr)) (u23 : PtO kT72 S0 w0 u22 x0v.bad) :
  Calls Tryd.prog 120 #[(pt gx0 0)] w0 (Rets (Post.z19 nz wz S0 w0 Lr gx0 r)) := by
 refine calls_of_goes (fn := Tryd.f120) (c := B120) (by kernel_rfl) (by kernel_rfl) 38 (by kernel_rfl) ?_
 refine Goes.jp 39 [(0, (pt gx0 0))] (fun junk => ?_)
 delta M.syntax_parser_item at h
 refine Goes.rn 2 [] J8f ?_
 refine Op_.alloc 127 2 0 (.agg #[.u 0, .u 0, .u 0, .u 0, .int .u8 0, .bool false]) [.u 0, .u 0, .u 0, .u 0, .int .u8 0, .bool false] p0 Goes.v (by kernel_rfl) (by kernel_rfl) ?_
 intro b2 w2 z2 p2
 refine Goes.rn 4 [(4, (pt gx0 0))] J8h ?_
 have p2 := p2.fr 1
 refine bind_some' h fun y4 e5 h => ?_
 refine Goes.cal (kc 65 [4] #[66]) 5 5 65 _ (W.zn x0v y4 e5 gx0 u22 p2 (u23.ext z2)) ?_
 rintro _ w3 ⟨S3, u4l, rfl, z3, p3, u4m⟩
 refine Goes.rn 7 [(3, .int .u8 y4.1), (7, (pt gx0 0))] J8j ?_
 refine bind_some' h fun y6 e7 h => ?_
 refine Goes.cal (.call { callee := .value (.func 48), args := #[(.tmp 7), (.const (.int .u8 92))], argTypes := #[66, 5] }) 8 4 48 _ (W.zq y4.2 92 y6 e7 gx0 u4l p3 u4m) ?_
 rintro _ w4 ⟨S4, u45, rfl, z4, p4, u48⟩
 refine Goes.rn 2 [(6, .bool y6.1)] J8i ?_
 refine ite_some h (fun h8 h => ?_) (fun h8 h => ?_)
 ·
  rw [h8]
  refine Goes.rn 4 [(9, (pt gx0 0))] J8l ?_
  refine bind_some' h fun y9 e10 h => ?_
  refine Goes.cal (kc 93 [9] #[66]) 10 127 93 _ (W.z17 y6.2 y9 e10 gx0 u45 p4 u48) ?_
  rintro _ w5 ⟨S5, u56, rfl, z5, p5, u57, u58⟩
  refine Op_.st 127 (.tmp 2) (.tmp 10) 0 1 b2 0 (ag (U4 y9.1.set_ [.int .u8 y9.1.b, .bool y9.1.single])) (U4 y9.1.set_ [.int .u8 y9.1.b, .bool y9.1.single]) p5 rfl Goes.s (by kernel_rfl) (by kernel_rfl) (by kernel_rfl) (by kernel_rfl) (Nat.zero_le _) (by simp only [List.length_cons, List.length_nil]; omega) (by simp [Value.oneCell']) ?_
  intro w6 z6 p6
  have p6 : Hp nz wz S5 w6 ((some gx0, .row 69 [.string y9.2.s, .i y9.2.at_, .i y9.2.deep, u56] 4 0) :: (some b2, .row 127 (U4 y9.1.set_ [.int .u8 y9.1.b, .bool y9.1.single]) 6 0) :: Lr) := p6
  refine Goes.rn 1 [] J8k ?_
  obtain rfl := Option.some.inj h
  have p6 := (p6.fr 0).fr 1
  exact Goes.ret (fn := Tryd.f120) (by kernel_rfl) (v := (ag (U4 y9.1.set_ [.int .u8 y9.1.b, .bool y9.1.single]))) (results_n1 (fn := Tryd.f120) (a := .cell 2 127) (by kernel_rfl) (resV_cell ⟨b2, 0, none⟩ (by kernel_rfl) (run_loadN (U4 y9.1.set_ [.int .u8 y9.1.b, .bool y9.1.single]) (by kernel_rfl) (by kernel_rfl) (p6.pa 0 0)))) ⟨S5, u56, rfl, ((((((Ext.refl S0 w0).trans z2).trans z3).trans z4).trans z5).trans z6), p6.drop, u57, (u58.ext z6)⟩
 ·
  have h8' : y6.1 = false := by simpa using h8
  rw [h8']
  refine Goes.rn 6 [(12, .int .u8 y4.1), (13, .bool (decide (y4.1 < 32))), (14, .bool (decide (y4.1 < 32)))] J8m ?_
  refine ite_some h (fun h11 h => ?_) (fun h11 h => ?_)
  ·
   rw [decide_eq_true h11]
   refine Goes.rn 10 [(15, undef), (16, undef), (17, .bool true), (18, .bool true), (19, undef), (20, undef), (21, undef), (22, .bool true), (11, .bool true)] J84 ?_
   have p4 := (p4.fr 0).fr 1
   exact Goes.jp 39 [(0, (pt gx0 0)), (2, (pt b2 0)), (3, .int .u8 y4.1), (11, .bool true)] (W.z1a gx0 _ _ h _ _ ((((Ext.refl S0 w0).trans z2).trans z3).trans z4) b2 u45 p4 rfl u48)
  ·
   rw [decide_eq_false h11]
   refine Goes.rn 4 [(15, .int .u8 y4.1), (16, .bool (decide (y4.1 > 126))), (17, .bool (decide (y4.1 > 126))), (18, .bool (decide (y4.1 > 126)))] J8n ?_
   refine ite_some h (fun h13 h => ?_) (fun h13 h => ?_)
   ·
    rw [decide_eq_true h13]
    refine Goes.rn 6 [(19, undef), (20, undef), (21, undef), (22, .bool true), (11, .bool true)] J84 ?_
    have p4 := (p4.fr 0).fr 1
    exact Goes.jp 39 [(0, (pt gx0 0)), (2, (pt b2 0)), (3, .int .u8 y4.1), (11, .bool true)] (W.z1a gx0 _ _ h _ _ ((((Ext.refl S0 w0).trans z2).trans z3).trans z4) b2 u45 p4 rfl u48)
   ·
    rw [decide_eq_false h13]
    refine Goes.rn 1 [(19, .int .u8 y4.1)] J8o ?_
    refine bind_some' h fun y14 e15 h => ?_
    refine Goes.cal (.call { callee := .value (.func 45), args := #[(.const (.string ⟨#[93, 91, 45]⟩)), (.tmp 19)], argTypes := #[9, 5] }) 20 3 45 _ (W.z1 (⟨#[93, 91, 45]⟩ : ByteArray) y4.1 y14 e15  p4 ) ?_
    rintro _ w7 ⟨S7, rfl, z7, p7⟩
    refine Goes.rn 4 [(21, .bool (decide (y14 ≥ 0))), (22, .bool (decide (y14 ≥ 0))), (11, .bool (decide (y14 ≥ 0)))] J84 ?_
    have p7 := (p7.fr 0).fr 1
    exact Goes.jp 39 [(0, (pt gx0 0)), (2, (pt b2 0)), (3, .int .u8 y4.1), (11, .bool (decide (y14 ≥ 0)))] (W.z1a gx0 _ _ h _ _ (((((Ext.refl S0 w0).trans z2).trans z3).trans z4).trans z7) b2 u45 p7 rfl (u48.ext z7))

def Q71 := sub [1, 1, 1, 1, 1, 1, 1, 1, 1] B112
def J8p : List Item := [.code Q71]
def J8q : List Item := .inBlock 0 :: J8p
def Q72 := sub [1, 1, 1, 1, 1, 1, 1, 1, 0, 0, 1] B112
def J8r : List Item := .code Q72 :: J8q
def Q73 := sub [1, 1, 1, 1, 1, 1, 1, 1, 1, 1] B112
def J8s : List Item := [.code Q73]
def Q74 := sub [1, 1, 1, 1, 1, 1, 1, 1, 1, 0] B112
def J8t : List Item := .inRegion (opsOf Q74) [1, 2] :: J8s
def Q75 := sub [1, 1, 1, 1, 1, 1, 1, 1, 0, 0, 1, 1, 1] B112
def J8u : List Item := .code Q75 :: J8q
def Q76 := sub [1, 1, 1, 1, 1, 1, 1, 1, 0, 0, 1, 1, 0] B112
def J8v : List Item := .inRegion (opsOf Q76) [1, 2, 3] :: J8u
def Q77 := sub [1, 1, 1, 1, 1, 1, 1, 1, 0, 0, 1, 1, 1, 1, 1] B112
def J8w : List Item := .code Q77 :: J8q
def Q78 := sub [1, 1, 1, 1, 1, 1, 1, 1, 0, 0, 1, 1, 1, 1, 0] B112
def J8x : List Item := .inRegion (opsOf Q78) [1, 2, 3, 4, 5] :: J8w
def J8y : List Item := .inRegion (opsOf Q78) [3, 4, 5] :: J8w
def Q79 := sub [1, 1, 1, 1, 1, 1, 1, 1, 0, 0, 1, 1, 1, 1, 1, 0] B112
def J8z : List Item := .inRegion (opsOf Q79) [2] :: J8q
def Q7a := sub [1, 1, 1, 1, 1, 1, 1, 1, 0, 0, 1, 1, 1, 1, 1, 1, 1] B112
def J90 : List Item := .code Q7a :: J8q
def Q7b := sub [1, 1, 1, 1, 1, 1, 1, 1, 0, 0, 1, 1, 1, 1, 1, 1, 0] B112
def J91 : List Item := .inRegion (opsOf Q7b) [1, 2, 3, 4, 5] :: J90
def J92 : List Item := .inRegion (opsOf Q7b) [3, 4, 5] :: J90
def Q7c := sub [1, 1, 1, 1, 1, 1, 1, 1, 0, 0, 1, 1, 1, 0] B112
def J93 : List Item := .inRegion (opsOf Q7c) [3] :: J8q

def Post.z1b (gx0 : Nat) (r : (List Int) × T68) (v : Value) (w' : World) : Prop :=
 ∃ S' vsq u20, v = .agg vsq.toArray ∧ Ext S0 w0 S' w' ∧ Hp nz wz S' w' ((some gx0, .row 69 [.string r.2.s, .i r.2.at_, .i r.2.deep, u20] 4 0) :: Lr) ∧ Els (kInt .u64) S' w' vsq r.1 ∧ vsq.length = 4 ∧ PtO kT72 S' w' u20 r.2.bad

def L.z1c (gx0 : Nat) : (List Int) × Int × T126 × Int × T126 × Bool × T68 → ((List Int) × T68) → Prop := fun ⟨u2a, x3, x4v, x5, x6v, x47, e0v⟩ r => ∀ S1 w1, Ext S0 w0 S1 w1 → ∀ gx2 gx4 gx6 u20 (_ : Hp nz wz S1 w1 ((some gx2, .row 25 (U4 u2a []) 4 0) :: (some gx4, .row 127 (U4 x4v.set_ [.int .u8 x4v.b, .bool x4v.single]) 6 0) :: (some gx6, .row 127 (U4 x6v.set_ [.int .u8 x6v.b, .bool x6v.single]) 6 0) :: (some gx0, .row 69 [.string e0v.s, .i e0v.at_, .i e0v.deep, u20] 4 0) :: Lr)) (_ : u2a.length = 4) (_ : x4v.set_.length = 4) (_ : x6v.set_.length = 4) (_ : PtO kT72 S1 w1 u20 e0v.bad) (junk : Nat → Value),
 Goes Tryd.prog (base 112) J8r ⟨lfr 72 [(0, (pt gx0 0)), (2, (pt gx2 0)), (3, .i x3), (4, (pt gx4 0)), (5, .i x5), (6, (pt gx6 0)), (47, .bool x47)] junk, []⟩ w1 (Done Tryd.prog 112 (Rets (Post.z1b nz wz S0 w0 Lr gx0 r)))

theorem W.z1c {nz wz S0 w0 Lr} [Gw nz wz] (gx0 : Nat) : ∀ a r, M.syntax_parser_pair_l0 a = some r → L.z1c nz wz S0 w0 Lr gx0 a r := by
 intro ⟨u2a, x3, x4v, x5, x6v, x47, e0v⟩ r h S1 w1 hx gx2 gx4 gx6 u20 p1 u2e u2l u59 u21 junk
 rw [M.syntax_parser_pair_l0] at h
 try dsimp only at h
 refine ite_some h (fun h28 h => ?_) (fun h28 h => ?_)
 ·
  rw [h28]
  refine Goes.rn 6 [(70, (pt gx4 0))] J8t ?_
  refine Goes.ldN 25 (.tmp 70) 71 25 ⟨gx4, 0, none⟩ (U4 x4v.set_ []) (p1.pa 1 0) ?_
  refine Op_.st 25 (.tmp 2) (.tmp 71) 0 0 gx2 0 (ag (U4 x4v.set_ [])) (U4 x4v.set_ []) p1 rfl Goes.s (by kernel_rfl) (by kernel_rfl) (by kernel_rfl) (by kernel_rfl) (Nat.zero_le _) (by simp only [List.length_cons, List.length_nil]; omega) (by simp [Value.oneCell']) ?_
  intro w14 z14 p14
  have p14 : Hp nz wz S1 w14 ((some gx2, .row 25 (U4 x4v.set_ []) 4 0) :: (some gx4, .row 127 (U4 x4v.set_ [.int .u8 x4v.b, .bool x4v.single]) 6 0) :: (some gx6, .row 127 (U4 x6v.set_ [.int .u8 x6v.b, .bool x6v.single]) 6 0) :: (some gx0, .row 69 [.string e0v.s, .i e0v.at_, .i e0v.deep, u20] 4 0) :: Lr) := p14
  refine Goes.rn 1 [] J8s ?_
  obtain rfl := Option.some.inj h
  have p14 := (p14.dp 1).dp 1
  exact Goes.ret (fn := Tryd.f112) (by kernel_rfl) (v := (ag (U4 x4v.set_ []))) (results_n1 (fn := Tryd.f112) (a := .cell 2 25) (by kernel_rfl) (resV_cell ⟨gx2, 0, none⟩ (by kernel_rfl) (run_loadN (U4 x4v.set_ []) (by kernel_rfl) (by kernel_rfl) (p14.pa 0 0)))) ⟨S1, ((U4 x4v.set_ []) : List Value), u20, rfl, (hx.trans z14), p14.drop, (els_mk4 (S := S1) (w := w14) (k := .u64) u2l), rfl, (u21.ext z14)⟩
 ·
  have u5a : x47 = false := by simpa using h28
  rw [u5a]
  refine Goes.rn 4 [(54, (pt gx6 5))] J8v ?_
  refine Goes.ld 4 (.tmp 54) 55 4 ⟨gx6, 5, none⟩ (.bool x6v.single) (p1.c 2 5) ?_
  refine Goes.rn 3 [(56, .bool (!x6v.single)), (53, .bool (!x6v.single))] J8u ?_
  refine ite_some h (fun h29 h => ?_) (fun h29 h => ?_)
  ·
   rw [h29]
   have p1 : Hp nz wz S1 w1 ((some gx2, .row 25 (U4 u2a []) 4 0) :: (some gx4, .row 127 (U4 x4v.set_ [.int .u8 x4v.b, .bool x4v.single]) 6 0) :: (some gx6, .row 127 (U4 x6v.set_ [.int .u8 x6v.b, .bool true]) 6 0) :: (some gx0, .row 69 [.string e0v.s, .i e0v.at_, .i e0v.deep, u20] 4 0) :: Lr) := by simp only [h29] at p1; exact p1
   refine Goes.rn 4 [(62, (pt gx4 4))] J8x ?_
   refine Goes.ld 5 (.tmp 62) 63 5 ⟨gx4, 4, none⟩ (.int .u8 x4v.b) (p1.c 1 4) ?_
   refine Goes.rn 1 [(64, (pt gx6 4))] J8y ?_
   refine Goes.ld 5 (.tmp 64) 65 5 ⟨gx6, 4, none⟩ (.int .u8 x6v.b) (p1.c 2 4) ?_
   refine Goes.rn 3 [(66, .bool (decide (x4v.b > x6v.b))), (61, .bool (decide (x4v.b > x6v.b)))] J8w ?_
   refine ite_some h (fun h30 h => ?_) (fun h30 h => ?_)
   ·
    rw [decide_eq_true h30]
    refine Goes.rn 4 [(67, (pt gx0 0)), (68, .i x3)] J8z ?_
    have p1 := p1.fr 3
    refine bind_some' h fun y31 e32 h => ?_
    refine Goes.cal (kc 31 [67, 68] #[66, 3]) 69 28 31 _ (W.zp e0v x3 y31 e32 gx0 u20 p1 u21) ?_
    rintro _ w15 ⟨S15, u5b, u5c, u5d, u5e, rfl, z15, p15, u5f, u5g, rfl, u5h⟩
    have p15 := p15.dp 3
    refine Goes.rn 5 [(70, (pt gx4 0))] J8t ?_
    refine Goes.ldN 25 (.tmp 70) 71 25 ⟨gx4, 0, none⟩ (U4 x4v.set_ []) (p15.pa 2 0) ?_
    refine Op_.st 25 (.tmp 2) (.tmp 71) 0 1 gx2 0 (ag (U4 x4v.set_ [])) (U4 x4v.set_ []) p15 rfl Goes.s (by kernel_rfl) (by kernel_rfl) (by kernel_rfl) (by kernel_rfl) (Nat.zero_le _) (by simp only [List.length_cons, List.length_nil]; omega) (by simp [Value.oneCell']) ?_
    intro w16 z16 p16
    have p16 : Hp nz wz S15 w16 ((some gx0, .row 69 [.string y31.2.s, .i y31.2.at_, .i y31.2.deep, u5e] 4 0) :: (some gx2, .row 25 (U4 x4v.set_ []) 4 0) :: (some gx4, .row 127 (U4 x4v.set_ [.int .u8 x4v.b, .bool x4v.single]) 6 0) :: Lr) := p16
    refine Goes.rn 1 [] J8s ?_
    obtain rfl := Option.some.inj h
    have p16 := p16.dp 2
    have p16 := (p16.fr 0).fr 1
    exact Goes.ret (fn := Tryd.f112) (by kernel_rfl) (v := (ag (U4 x4v.set_ []))) (results_n1 (fn := Tryd.f112) (a := .cell 2 25) (by kernel_rfl) (resV_cell ⟨gx2, 0, none⟩ (by kernel_rfl) (run_loadN (U4 x4v.set_ []) (by kernel_rfl) (by kernel_rfl) (p16.pa 0 0)))) ⟨S15, ((U4 x4v.set_ []) : List Value), u5e, rfl, ((hx.trans z15).trans z16), p16.drop, (els_mk4 (S := S15) (w := w16) (k := .u64) u2l), rfl, (u5h.ext z16)⟩
   ·
    rw [decide_eq_false h30]
    refine Goes.rn 4 [(42, (pt gx4 4))] J91 ?_
    refine Goes.ld 5 (.tmp 42) 43 5 ⟨gx4, 4, none⟩ (.int .u8 x4v.b) (p1.c 1 4) ?_
    refine Goes.rn 1 [(44, (pt gx6 4))] J92 ?_
    refine Goes.ld 5 (.tmp 44) 45 5 ⟨gx6, 4, none⟩ (.int .u8 x6v.b) (p1.c 2 4) ?_
    refine bind_some' h fun y33 e34 h => ?_
    refine Goes.cal (kc 113 [43, 45] #[5, 5]) 46 25 113 _ (W.zw x4v.b x6v.b y33 e34  p1 ) ?_
    rintro _ w17 ⟨S17, u5i, rfl, z17, p17, u5j, u5k⟩
    have p17 := (p17.dp 1).dp 1
    have f35 : Els (kInt .u64) S17 w17 ((U4 u2a []) : List Value) u2a := (els_mk4 (k := .u64) u2e)
    refine Op_.stA 25 (.tmp 2) (.tmp 46) 0 0 gx2 4 u5i p17 rfl rfl Goes.s (by kernel_rfl) (by kernel_rfl) (by kernel_rfl) u5k (Els.one u5j) ?_
    intro w18 z18 p18
    refine Goes.rn 1 [] J90 ?_
    obtain rfl := Option.some.inj h
    exact Goes.ret (fn := Tryd.f112) (by kernel_rfl) (v := .agg u5i.toArray) (results_n1 (fn := Tryd.f112) (a := .cell 2 25) (by kernel_rfl) (resV_cell ⟨gx2, 0, none⟩ (by kernel_rfl) (run_loadN u5i (by kernel_rfl) (by rw [u5k]; kernel_rfl) (At_all (p18.mem 0 rfl))))) ⟨S17, u5i, u20, rfl, ((hx.trans z17).trans z18), p18.drop, (u5j.ext z18), u5k, (u21.ext (z17.trans z18))⟩
  ·
   have u5l : x6v.single = false := by simpa using h29
   rw [u5l]
   have p1 : Hp nz wz S1 w1 ((some gx2, .row 25 (U4 u2a []) 4 0) :: (some gx4, .row 127 (U4 x4v.set_ [.int .u8 x4v.b, .bool x4v.single]) 6 0) :: (some gx6, .row 127 (U4 x6v.set_ [.int .u8 x6v.b, .bool false]) 6 0) :: (some gx0, .row 69 [.string e0v.s, .i e0v.at_, .i e0v.deep, u20] 4 0) :: Lr) := by simp only [u5l] at p1; exact p1
   refine Goes.rn 5 [(57, (pt gx0 0)), (58, .i x5), (59, .i (wr .i64 (x5 + 1)))] J93 ?_
   have p1 := p1.fr 3
   refine bind_some' h fun y36 e37 h => ?_
   refine Goes.cal (kc 31 [57, 59] #[66, 3]) 60 28 31 _ (W.zp e0v (wr .i64 (x5 + 1)) y36 e37 gx0 u20 p1 u21) ?_
   rintro _ w19 ⟨S19, u5m, u5n, u5o, u5p, rfl, z19, p19, u5q, u5r, rfl, u5s⟩
   have p19 := p19.dp 3
   refine Goes.rn 5 [(70, (pt gx4 0))] J8t ?_
   refine Goes.ldN 25 (.tmp 70) 71 25 ⟨gx4, 0, none⟩ (U4 x4v.set_ []) (p19.pa 2 0) ?_
   refine Op_.st 25 (.tmp 2) (.tmp 71) 0 1 gx2 0 (ag (U4 x4v.set_ [])) (U4 x4v.set_ []) p19 rfl Goes.s (by kernel_rfl) (by kernel_rfl) (by kernel_rfl) (by kernel_rfl) (Nat.zero_le _) (by simp only [List.length_cons, List.length_nil]; omega) (by simp [Value.oneCell']) ?_
   intro w20 z20 p20
   have p20 : Hp nz wz S19 w20 ((some gx0, .row 69 [.string y36.2.s, .i y36.2.at_, .i y36.2.deep, u5p] 4 0) :: (some gx2, .row 25 (U4 x4v.set_ []) 4 0) :: (some gx4, .row 127 (U4 x4v.set_ [.int .u8 x4v.b, .bool x4v.single]) 6 0) :: Lr) := p20
   refine Goes.rn 1 [] J8s ?_
   obtain rfl := Option.some.inj h
   have p20 := p20.dp 2
   have p20 := (p20.fr 0).fr 1
   exact Goes.ret (fn := Tryd.f112) (by kernel_rfl) (v := (ag (U4 x4v.set_ []))) (results_n1 (fn := Tryd.f112) (a := .cell 2 25) (by kernel_rfl) (resV_cell ⟨gx2, 0, none⟩ (by kernel_rfl) (run_loadN (U4 x4v.set_ []) (by kernel_rfl) (by kernel_rfl) (p20.pa 0 0)))) ⟨S19, ((U4 x4v.set_ []) : List Value), u5p, rfl, ((hx.trans z19).trans z20), p20.drop, (els_mk4 (S := S19) (w := w20) (k := .u64) u2l), rfl, (u5s.ext z20)⟩

def Q7d := sub [1] B112
def J94 : List Item := [.code Q7d]
def Q7e := sub [0] B112
def J95 : List Item := .inRegion (opsOf Q7e) [0] :: J94
def Q7f := sub [1, 1] B112
def J96 : List Item := [.code Q7f]
def Q7g := sub [1, 0] B112
def J97 : List Item := .inRegion (opsOf Q7g) [3, 4] :: J96
def Q7h := sub [1, 1, 1] B112
def J98 : List Item := [.code Q7h]
def Q7i := sub [1, 1, 0] B112
def J99 : List Item := .inRegion (opsOf Q7i) [1, 2, 3] :: J98
def Q7j := sub [1, 1, 1, 1] B112
def J9a : List Item := [.code Q7j]
def Q7k := sub [1, 1, 1, 0, 1] B112
def J9b : List Item := .code Q7k :: J9a
def Q7l := sub [1, 1, 1, 0, 0] B112
def J9c : List Item := .inRegion (opsOf Q7l) [1, 2] :: J9b
def Q7m := sub [1, 1, 1, 1, 1] B112
def J9d : List Item := [.code Q7m]
def Q7n := sub [1, 1, 1, 1, 0, 1] B112
def J9e : List Item := .code Q7n :: J9d
def Q7o := sub [1, 1, 1, 1, 0, 0] B112
def J9f : List Item := .inRegion (opsOf Q7o) [1, 2] :: J9e
def Q7p := sub [1, 1, 1, 1, 1, 1] B112
def J9g : List Item := [.code Q7p]
def Q7q := sub [1, 1, 1, 1, 1, 0] B112
def J9h : List Item := .inRegion (opsOf Q7q) [3, 4, 5, 6, 7] :: J9g
def J9i : List Item := .inRegion (opsOf Q7q) [7] :: J9g
def Q7r := sub [1, 1, 1, 1, 1, 1, 1] B112
def J9j : List Item := [.code Q7r]
def Q7s := sub [1, 1, 1, 1, 1, 1, 0] B112
def J9k : List Item := .inRegion (opsOf Q7s) [3, 4] :: J9j
def Q7t := sub [1, 1, 1, 1, 1, 1, 1, 1] B112
def J9l : List Item := [.code Q7t]
def Q7u := sub [1, 1, 1, 1, 1, 1, 1, 0] B112
def J9m : List Item := .inRegion (opsOf Q7u) [1, 2, 3] :: J9l
def Q7v := sub [1, 1, 1, 1, 1, 1, 1, 1, 0, 0, 0] B112
def J9n : List Item := .inRegion (opsOf Q7v) [3, 4, 5] :: J8r
def Q7w := sub [1, 1, 1, 1, 0, 1, 0, 1] B112
def J9o : List Item := .code Q7w :: J9d
def Q7x := sub [1, 1, 1, 1, 0, 1, 0, 0] B112
def J9p : List Item := .inRegion (opsOf Q7x) [4, 5] :: J9o
def Q7y := sub [1, 1, 1, 1, 0, 1, 0, 1, 1] B112
def J9q : List Item := .code Q7y :: J9d
def Q7z := sub [1, 1, 1, 1, 0, 1, 0, 1, 0] B112
def J9r : List Item := .inRegion (opsOf Q7z) [1, 2] :: J9q
def Q80 := sub [1, 1, 1, 0, 1, 0, 1] B112
def J9s : List Item := .code Q80 :: J9a
def Q81 := sub [1, 1, 1, 0, 1, 0, 0] B112
def J9t : List Item := .inRegion (opsOf Q81) [1, 2] :: J9s

theorem W.z1b (x0v : T68) (r : (List Int) × T68) (h : M.syntax_parser_pair x0v = some r) {nz wz S0 w0 Lr} [Gw nz wz] (gx0 u22) (p0 : Hp nz wz S0 w0 ((some gx0, .row 69 [.string x0v.s, .i x0v.at_, .i x0v.deep, u22] 4 0) :: Lr)) (u23 : PtO kT72 S0 w0 u22 x0v.bad) :
  Calls Tryd.prog 112 #[(pt gx0 0)] w0 (Rets (Post.z1b nz wz S0 w0 Lr gx0 r)) := by
 refine calls_of_goes (fn := Tryd.f112) (c := B112) (by kernel_rfl) (by kernel_rfl) 71 (by kernel_rfl) ?_
 refine Goes.jp 72 [(0, (pt gx0 0))] (fun junk => ?_)
 delta M.syntax_parser_pair at h
 refine Goes.rn 2 [] J95 ?_
 refine Op_.alloc 25 2 0 (.agg #[.u 0, .u 0, .u 0, .u 0]) [.u 0, .u 0, .u 0, .u 0] p0 Goes.v (by kernel_rfl) (by kernel_rfl) ?_
 intro b2 w2 z2 p2
 refine Goes.rn 6 [(7, (pt gx0 0)), (8, (pt gx0 0)), (9, (pt gx0 1))] J97 ?_
 refine Goes.ld 3 (.tmp 9) 10 3 ⟨gx0, 1, none⟩ (.i x0v.at_) (p2.c 1 1) ?_
 refine Goes.rn 5 [(3, .i x0v.at_), (11, (pt gx0 0))] J99 ?_
 have p2 := p2.fr 1
 refine bind_some' h fun y4 e5 h => ?_
 refine Goes.cal (kc 120 [11] #[66]) 12 127 120 _ (W.z19 x0v y4 e5 gx0 u22 p2 (u23.ext z2)) ?_
 rintro _ w3 ⟨S3, u4l, rfl, z3, p3, u5t, u4m⟩
 refine Op_.alloc 127 4 0 (.agg #[.u 0, .u 0, .u 0, .u 0, .int .u8 0, .bool false]) [.u 0, .u 0, .u 0, .u 0, .int .u8 0, .bool false] p3 Goes.v (by kernel_rfl) (by kernel_rfl) ?_
 intro b6 w4 z4 p4
 refine Op_.st 127 (.tmp 4) (.tmp 12) 0 0 b6 0 (ag (U4 y4.1.set_ [.int .u8 y4.1.b, .bool y4.1.single])) (U4 y4.1.set_ [.int .u8 y4.1.b, .bool y4.1.single]) p4 rfl Goes.s (by kernel_rfl) (by kernel_rfl) (by kernel_rfl) (by kernel_rfl) (Nat.zero_le _) (by simp only [List.length_cons, List.length_nil]; omega) (by simp [Value.oneCell']) ?_
 intro w5 z5 p5
 have p5 : Hp nz wz S3 w5 ((some b6, .row 127 (U4 y4.1.set_ [.int .u8 y4.1.b, .bool y4.1.single]) 6 0) :: (some gx0, .row 69 [.string y4.2.s, .i y4.2.at_, .i y4.2.deep, u4l] 4 0) :: (some b2, .row 25 [.u 0, .u 0, .u 0, .u 0] 4 0) :: Lr) := p5
 refine Goes.rn 5 [(13, (pt gx0 0))] J9c ?_
 have p5 := p5.fr 1
 refine bind_some' h fun y8 e9 h => ?_
 refine Goes.cal (kc 65 [13] #[66]) 14 5 65 _ (W.zn y4.2 y8 e9 gx0 u4l p5 (u4m.ext (z4.trans z5))) ?_
 rintro _ w6 ⟨S6, u5u, rfl, z6, p6, u5v⟩
 refine Goes.rn 2 [(15, .bool (!(decide (y8.1 = 45))))] J9b ?_
 refine ite_some h (fun h10 h => ?_) (fun h10 h => ?_)
 ·
  rw [decide_eq_true h10]
  refine Goes.rn 6 [(18, (pt b6 5))] J9f ?_
  refine Goes.ld 4 (.tmp 18) 19 4 ⟨b6, 5, none⟩ (.bool y4.1.single) (p6.c 1 5) ?_
  refine Goes.rn 2 [(20, .bool (!y4.1.single))] J9e ?_
  refine ite_some h (fun h11 h => ?_) (fun h11 h => ?_)
  ·
   rw [h11]
   have p6 : Hp nz wz S6 w6 ((some gx0, .row 69 [.string y8.2.s, .i y8.2.at_, .i y8.2.deep, u5u] 4 0) :: (some b6, .row 127 (U4 y4.1.set_ [.int .u8 y4.1.b, .bool true]) 6 0) :: (some b2, .row 25 [.u 0, .u 0, .u 0, .u 0] 4 0) :: Lr) := by simp only [h11] at p6; exact p6
   refine Goes.rn 7 [(29, (pt gx0 0)), (30, (pt gx0 0)), (31, (pt gx0 1))] J9h ?_
   refine Goes.ld 3 (.tmp 31) 32 3 ⟨gx0, 1, none⟩ (.i y8.2.at_) (p6.c 0 1) ?_
   refine Goes.rn 3 [(33, .i (wr .i64 (y8.2.at_ + 1))), (34, (pt gx0 0)), (35, (pt gx0 1))] J9i ?_
   refine Op_.st 3 (.tmp 35) (.tmp 33) 0 0 gx0 1 (.i (wr .i64 (y8.2.at_ + 1))) [.i (wr .i64 (y8.2.at_ + 1))] p6 rfl Goes.s (by kernel_rfl) (by kernel_rfl) (by kernel_rfl) (by kernel_rfl) (Nat.zero_le _) (by simp only [List.length_cons, List.length_nil]; omega) (by simp [Value.oneCell']) ?_
   intro w7 z7 p7
   have p7 : Hp nz wz S6 w7 ((some gx0, .row 69 [.string y8.2.s, .i (wr .i64 (y8.2.at_ + 1)), .i y8.2.deep, u5u] 4 0) :: (some b6, .row 127 (U4 y4.1.set_ [.int .u8 y4.1.b, .bool true]) 6 0) :: (some b2, .row 25 [.u 0, .u 0, .u 0, .u 0] 4 0) :: Lr) := p7
   refine Goes.rn 6 [(36, (pt gx0 0)), (37, (pt gx0 0)), (38, (pt gx0 1))] J9k ?_
   refine Goes.ld 3 (.tmp 38) 39 3 ⟨gx0, 1, none⟩ (.i (wr .i64 (y8.2.at_ + 1))) (p7.c 0 1) ?_
   refine Goes.rn 5 [(5, .i (wr .i64 (y8.2.at_ + 1))), (40, (pt gx0 0))] J9m ?_
   refine bind_some' h fun y12 e13 h => ?_
   refine Goes.cal (kc 120 [40] #[66]) 41 127 120 _ (W.z19 (⟨y8.2.s, wr .i64 (y8.2.at_ + 1), y8.2.deep, y8.2.bad⟩ : T68) y12 e13 gx0 u5u p7 (u5v.ext z7)) ?_
   rintro _ w8 ⟨S8, u50, rfl, z8, p8, u5w, u53⟩
   refine Op_.alloc 127 6 0 (.agg #[.u 0, .u 0, .u 0, .u 0, .int .u8 0, .bool false]) [.u 0, .u 0, .u 0, .u 0, .int .u8 0, .bool false] p8 Goes.v (by kernel_rfl) (by kernel_rfl) ?_
   intro b14 w9 z9 p9
   refine Op_.st 127 (.tmp 6) (.tmp 41) 0 0 b14 0 (ag (U4 y12.1.set_ [.int .u8 y12.1.b, .bool y12.1.single])) (U4 y12.1.set_ [.int .u8 y12.1.b, .bool y12.1.single]) p9 rfl Goes.s (by kernel_rfl) (by kernel_rfl) (by kernel_rfl) (by kernel_rfl) (Nat.zero_le _) (by simp only [List.length_cons, List.length_nil]; omega) (by simp [Value.oneCell']) ?_
   intro w10 z10 p10
   have p10 : Hp nz wz S8 w10 ((some b14, .row 127 (U4 y12.1.set_ [.int .u8 y12.1.b, .bool y12.1.single]) 6 0) :: (some gx0, .row 69 [.string y12.2.s, .i y12.2.at_, .i y12.2.deep, u50] 4 0) :: (some b6, .row 127 (U4 y4.1.set_ [.int .u8 y4.1.b, .bool true]) 6 0) :: (some b2, .row 25 [.u 0, .u 0, .u 0, .u 0] 4 0) :: Lr) := p10
   refine Goes.rn 8 [(48, (pt gx0 0)), (49, (pt gx0 0)), (50, (pt gx0 3))] J9n ?_
   refine Goes.ld 67 (.tmp 50) 51 67 ⟨gx0, 3, none⟩ (u50) (p10.c 1 3) ?_
   refine let_some h fun v25 h16 h => ?_
   rcases v25 with _ | y17
   ·
    try dsimp only at h
    obtain rfl := PtO.nil (u53.ext (z9.trans z10)) h16
    refine Goes.rn 3 [(52, .bool false), (47, .bool false)] J8r ?_
    have p10 := (((p10.fr 1).fr 1).fr 2).fr 3
    exact Goes.jp 72 [(0, (pt gx0 0)), (2, (pt b2 0)), (3, .i x0v.at_), (4, (pt b6 0)), (5, .i (wr .i64 (y8.2.at_ + 1))), (6, (pt b14 0)), (47, .bool false)] (W.z1c gx0 _ _ h _ _ ((((((((((Ext.refl S0 w0).trans z2).trans z3).trans z4).trans z5).trans z6).trans z7).trans z8).trans z9).trans z10) b2 b6 b14 (.pointer none) p10 rfl u5t u5w rfl)
   ·
    try dsimp only at h
    obtain ⟨a19, _, rfl, -, f20, q21⟩ := PtO.got (u53.ext (z9.trans z10)) h16
    obtain rfl := q21
    refine Goes.rn 3 [(52, .bool true), (47, .bool true)] J8r ?_
    have p10 := (((p10.fr 1).fr 1).fr 2).fr 3
    exact Goes.jp 72 [(0, (pt gx0 0)), (2, (pt b2 0)), (3, .i x0v.at_), (4, (pt b6 0)), (5, .i (wr .i64 (y8.2.at_ + 1))), (6, (pt b14 0)), (47, .bool true)] (W.z1c gx0 _ _ h _ _ ((((((((((Ext.refl S0 w0).trans z2).trans z3).trans z4).trans z5).trans z6).trans z7).trans z8).trans z9).trans z10) b2 b6 b14 (.pointer (some a19)) p10 rfl u5t u5w ⟨_, _, rfl, List.cons_ne_nil _ _, f20, rfl⟩)
  ·
   have u1f : y4.1.single = false := by simpa using h11
   rw [u1f]
   have p6 : Hp nz wz S6 w6 ((some gx0, .row 69 [.string y8.2.s, .i y8.2.at_, .i y8.2.deep, u5u] 4 0) :: (some b6, .row 127 (U4 y4.1.set_ [.int .u8 y4.1.b, .bool false]) 6 0) :: (some b2, .row 25 [.u 0, .u 0, .u 0, .u 0] 4 0) :: Lr) := by simp only [u1f] at p6; exact p6
   refine Goes.rn 7 [(21, (pt gx0 0)), (22, (pt gx0 0)), (23, (pt gx0 0)), (24, (pt gx0 1))] J9p ?_
   refine Goes.ld 3 (.tmp 24) 25 3 ⟨gx0, 1, none⟩ (.i y8.2.at_) (p6.c 0 1) ?_
   refine bind_some' h fun y26 e27 h => ?_
   refine Goes.cal (kc 31 [21, 25] #[66, 3]) 26 28 31 _ (W.zp y8.2 y8.2.at_ y26 e27 gx0 u5u p6 u5v) ?_
   rintro _ w11 ⟨S11, u5x, u5y, u5z, u4s, rfl, z11, p11, u60, u61, rfl, u4t⟩
   refine Goes.rn 4 [(27, (pt b6 0))] J9r ?_
   refine Goes.ldN 25 (.tmp 27) 28 25 ⟨b6, 0, none⟩ (U4 y4.1.set_ []) (p11.pa 1 0) ?_
   refine Op_.st 25 (.tmp 2) (.tmp 28) 0 2 b2 0 (ag (U4 y4.1.set_ [])) (U4 y4.1.set_ []) p11 rfl Goes.s (by kernel_rfl) (by kernel_rfl) (by kernel_rfl) (by kernel_rfl) (Nat.zero_le _) (by simp only [List.length_cons, List.length_nil]; omega) (by simp [Value.oneCell']) ?_
   intro w12 z12 p12
   have p12 : Hp nz wz S11 w12 ((some gx0, .row 69 [.string y26.2.s, .i y26.2.at_, .i y26.2.deep, u4s] 4 0) :: (some b6, .row 127 (U4 y4.1.set_ [.int .u8 y4.1.b, .bool false]) 6 0) :: (some b2, .row 25 (U4 y4.1.set_ []) 4 0) :: Lr) := p12
   refine Goes.rn 1 [] J9q ?_
   obtain rfl := Option.some.inj h
   have p12 := p12.dp 1
   have p12 := (p12.fr 0).fr 1
   exact Goes.ret (fn := Tryd.f112) (by kernel_rfl) (v := (ag (U4 y4.1.set_ []))) (results_n1 (fn := Tryd.f112) (a := .cell 2 25) (by kernel_rfl) (resV_cell ⟨b2, 0, none⟩ (by kernel_rfl) (run_loadN (U4 y4.1.set_ []) (by kernel_rfl) (by kernel_rfl) (p12.pa 0 0)))) ⟨S11, ((U4 y4.1.set_ []) : List Value), u4s, rfl, ((((((((Ext.refl S0 w0).trans z2).trans z3).trans z4).trans z5).trans z6).trans z11).trans z12), p12.drop, (els_mk4 (S := S11) (w := w12) (k := .u64) u5t), rfl, (u4t.ext z12)⟩
 ·
  rw [decide_eq_false h10]
  refine Goes.rn 4 [(16, (pt b6 0))] J9t ?_
  refine Goes.ldN 25 (.tmp 16) 17 25 ⟨b6, 0, none⟩ (U4 y4.1.set_ []) (p6.pa 1 0) ?_
  refine Op_.st 25 (.tmp 2) (.tmp 17) 0 2 b2 0 (ag (U4 y4.1.set_ [])) (U4 y4.1.set_ []) p6 rfl Goes.s (by kernel_rfl) (by kernel_rfl) (by kernel_rfl) (by kernel_rfl) (Nat.zero_le _) (by simp only [List.length_cons, List.length_nil]; omega) (by simp [Value.oneCell']) ?_
  intro w13 z13 p13
  have p13 : Hp nz wz S6 w13 ((some gx0, .row 69 [.string y8.2.s, .i y8.2.at_, .i y8.2.deep, u5u] 4 0) :: (some b6, .row 127 (U4 y4.1.set_ [.int .u8 y4.1.b, .bool y4.1.single]) 6 0) :: (some b2, .row 25 (U4 y4.1.set_ []) 4 0) :: Lr) := p13
  refine Goes.rn 1 [] J9s ?_
  obtain rfl := Option.some.inj h
  have p13 := p13.dp 1
  have p13 := (p13.fr 0).fr 1
  exact Goes.ret (fn := Tryd.f112) (by kernel_rfl) (v := (ag (U4 y4.1.set_ []))) (results_n1 (fn := Tryd.f112) (a := .cell 2 25) (by kernel_rfl) (resV_cell ⟨b2, 0, none⟩ (by kernel_rfl) (run_loadN (U4 y4.1.set_ []) (by kernel_rfl) (by kernel_rfl) (p13.pa 0 0)))) ⟨S6, ((U4 y4.1.set_ []) : List Value), u5u, rfl, (((((((Ext.refl S0 w0).trans z2).trans z3).trans z4).trans z5).trans z6).trans z13), p13.drop, (els_mk4 (S := S6) (w := w13) (k := .u64) u5t), rfl, (u5v.ext z13)⟩

def J9u : List Item := [.inBlock 1]
def Q82 := sub [1, 1, 1, 0, 1, 0, 1, 0] B91
def J9v : List Item := .inRegion (opsOf Q82) [0, 1, 2, 3, 4] :: J9u
def Q83 := sub [1, 1, 1, 0, 1, 0] B91
def Q84 := sub [1, 1, 1, 0, 1, 0, 0] B91
def Q85 := sub [1, 1, 1, 0, 1, 0, 1] B91

def Post.z1d (lk : Nat) (rk : Nat) (jkk : Nat → Value) (u62 : Nat) (u63 : Option Nat) (u64 : Nat) (u65 : Nat) (u66 : List Value) (u67 : Nat) (u68 : Nat) (u69 : Nat) (u6a : Value) (u6b : T27) (kq3 : Bool) (u6c : T68) (r : List Int) (v : Value) (w' : World) : Prop :=
 ∃ S' u6d, v = .bool true ∧ Ext S0 w0 S' w' ∧ Hp nz wz S' w' ((some lk, .obj (lpst 91 (lfr 20 [(2, (pt u62 0)), (3, .bool kq3), (4, (pt u67 0)), (9, .func (.func 111) #[] #[(pt u68 0)])] jkk) #[10] (rfAssign (Q83)) (rfBody (Q83)) rk .ready none)) :: (some u62, .row 28 (.i u6b.Kind :: U4 u6b.Set [.slice (Gp u63) u64 u65, .i u6b.Min, .i u6b.Max]) 8 0) :: (u63, .row 28 u66 (u65 * kT27.size) 0) :: (some u67, .row 25 u6d 4 0) :: (some u68, .row 66 [(pt u69 0)] 1 0) :: (some u69, .row 69 [.string u6c.s, .i u6c.at_, .i u6c.deep, u6a] 4 0) :: Lr) ∧ Els (kInt .u64) S' w' u6d r ∧ u6d.length = 4

theorem W.z1d (u6b : T27) (kq3 : Bool) (kq4 : List Int) (u6c : T68) (a0 : List Int) (r : List Int) (h : M.syntax_parser_class_r_2 u6b kq3 kq4 u6c a0 = some r) {nz wz S0 w0 Lr} [Gw nz wz] (lk rk jkk u62 u63 u64 u65 u66 u67 u6e u68 u69 u6a u6f) (p0 : Hp nz wz S0 w0 ((some lk, .obj (lpst 91 (lfr 20 [(2, (pt u62 0)), (3, .bool kq3), (4, (pt u67 0)), (9, .func (.func 111) #[] #[(pt u68 0)])] jkk) #[10] (rfAssign (Q83)) (rfBody (Q83)) rk .ready none)) :: (some u62, .row 28 (.i u6b.Kind :: U4 u6b.Set [.slice (Gp u63) u64 u65, .i u6b.Min, .i u6b.Max]) 8 0) :: (u63, .row 28 u66 (u65 * kT27.size) 0) :: (some u67, .row 25 u6e 4 0) :: (some u68, .row 66 [(pt u69 0)] 1 0) :: (some u69, .row 69 [.string u6c.s, .i u6c.at_, .i u6c.deep, u6a] 4 0) :: Lr)) (u6g : u6b.Set.length = 4) (u6h : Els kT27 S0 w0 u66 u6b.L) (u6i : u6b.L.length = u64) (u6j : Els (kInt .u64) S0 w0 u6e kq4) (u6k : u6e.length = 4) (u6l : PtO kT72 S0 w0 u6a u6c.bad) (fa0 : Els (kInt .u64) S0 w0 u6f a0) (la0 : u6f.length = 4) :
  Goes Tryd.prog (rbase 91 lk) [.code (rfAssign (Q83)), .beginRound, .code (rfBody (Q83))] ⟨setp (lfr 20 [(2, (pt u62 0)), (3, .bool kq3), (4, (pt u67 0)), (9, .func (.func 111) #[] #[(pt u68 0)])] jkk) #[10] #[.agg u6f.toArray], []⟩ w0 (DoneR (Post.z1d nz wz S0 w0 Lr lk rk jkk u62 u63 u64 u65 u66 u67 u68 u69 u6a u6b kq3 u6c r)) := by
 subst u6i
 refine Goes.jp 20 [(2, (pt u62 0)), (3, .bool kq3), (4, (pt u67 0)), (9, .func (.func 111) #[] #[(pt u68 0)]), (10, .agg u6f.toArray)] (fun junk => ?_)
 delta M.syntax_parser_class_r_2 at h
 refine Goes.rn 1 [] [.inRegion (opsOf (Q84)) [0, 1], .beginRound, .code (Q85)] ?_
 refine Op_.alloc 25 5 0 (.agg #[.u 0, .u 0, .u 0, .u 0]) [.u 0, .u 0, .u 0, .u 0] p0 Goes.v (by kernel_rfl) (by kernel_rfl) ?_
 intro b7 w2 z2 p2
 have f9 : Els (kInt .u64) S0 w2 ([.u 0, .u 0, .u 0, .u 0] : List Value) [0, 0, 0, 0] := (Els.cons (K := (kInt .u64)) (vs := [.u 0]) (x := 0) rfl (Els.cons (K := (kInt .u64)) (vs := [.u 0]) (x := 0) rfl (Els.cons (K := (kInt .u64)) (vs := [.u 0]) (x := 0) rfl (Els.cons (K := (kInt .u64)) (vs := [.u 0]) (x := 0) rfl Els.nil))))
 refine Op_.stA 25 (.tmp 5) (.tmp 10) 0 0 b7 4 u6f p2 rfl rfl Goes.s (by kernel_rfl) (by kernel_rfl) (by kernel_rfl) la0 (Els.one (fa0.ext z2)) ?_
 intro w3 z3 p3
 refine Goes.rn 1 [] [.beginRound, .code (Q85)] ?_
 refine Goes.beginR 1 rfl p3 rfl ?_
 intro w4 z4 p4
 refine Goes.rn 2 [] J9v ?_
 refine Op_.ldN 25 (.tmp 4) 11 25 ⟨u67, 0, none⟩ u6e Goes.v (by kernel_rfl) (by kernel_rfl) (by rw [u6k]; kernel_rfl) (At_all (p4.mem 4 rfl)) ?_
 refine Op_.ldN 25 (.tmp 5) 12 25 ⟨b7, 0, none⟩ u6f Goes.v (by kernel_rfl) (by kernel_rfl) (by rw [la0]; kernel_rfl) (At_all (p4.mem 0 rfl)) ?_
 have l10 := Els.len1 (u6j.ext ((z2.trans z3).trans z4)) u6k rfl
 obtain rfl := els_lit4 (u6j.ext ((z2.trans z3).trans z4)) u6k
 have l11 := Els.len1 (fa0.ext ((z2.trans z3).trans z4)) la0 rfl
 obtain rfl := els_lit4 (fa0.ext ((z2.trans z3).trans z4)) la0
 have f13 : Els (kArr 4 (kInt .u64)) S0 w4 ((U4 kq4 (U4 a0 [])) : List Value) [kq4, a0] := by exact (Els.cons (K := (kArr 4 (kInt .u64))) (vs := (U4 kq4 [])) (x := kq4) ⟨l10, els_mk4 l10⟩ (Els.cons (K := (kArr 4 (kInt .u64))) (vs := (U4 a0 [])) (x := a0) ⟨l11, els_mk4 l11⟩ Els.nil))
 refine Op_.made (.buildSlice 151 2 #[(0, (.tmp 11)), (1, (.tmp 12))]) 13 151 (fun b => .slice (Gp (some b)) 2 2) 25 ((U4 kq4 (U4 a0 [])) : List Value) p4 Goes.v (by kernel_rfl) ?_
 intro b12 w5 z5 p5
 have p5 : Hp nz wz S0 w5 (((some b12), .row 25 ((U4 kq4 (U4 a0 [])) : List Value) (2 * (kArr 4 (kInt .u64)).size) 0) :: (some b7, .row 25 ((U4 a0 []) : List Value) 4 0) :: (some lk, .obj (lpst 91 (lfr 20 [(2, (pt u62 0)), (3, .bool kq3), (4, (pt u67 0)), (9, .func (.func 111) #[] #[(pt u68 0)])] jkk) #[10] (rfAssign (Q83)) (rfBody (Q83)) rk .busy none)) :: (some u62, .row 28 (.i u6b.Kind :: U4 u6b.Set [.slice (Gp u63) u6b.L.length u65, .i u6b.Min, .i u6b.Max]) 8 0) :: (u63, .row 28 u66 (u65 * kT27.size) 0) :: (some u67, .row 25 ((U4 kq4 []) : List Value) 4 0) :: (some u68, .row 66 [(pt u69 0)] 1 0) :: (some u69, .row 69 [.string u6c.s, .i u6c.at_, .i u6c.deep, u6a] 4 0) :: Lr) := p5
 obtain ⟨S6, z6, p6, f15⟩ := p5.freezeRd 0 rfl (f13.ext z5) (by decide)
 refine bind_some' h fun y16 e17 h => ?_
 refine Goes.cal (kc 102 [13] #[151]) 14 25 102 _ (W.zy [kq4, a0] y16 e17 (Gp (some b12)) 2 2 p6 f15 rfl) ?_
 rintro _ w7 ⟨S7, u2z, rfl, z7, p7, u30, u31⟩
 have p7 := (p7.dp 0).dp 0
 refine Op_.stA 25 (.tmp 4) (.tmp 14) 0 3 u67 4 u2z p7 rfl u6k Goes.s (by kernel_rfl) (by kernel_rfl) (by kernel_rfl) u31 (Els.one u30) ?_
 intro w8 z8 p8
 refine Goes.rn 2 [] [] ?_
 obtain rfl := Option.some.inj h
 refine Goes.endR 0 p8 rfl ?_
 intro w9 z9 p9
 exact ⟨S7, u2z, rfl, (((((((((Ext.refl S0 w0).trans z2).trans z3).trans z4).trans z5).trans z6).trans z7).trans z8).trans z9), p9, (u30.ext (z8.trans z9)), u31⟩

def J9w : List Item := [.inBlock 0]
def Q86 := sub [1, 0, 0] B111
def J9x : List Item := .inLoop Q86 :: J9w
def J9y : List Item := .code Q86 :: J9x
def Q87 := sub [1, 0, 0, 1] B111
def J9z : List Item := .code Q87 :: J9x
def Q88 := sub [1, 0, 0, 0, 1] B111
def Ja0 : List Item := .code Q88 :: J9z
def Q89 := sub [1, 0, 0, 0, 0] B111
def Ja1 : List Item := .inRegion (opsOf Q89) [0, 1, 2, 3, 4, 5, 6, 7, 8, 9, 10, 11, 12] :: Ja0
def Ja2 : List Item := .inRegion (opsOf Q89) [3, 4, 5, 6, 7, 8, 9, 10, 11, 12] :: Ja0
def Ja3 : List Item := .inRegion (opsOf Q89) [8, 9, 10, 11, 12] :: Ja0
def Q8a := sub [1, 0, 0, 1, 1] B111
def Ja4 : List Item := .code Q8a :: J9x
def Ja5 : List Item := .inBlock 1 :: Ja4
def Q8b := sub [1, 0, 0, 1, 0, 0, 1] B111
def Ja6 : List Item := .code Q8b :: Ja5
def Q8c := sub [1, 0, 0, 1, 0, 0, 0] B111
def Ja7 : List Item := .inRegion (opsOf Q8c) [1, 2, 3, 4] :: Ja6

def Post.z1e (lx0 : Nat) (rx0 : Nat) (u6m : Nat → Value) (u6n : Nat) (u6o : Option Nat) (u6p : Nat) (u6q : Nat) (u6r : List Value) (u6s : Nat) (u6t : Nat) (u6u : Nat) (u6v : T27) (u6w : Bool) (r : (List Int) × T68) (v : Value) (w' : World) : Prop :=
 ∃ S' u6d u6x, v = .tuple #[] ∧ Ext S0 w0 S' w' ∧ Hp nz wz S' w' ((some lx0, .obj (lpst 91 (lfr 20 [(2, (pt u6n 0)), (3, .bool u6w), (4, (pt u6s 0)), (9, .func (.func 111) #[] #[(pt u6t 0)])] u6m) #[10] (rfAssign (Q83)) (rfBody (Q83)) rx0 .ready none)) :: (some u6n, .row 28 (.i u6v.Kind :: U4 u6v.Set [.slice (Gp u6o) u6p u6q, .i u6v.Min, .i u6v.Max]) 8 0) :: (u6o, .row 28 u6r (u6q * kT27.size) 0) :: (some u6s, .row 25 u6d 4 0) :: (some u6t, .row 66 [(pt u6u 0)] 1 0) :: (some u6u, .row 69 [.string r.2.s, .i r.2.at_, .i r.2.deep, u6x] 4 0) :: Lr) ∧ Els (kInt .u64) S' w' u6d r.1 ∧ u6d.length = 4 ∧ PtO kT72 S' w' u6x r.2.bad

def L.z1f (lx0 : Nat) (rx0 : Nat) (u6m : Nat → Value) (u6n : Nat) (u6o : Option Nat) (u6p : Nat) (u6q : Nat) (u6r : List Value) (u6s : Nat) (u6t : Nat) (u6u : Nat) : Bool × (List Int) × T68 × T27 × Bool → ((List Int) × T68) → Prop := fun ⟨x3, e2, e4v, u6v, u6w⟩ r => ∀ S1 w1, Ext S0 w0 S1 w1 → ∀ u6d u6x (_ : Hp nz wz S1 w1 ((some lx0, .obj (lpst 91 (lfr 20 [(2, (pt u6n 0)), (3, .bool u6w), (4, (pt u6s 0)), (9, .func (.func 111) #[] #[(pt u6t 0)])] u6m) #[10] (rfAssign (Q83)) (rfBody (Q83)) rx0 .ready none)) :: (some u6n, .row 28 (.i u6v.Kind :: U4 u6v.Set [.slice (Gp u6o) u6p u6q, .i u6v.Min, .i u6v.Max]) 8 0) :: (u6o, .row 28 u6r (u6q * kT27.size) 0) :: (some u6s, .row 25 u6d 4 0) :: (some u6t, .row 66 [(pt u6u 0)] 1 0) :: (some u6u, .row 69 [.string e4v.s, .i e4v.at_, .i e4v.deep, u6x] 4 0) :: Lr)) (_ : u6v.Set.length = 4) (_ : Els kT27 S1 w1 u6r u6v.L) (_ : u6v.L.length = u6p) (_ : Els (kInt .u64) S1 w1 u6d e2) (_ : u6d.length = 4) (_ : PtO kT72 S1 w1 u6x e4v.bad) (junk : Nat → Value),
 Goes Tryd.prog (base 111) J9y ⟨lfr 22 [(0, yieldV lx0), (1, (pt u6t 0)), (3, .bool x3)] junk, []⟩ w1 (Done Tryd.prog 111 (Rets (Post.z1e nz wz S0 w0 Lr lx0 rx0 u6m u6n u6o u6p u6q u6r u6s u6t u6u u6v u6w r)))

def L.z1g (lx0 : Nat) (rx0 : Nat) (u6m : Nat → Value) (u6n : Nat) (u6o : Option Nat) (u6p : Nat) (u6q : Nat) (u6r : List Value) (u6s : Nat) (u6t : Nat) (u6u : Nat) : Bool × (List Int) × T68 × T27 × Bool → ((List Int) × T68) → Prop := fun ⟨x16, e2, e4v, u6v, u6w⟩ r => ∀ S1 w1, Ext S0 w0 S1 w1 → ∀ u6d u6x (_ : Hp nz wz S1 w1 ((some lx0, .obj (lpst 91 (lfr 20 [(2, (pt u6n 0)), (3, .bool u6w), (4, (pt u6s 0)), (9, .func (.func 111) #[] #[(pt u6t 0)])] u6m) #[10] (rfAssign (Q83)) (rfBody (Q83)) rx0 .ready none)) :: (some u6n, .row 28 (.i u6v.Kind :: U4 u6v.Set [.slice (Gp u6o) u6p u6q, .i u6v.Min, .i u6v.Max]) 8 0) :: (u6o, .row 28 u6r (u6q * kT27.size) 0) :: (some u6s, .row 25 u6d 4 0) :: (some u6t, .row 66 [(pt u6u 0)] 1 0) :: (some u6u, .row 69 [.string e4v.s, .i e4v.at_, .i e4v.deep, u6x] 4 0) :: Lr)) (_ : u6v.Set.length = 4) (_ : Els kT27 S1 w1 u6r u6v.L) (_ : u6v.L.length = u6p) (_ : Els (kInt .u64) S1 w1 u6d e2) (_ : u6d.length = 4) (_ : PtO kT72 S1 w1 u6x e4v.bad) (junk : Nat → Value),
 Goes Tryd.prog (base 111) Ja0 ⟨lfr 22 [(0, yieldV lx0), (1, (pt u6t 0)), (16, .bool x16)] junk, []⟩ w1 (Done Tryd.prog 111 (Rets (Post.z1e nz wz S0 w0 Lr lx0 rx0 u6m u6n u6o u6p u6q u6r u6s u6t u6u u6v u6w r)))

theorem W.z1h {nz wz S0 w0 Lr} [Gw nz wz] (lx0 : Nat) (rx0 : Nat) (u6m : Nat → Value) (u6n : Nat) (u6o : Option Nat) (u6p : Nat) (u6q : Nat) (u6r : List Value) (u6s : Nat) (u6t : Nat) (u6u : Nat) : (∀ a r, M.syntax_parser_items_1_l0 a = some r → (L.z1f nz wz S0 w0 Lr lx0 rx0 u6m u6n u6o u6p u6q u6r u6s u6t u6u) a r) ∧ (∀ a r, M.syntax_parser_items_1_l1 a = some r → (L.z1g nz wz S0 w0 Lr lx0 rx0 u6m u6n u6o u6p u6q u6r u6s u6t u6u) a r) := by
 refine M.syntax_parser_items_1_l0.mutual_partial_correctness (L.z1f nz wz S0 w0 Lr lx0 rx0 u6m u6n u6o u6p u6q u6r u6s u6t u6u) (L.z1g nz wz S0 w0 Lr lx0 rx0 u6m u6n u6o u6p u6q u6r u6s u6t u6u) ?_ ?_
 ·
  intro u6y u6z ⟨x3, e2, e4v, u6v, u6w⟩ r h S1 w1 hx u6d u6x p1 u70 fs1 ls1 fe2 le2 u71 junk
  try dsimp only at h
  subst ls1
  refine Goes.rn 3 [] Ja1 ?_
  refine Goes.ld 66 (.tmp 1) 4 66 ⟨u6t, 0, none⟩ ((pt u6u 0)) (p1.c 4 0) ?_
  refine Goes.rn 2 [(5, (pt u6u 0)), (6, (pt u6u 3))] Ja2 ?_
  refine Goes.ld 67 (.tmp 6) 7 67 ⟨u6u, 3, none⟩ (u6x) (p1.c 5 3) ?_
  refine let_some h fun v17 h8 h => ?_
  rcases v17 with _ | y9
  ·
   try dsimp only at h
   obtain rfl := PtO.nil u71 h8
   refine Goes.rn 4 [(8, .bool true), (9, .bool true), (10, .bool x3), (11, .bool x3)] Ja3 ?_
   refine ite_some h (fun h14 h => ?_) (fun h14 h => ?_)
   ·
    rw [h14]
    refine Goes.rn 6 [(12, undef), (13, undef), (14, undef), (15, .bool true), (16, .bool true)] Ja0 ?_
    exact Goes.jp 22 [(0, yieldV lx0), (1, (pt u6t 0)), (16, .bool true)] (u6z _ _ h _ _ hx u6d (.pointer none) p1 u70 fs1 rfl fe2 le2 rfl)
   ·
    have u72 : x3 = false := by simpa using h14
    rw [u72]
    refine Goes.ld 66 (.tmp 1) 12 66 ⟨u6t, 0, none⟩ ((pt u6u 0)) (p1.c 4 0) ?_
    have p1 := p1.fr 5
    refine bind_some' h fun y15 e16 h => ?_
    refine Goes.cal (.call { callee := .value (.func 48), args := #[(.tmp 12), (.const (.int .u8 93))], argTypes := #[66, 5] }) 13 4 48 _ (W.zq (⟨e4v.s, e4v.at_, e4v.deep, none⟩ : T68) 93 y15 e16 u6u (.pointer none) p1 rfl) ?_
    rintro _ w2 ⟨S2, u27, rfl, z2, p2, u28⟩
    refine Goes.rn 4 [(14, .bool (!y15.1)), (15, .bool (!y15.1)), (16, .bool (!y15.1))] Ja0 ?_
    have p2 := (((((p2.fr 0).fr 5).fr 5).fr 5).fr 5).fr 5
    exact Goes.jp 22 [(0, yieldV lx0), (1, (pt u6t 0)), (16, .bool (!y15.1))] (u6z _ _ h _ _ (hx.trans z2) u6d u27 p2 u70 (fs1.ext z2) rfl (fe2.ext z2) le2 u28)
  ·
   try dsimp only at h
   obtain ⟨a11, _, rfl, -, f12, q13⟩ := PtO.got u71 h8
   obtain rfl := q13
   refine Goes.rn 10 [(8, .bool false), (9, .bool false), (10, undef), (11, undef), (12, undef), (13, undef), (14, undef), (15, undef), (16, .bool false)] Ja0 ?_
   exact Goes.jp 22 [(0, yieldV lx0), (1, (pt u6t 0)), (16, .bool false)] (u6z _ _ h _ _ hx u6d (.pointer (some a11)) p1 u70 fs1 rfl fe2 le2 ⟨_, _, rfl, List.cons_ne_nil _ _, f12, rfl⟩)
 ·
  intro u73 u74 ⟨x16, e2, e4v, u6v, u6w⟩ r h S1 w1 hx u6d u6x p1 u70 fs1 ls1 fe2 le2 u71 junk
  try dsimp only at h
  subst ls1
  refine ite_some h (fun h18 h => ?_) (fun h18 h => ?_)
  ·
   rw [h18]
   refine Goes.rn 7 [(17, yieldV lx0)] Ja7 ?_
   refine Goes.ld 66 (.tmp 1) 18 66 ⟨u6t, 0, none⟩ ((pt u6u 0)) (p1.c 4 0) ?_
   have p1 := p1.fr 5
   refine bind_some' h fun y19 e20 h => ?_
   refine Goes.cal (kc 112 [18] #[66]) 19 25 112 _ (W.z1b e4v y19 e20 u6u u6x p1 u71) ?_
   rintro _ w3 ⟨S3, u49, u4l, rfl, z3, p3, u4a, u4b, u4m⟩
   have p3 := (((((p3.fr 0).fr 5).fr 5).fr 5).fr 5).fr 5
   refine bind_some' h fun y21 e22 h => ?_
   refine Goes.yieldAt (.call { callee := .value (.tmp 17), args := #[(.tmp 19)], argTypes := #[25] }) 20 4 0 lx0 #[.agg u49.toArray] p3 rfl (by kernel_rfl) rfl (fun _ => by kernel_rfl) rfl (W.z1d u6v u6w e2 y19.2 y19.1 y21 e22 lx0 rx0 u6m u6n u6o u6v.L.length u6q u6r u6s u6d u6t u6u u4l u49 p3 u70 (fs1.ext z3) rfl (fe2.ext z3) le2 u4m u4a u4b) ?_
   rintro _ w4 ⟨S4, u75, rfl, z4, p4, u76, u77⟩
   refine Goes.rn 9 [(21, .bool (!true)), (3, .bool false)] J9y ?_
   exact Goes.jp 22 [(0, yieldV lx0), (1, (pt u6t 0)), (3, .bool false)] (u74 _ _ h _ _ ((hx.trans z3).trans z4) u75 u4l p4 u70 (fs1.ext (z3.trans z4)) rfl u76 u77 (u4m.ext z4))
  ·
   have u78 : x16 = false := by simpa using h18
   rw [u78]
   refine Goes.rn 2 [] [] ?_
   obtain rfl := Option.some.inj h
   exact Goes.end_ (fn := Tryd.f111) (by kernel_rfl) (v := .tuple #[]) (by kernel_rfl) ⟨S1, u6d, u6x, rfl, hx, p1, fe2, le2, u71⟩

theorem W.z1f {nz wz S0 w0 Lr} [Gw nz wz] (lx0 : Nat) (rx0 : Nat) (u6m : Nat → Value) (u6n : Nat) (u6o : Option Nat) (u6p : Nat) (u6q : Nat) (u6r : List Value) (u6s : Nat) (u6t : Nat) (u6u : Nat) : ∀ a r, M.syntax_parser_items_1_l0 a = some r → (L.z1f nz wz S0 w0 Lr lx0 rx0 u6m u6n u6o u6p u6q u6r u6s u6t u6u) a r := (W.z1h lx0 rx0 u6m u6n u6o u6p u6q u6r u6s u6t u6u).1

theorem W.z1g {nz wz S0 w0 Lr} [Gw nz wz] (lx0 : Nat) (rx0 : Nat) (u6m : Nat → Value) (u6n : Nat) (u6o : Option Nat) (u6p : Nat) (u6q : Nat) (u6r : List Value) (u6s : Nat) (u6t : Nat) (u6u : Nat) : ∀ a r, M.syntax_parser_items_1_l1 a = some r → (L.z1g nz wz S0 w0 Lr lx0 rx0 u6m u6n u6o u6p u6q u6r u6s u6t u6u) a r := (W.z1h lx0 rx0 u6m u6n u6o u6p u6q u6r u6s u6t u6u).2

theorem W.z1e (u6v : T27) (u6w : Bool) (u79 : List Int) (u7a : T68) (r : (List Int) × T68) (h : M.syntax_parser_items_1 u6v u6w u79 u7a = some r) {nz wz S0 w0 Lr} [Gw nz wz] (lx0 rx0 u6m u6n u6o u6p u6q u6r u6s u6t u6u u7b) (p0 : Hp nz wz S0 w0 ((some lx0, .obj (lpst 91 (lfr 20 [(2, (pt u6n 0)), (3, .bool u6w), (4, (pt u6s 0)), (9, .func (.func 111) #[] #[(pt u6t 0)])] u6m) #[10] (rfAssign (Q83)) (rfBody (Q83)) rx0 .ready none)) :: (some u6n, .row 28 (.i u6v.Kind :: U4 u6v.Set [.slice (Gp u6o) u6p u6q, .i u6v.Min, .i u6v.Max]) 8 0) :: (u6o, .row 28 u6r (u6q * kT27.size) 0) :: (some u6s, .row 25 (U4 u79 []) 4 0) :: (some u6t, .row 66 [(pt u6u 0)] 1 0) :: (some u6u, .row 69 [.string u7a.s, .i u7a.at_, .i u7a.deep, u7b] 4 0) :: Lr)) (u70 : u6v.Set.length = 4) (u7c : Els kT27 S0 w0 u6r u6v.L) (u7d : u6v.L.length = u6p) (u7e : u79.length = 4) (u7f : PtO kT72 S0 w0 u7b u7a.bad) :
  Calls Tryd.prog 111 #[yieldV lx0, (pt u6t 0)] w0 (Rets (Post.z1e nz wz S0 w0 Lr lx0 rx0 u6m u6n u6o u6p u6q u6r u6s u6t u6u u6v u6w r)) := by
 subst u7d
 refine calls_of_goes (fn := Tryd.f111) (c := B111) (by kernel_rfl) (by kernel_rfl) 20 (by kernel_rfl) ?_
 refine Goes.jp 22 [(0, yieldV lx0), (1, (pt u6t 0))] (fun junk => ?_)
 delta M.syntax_parser_items_1 at h
 refine Goes.rn 6 [(3, .bool true)] J9y ?_
 have f7 : Els (kInt .u64) S0 w0 ((U4 u79 []) : List Value) u79 := (els_mk4 (k := .u64) u7e)
 exact Goes.jp 22 [(0, yieldV lx0), (1, (pt u6t 0)), (3, .bool true)] (W.z1f lx0 rx0 u6m u6n u6o u6v.L.length u6q u6r u6s u6t u6u _ _ h _ _ (Ext.refl S0 w0) ((U4 u79 []) : List Value) u7b p0 u70 u7c rfl f7 rfl u7f)

def Q8d := sub [1] B91
def Ja8 : List Item := [.code Q8d]
def Q8e := sub [0] B91
def Ja9 : List Item := .inRegion (opsOf Q8e) [0] :: Ja8
def Q8f := sub [1, 1] B91
def Jaa : List Item := [.code Q8f]
def Q8g := sub [1, 0] B91
def Jab : List Item := .inRegion (opsOf Q8g) [1, 2] :: Jaa
def Q8h := sub [1, 1, 1] B91
def Jac : List Item := [.code Q8h]
def Q8i := sub [1, 1, 0] B91
def Jad : List Item := .inRegion (opsOf Q8i) [0] :: Jac
def Q8j := sub [1, 1, 1, 1] B91
def Jae : List Item := [.code Q8j]
def Q8k := sub [1, 1, 1, 0, 1] B91
def Jaf : List Item := .code Q8k :: Jae
def Q8l := sub [1, 1, 1, 0, 0] B91
def Jag : List Item := .inRegion (opsOf Q8l) [1] :: Jaf
def Jah : List Item := .inBlock 0 :: Jae
def Jai : List Item := .code Q83 :: Jah
def Q8m := sub [1, 1, 1, 1, 1] B91
def Jaj : List Item := [.code Q8m]
def Q8n := sub [1, 1, 1, 1, 0, 1] B91
def Jak : List Item := .code Q8n :: Jaj
def Q8o := sub [1, 1, 1, 1, 0, 1, 0] B91
def Jal : List Item := .inRegion (opsOf Q8o) [0, 1, 2] :: Jaj
def Q8p := sub [1, 1, 1, 1, 1, 1] B91
def Jam : List Item := [.code Q8p]
def Q8q := sub [1, 1, 1, 1, 1, 0] B91
def Jan : List Item := .inRegion (opsOf Q8q) [0, 1, 2] :: Jam
def Jao : List Item := .inRegion (opsOf Q8q) [2] :: Jam

def Post.z1i (gx0 : Nat) (r : T27 × T68) (v : Value) (w' : World) : Prop :=
 ∃ S' u24 u25 u26 u20, v = (ag (.i r.1.Kind :: U4 r.1.Set [.slice u24 u25 u26, .i r.1.Min, .i r.1.Max])) ∧ Ext S0 w0 S' w' ∧ Hp nz wz S' w' ((some gx0, .row 69 [.string r.2.s, .i r.2.at_, .i r.2.deep, u20] 4 0) :: Lr) ∧ r.1.Set.length = 4 ∧ Rd kT27 S' w' u24 u26 r.1.L ∧ r.1.L.length = u25 ∧ PtO kT72 S' w' u20 r.2.bad

theorem W.z1i (x0v : T68) (r : T27 × T68) (h : M.syntax_parser_class x0v = some r) {nz wz S0 w0 Lr} [Gw nz wz] (gx0 u22) (p0 : Hp nz wz S0 w0 ((some gx0, .row 69 [.string x0v.s, .i x0v.at_, .i x0v.deep, u22] 4 0) :: Lr)) (u23 : PtO kT72 S0 w0 u22 x0v.bad) :
  Calls Tryd.prog 91 #[(pt gx0 0)] w0 (Rets (Post.z1i nz wz S0 w0 Lr gx0 r)) := by
 refine calls_of_goes (fn := Tryd.f91) (c := B91) (by kernel_rfl) (by kernel_rfl) 19 (by kernel_rfl) ?_
 refine Goes.jp 20 [(0, (pt gx0 0))] (fun junk => ?_)
 delta M.syntax_parser_class at h
 refine Goes.rn 2 [] Ja9 ?_
 refine Op_.alloc 28 2 0 (.agg #[.i 0, .u 0, .u 0, .u 0, .u 0, .slice none 0 0, .i 0, .i 0]) [.i 0, .u 0, .u 0, .u 0, .u 0, .slice none 0 0, .i 0, .i 0] p0 Goes.v (by kernel_rfl) (by kernel_rfl) ?_
 intro b2 w2 z2 p2
 refine Goes.rn 4 [(6, (pt gx0 0))] Jab ?_
 have p2 := p2.fr 1
 refine bind_some' h fun y4 e5 h => ?_
 refine Goes.cal (.call { callee := .value (.func 48), args := #[(.tmp 6), (.const (.int .u8 94))], argTypes := #[66, 5] }) 7 4 48 _ (W.zq x0v 94 y4 e5 gx0 u22 p2 (u23.ext z2)) ?_
 rintro _ w3 ⟨S3, u4l, rfl, z3, p3, u4m⟩
 refine Goes.rn 4 [(3, .bool y4.1)] Jad ?_
 refine Op_.alloc 25 4 0 (.agg #[.u 0, .u 0, .u 0, .u 0]) [.u 0, .u 0, .u 0, .u 0] p3 Goes.v (by kernel_rfl) (by kernel_rfl) ?_
 intro b6 w4 z4 p4
 refine Goes.rn 5 [(8, (pt gx0 0))] Jag ?_
 have p4 := p4.fr 1
 refine bind_some' h fun y8 e9 h => ?_
 refine Goes.cal (kc 101 [8] #[66]) 9 139 101 _ (W.zv y4.2 y8 e9 gx0 u4l p4 (u4m.ext z4)) ?_
 rintro _ w5 ⟨S5, u7g, rfl, z5, p5⟩
 refine Goes.rn 2 [] Jai ?_
 refine Goes.jp 20 [(2, (pt b2 0)), (3, .bool y4.1), (4, (pt b6 0)), (9, .func (.func 111) #[] #[(pt u7g 0)])] (fun u7h => ?_)
 refine Goes.rangeF (f := 91) (.tmp 9) #[10] 111 #[] #[(pt u7g 0)] (by kernel_rfl) (by kernel_rfl) (fun _ => by kernel_rfl) p5 ?_
 intro r12 l13 w6 z6 p6
 have p6 : Hp nz wz S5 w6 ((none, .row 28 [] (0 * kT27.size) 0) :: (some l13, .obj (lpst 91 (lfr 20 [(2, (pt b2 0)), (3, .bool y4.1), (4, (pt b6 0)), (9, .func (.func 111) #[] #[(pt u7g 0)])] u7h) #[10] (rfAssign (Q83)) (rfBody (Q83)) r12 .ready none)) :: (some r12, .obj (.deferred (some []))) :: (some u7g, .row 66 [(pt gx0 0)] 1 0) :: (some gx0, .row 69 [.string y4.2.s, .i y4.2.at_, .i y4.2.deep, u4l] 4 0) :: (some b6, .row 25 [.u 0, .u 0, .u 0, .u 0] 4 0) :: (some b2, .row 28 [.i 0, .u 0, .u 0, .u 0, .u 0, .slice none 0 0, .i 0, .i 0] 8 0) :: Lr) := p6.nilRow' 28
 have p6 := (((((p6.fr 4).fr 4).fr 5).fr 3).fr 6).fr 5
 refine bind_some' h fun y17 e18 h => ?_
 refine ⟨_, W.z1e (⟨0, [0, 0, 0, 0], ([] : List T27), 0, 0⟩ : T27) y4.1 [0, 0, 0, 0] y4.2 y17 e18 l13 r12 u7h b2 none 0 0 [] b6 u7g gx0 u4l p6 rfl (Els.nil (K := kT27)) rfl rfl (u4m.ext ((z4.trans z5).trans z6)), ?_⟩
 rintro _ w7 ⟨S7, u7i, u7j, rfl, z7, p7, u7k, u7l, u7m⟩
 refine Goes.endF 0 p7 rfl rfl ?_
 intro w8 z8 p8
 replace p8 : Hp nz wz S7 w8 ((some b2, .row 28 [.i 0, .u 0, .u 0, .u 0, .u 0, .slice (Gp none) 0 0, .i 0, .i 0] 8 0) :: (none, .row 28 [] (0 * kT27.size) 0) :: (some b6, .row 25 u7i 4 0) :: (some u7g, .row 66 [(pt gx0 0)] 1 0) :: (some gx0, .row 69 [.string y17.2.s, .i y17.2.at_, .i y17.2.deep, u7j] 4 0) :: (some r12, .obj (.deferred (some []))) :: Lr) := (p8.front 0 _ rfl).drop
 show Goes _ _ Jah _ _ _
 refine Goes.rn 6 [(15, .bool y4.1)] Jak ?_
 refine ite_some h (fun h19 h => ?_) (fun h19 h => ?_)
 ·
  rw [h19]
  refine Goes.rn 2 [] Jal ?_
  refine Op_.ldN 25 (.tmp 4) 16 25 ⟨b6, 0, none⟩ u7i Goes.v (by kernel_rfl) (by kernel_rfl) (by rw [u7l]; kernel_rfl) (At_all (p8.mem 2 rfl)) ?_
  refine bind_some' h fun y20 e21 h => ?_
  refine Goes.cal (kc 89 [16] #[25]) 17 25 89 _ (W.zt y17.1 y20 e21 u7i p8 (u7k.ext z8) u7l) ?_
  rintro _ w9 ⟨S9, u7n, rfl, z9, p9, u7o, u7p⟩
  have p9 := p9.dp 3
  refine Op_.stA 25 (.tmp 4) (.tmp 17) 0 2 b6 4 u7n p9 rfl u7l Goes.s (by kernel_rfl) (by kernel_rfl) (by kernel_rfl) u7p (Els.one u7o) ?_
  intro w10 z10 p10
  refine Goes.rn 3 [] Jan ?_
  refine Op_.ldN 25 (.tmp 4) 18 25 ⟨b6, 0, none⟩ u7n Goes.v (by kernel_rfl) (by kernel_rfl) (by rw [u7p]; kernel_rfl) (At_all (p10.mem 2 rfl)) ?_
  have l22 := Els.len1 (u7o.ext z10) u7p rfl
  obtain rfl := els_lit4 (u7o.ext z10) u7p
  refine Goes.rn 1 [(19, (ag (.i 1 :: U4 y20 [.slice none 0 0, .i 0, .i 0])))] Jao ?_
  refine Op_.st 28 (.tmp 2) (.tmp 19) 0 0 b2 0 (ag (.i 1 :: U4 y20 [.slice none 0 0, .i 0, .i 0])) (.i 1 :: U4 y20 [.slice none 0 0, .i 0, .i 0]) p10 rfl Goes.s (by kernel_rfl) (by kernel_rfl) (by kernel_rfl) (by kernel_rfl) (Nat.zero_le _) (by simp only [List.length_cons, List.length_nil]; omega) (by simp [Value.oneCell']) ?_
  intro w11 z11 p11
  have p11 : Hp nz wz S9 w11 ((some b2, .row 28 (.i 1 :: U4 y20 [.slice none 0 0, .i 0, .i 0]) 8 0) :: (none, .row 28 [] (0 * kT27.size) 0) :: (some b6, .row 25 ((U4 y20 []) : List Value) 4 0) :: (some gx0, .row 69 [.string y17.2.s, .i y17.2.at_, .i y17.2.deep, u7j] 4 0) :: (some r12, .obj (.deferred (some []))) :: Lr) := p11
  refine Goes.rn 1 [] Jam ?_
  obtain rfl := Option.some.inj h
  have p11 := (p11.dp 1).dp 1
  have p11 := ((p11.fr 1).fr 1).fr 2
  refine Goes.retL ?_
  refine lvs_mark 0 rfl rfl p11 rfl ?_
  intro w12 z12 p12
  replace p12 : Hp nz wz S9 w12 ((some b2, .row 28 (.i 1 :: U4 y20 [.slice none 0 0, .i 0, .i 0]) 8 0) :: (some gx0, .row 69 [.string y17.2.s, .i y17.2.at_, .i y17.2.deep, u7j] 4 0) :: Lr) := p12.drop
  exact lvs_done (fn := Tryd.f91) rfl rfl rfl rfl (by kernel_rfl) (v := (ag (.i 1 :: U4 y20 [.slice none 0 0, .i 0, .i 0]))) (results_n1 (fn := Tryd.f91) (a := .cell 2 28) (by kernel_rfl) (resV_cell ⟨b2, 0, none⟩ (by kernel_rfl) (run_loadN (.i 1 :: U4 y20 [.slice none 0 0, .i 0, .i 0]) (by kernel_rfl) (by kernel_rfl) (p12.pa 0 0)))) ⟨S9, none, 0, 0, u7j, rfl, ((((((((((((Ext.refl S0 w0).trans z2).trans z3).trans z4).trans z5).trans z6).trans z7).trans z8).trans z9).trans z10).trans z11).trans z12), p12.drop, l22, Rd.none_, rfl, (u7m.ext ((((z8.trans z9).trans z10).trans z11).trans z12))⟩
 ·
  have u7q : y4.1 = false := by simpa using h19
  rw [u7q]
  refine Goes.rn 4 [] Jan ?_
  refine Op_.ldN 25 (.tmp 4) 18 25 ⟨b6, 0, none⟩ u7i Goes.v (by kernel_rfl) (by kernel_rfl) (by rw [u7l]; kernel_rfl) (At_all (p8.mem 2 rfl)) ?_
  have l23 := Els.len1 (u7k.ext z8) u7l rfl
  obtain rfl := els_lit4 (u7k.ext z8) u7l
  refine Goes.rn 1 [(19, (ag (.i 1 :: U4 y17.1 [.slice none 0 0, .i 0, .i 0])))] Jao ?_
  refine Op_.st 28 (.tmp 2) (.tmp 19) 0 0 b2 0 (ag (.i 1 :: U4 y17.1 [.slice none 0 0, .i 0, .i 0])) (.i 1 :: U4 y17.1 [.slice none 0 0, .i 0, .i 0]) p8 rfl Goes.s (by kernel_rfl) (by kernel_rfl) (by kernel_rfl) (by kernel_rfl) (Nat.zero_le _) (by simp only [List.length_cons, List.length_nil]; omega) (by simp [Value.oneCell']) ?_
  intro w13 z13 p13
  have p13 : Hp nz wz S7 w13 ((some b2, .row 28 (.i 1 :: U4 y17.1 [.slice none 0 0, .i 0, .i 0]) 8 0) :: (none, .row 28 [] (0 * kT27.size) 0) :: (some b6, .row 25 ((U4 y17.1 []) : List Value) 4 0) :: (some u7g, .row 66 [(pt gx0 0)] 1 0) :: (some gx0, .row 69 [.string y17.2.s, .i y17.2.at_, .i y17.2.deep, u7j] 4 0) :: (some r12, .obj (.deferred (some []))) :: Lr) := p13
  refine Goes.rn 1 [] Jam ?_
  obtain rfl := Option.some.inj h
  have p13 := ((p13.dp 1).dp 1).dp 1
  have p13 := ((p13.fr 1).fr 1).fr 2
  refine Goes.retL ?_
  refine lvs_mark 0 rfl rfl p13 rfl ?_
  intro w14 z14 p14
  replace p14 : Hp nz wz S7 w14 ((some b2, .row 28 (.i 1 :: U4 y17.1 [.slice none 0 0, .i 0, .i 0]) 8 0) :: (some gx0, .row 69 [.string y17.2.s, .i y17.2.at_, .i y17.2.deep, u7j] 4 0) :: Lr) := p14.drop
  exact lvs_done (fn := Tryd.f91) rfl rfl rfl rfl (by kernel_rfl) (v := (ag (.i 1 :: U4 y17.1 [.slice none 0 0, .i 0, .i 0]))) (results_n1 (fn := Tryd.f91) (a := .cell 2 28) (by kernel_rfl) (resV_cell ⟨b2, 0, none⟩ (by kernel_rfl) (run_loadN (.i 1 :: U4 y17.1 [.slice none 0 0, .i 0, .i 0]) (by kernel_rfl) (by kernel_rfl) (p14.pa 0 0)))) ⟨S7, none, 0, 0, u7j, rfl, ((((((((((Ext.refl S0 w0).trans z2).trans z3).trans z4).trans z5).trans z6).trans z7).trans z8).trans z13).trans z14), p14.drop, l23, Rd.none_, rfl, (u7m.ext ((z8.trans z13).trans z14))⟩

def Q8r := sub [1] B95
def Jap : List Item := [.code Q8r]
def Q8s := sub [0] B95
def Jaq : List Item := .inRegion (opsOf Q8s) [2, 3] :: Jap
def Q8t := sub [1, 0] B95
def Jar : List Item := [.inRegion (opsOf Q8t) [4, 5]]

def Post.z1j (gx0 : Nat) (r : T68) (v : Value) (w' : World) : Prop :=
 ∃ S' u20, v = .tuple #[] ∧ Ext S0 w0 S' w' ∧ Hp nz wz S' w' ((some gx0, .row 69 [.string r.s, .i r.at_, .i r.deep, u20] 4 0) :: Lr) ∧ PtO kT72 S' w' u20 r.bad

theorem W.z1j (x0v : T68) (x1 : Int) (r : T68) (h : M.syntax_parser_need x0v x1 = some r) {nz wz S0 w0 Lr} [Gw nz wz] (gx0 u22) (p0 : Hp nz wz S0 w0 ((some gx0, .row 69 [.string x0v.s, .i x0v.at_, .i x0v.deep, u22] 4 0) :: Lr)) (u23 : PtO kT72 S0 w0 u22 x0v.bad) :
  Calls Tryd.prog 95 #[(pt gx0 0), .int .u8 x1] w0 (Rets (Post.z1j nz wz S0 w0 Lr gx0 r)) := by
 refine calls_of_goes (fn := Tryd.f95) (c := B95) (by kernel_rfl) (by kernel_rfl) 12 (by kernel_rfl) ?_
 refine Goes.jp 14 [(0, (pt gx0 0)), (1, .int .u8 x1)] (fun junk => ?_)
 delta M.syntax_parser_need at h
 refine Goes.rn 4 [(4, (pt gx0 0)), (5, .int .u8 x1)] Jaq ?_
 refine bind_some' h fun y2 e3 h => ?_
 refine Goes.cal (kc 48 [4, 5] #[66, 5]) 6 4 48 _ (W.zq x0v x1 y2 e3 gx0 u22 p0 u23) ?_
 rintro _ w2 ⟨S2, u27, rfl, z2, p2, u28⟩
 refine Goes.rn 2 [(7, .bool (!y2.1))] Jap ?_
 refine ite_some h (fun h4 h => ?_) (fun h4 h => ?_)
 ·
  rw [h4]
  refine Goes.rn 2 [] [] ?_
  obtain rfl := Option.some.inj h
  exact Goes.end_ (fn := Tryd.f95) (by kernel_rfl) (v := .tuple #[]) (by kernel_rfl) ⟨S2, u27, rfl, ((Ext.refl S0 w0).trans z2), p2, u28⟩
 ·
  have h4' : y2.1 = false := by simpa using h4
  rw [h4']
  refine Goes.rn 6 [(8, (pt gx0 0)), (9, (pt gx0 0)), (10, (pt gx0 0)), (11, (pt gx0 1))] Jar ?_
  refine Goes.ld 3 (.tmp 11) 12 3 ⟨gx0, 1, none⟩ (.i y2.2.at_) (p2.c 0 1) ?_
  refine bind_some' h fun y5 e6 h => ?_
  refine Goes.cal (kc 31 [8, 12] #[66, 3]) 13 28 31 _ (W.zp y2.2 y2.2.at_ y5 e6 gx0 u27 p2 u28) ?_
  rintro _ w3 ⟨S3, u7r, u7s, u7t, u4l, rfl, z3, p3, u7u, u7v, rfl, u4m⟩
  refine Goes.rn 1 [] [] ?_
  obtain rfl := Option.some.inj h
  exact Goes.end_ (fn := Tryd.f95) (by kernel_rfl) (v := .tuple #[]) (by kernel_rfl) ⟨S3, u4l, rfl, (((Ext.refl S0 w0).trans z2).trans z3), p3, u4m⟩

def Q8u := sub [1, 1] B106
def Jas : List Item := [.code Q8u]
def Q8v := sub [1, 0] B106
def Jat : List Item := .inRegion (opsOf Q8v) [0, 1, 2, 3, 4, 5, 6, 7, 8] :: Jas
def Jau : List Item := .inRegion (opsOf Q8v) [4, 5, 6, 7, 8] :: Jas

def Post.z1k (gx0 : Nat) (u7w : Nat) (r : Bool × T68) (v : Value) (w' : World) : Prop :=
 ∃ S' u7x, v = .bool r.1 ∧ Ext S0 w0 S' w' ∧ Hp nz wz S' w' ((some gx0, .row 66 [(pt u7w 0)] 1 0) :: (some u7w, .row 69 [.string r.2.s, .i r.2.at_, .i r.2.deep, u7x] 4 0) :: Lr) ∧ PtO kT72 S' w' u7x r.2.bad

theorem W.z1k (u7y : T68) (r : Bool × T68) (h : M.syntax_parser_number_1 u7y = some r) {nz wz S0 w0 Lr} [Gw nz wz] (gx0 u7w u7z) (p0 : Hp nz wz S0 w0 ((some gx0, .row 66 [(pt u7w 0)] 1 0) :: (some u7w, .row 69 [.string u7y.s, .i u7y.at_, .i u7y.deep, u7z] 4 0) :: Lr)) (u80 : PtO kT72 S0 w0 u7z u7y.bad) :
  Calls Tryd.prog 106 #[(pt gx0 0)] w0 (Rets (Post.z1k nz wz S0 w0 Lr gx0 u7w r)) := by
 refine calls_of_goes (fn := Tryd.f106) (c := B106) (by kernel_rfl) (by kernel_rfl) 9 (by kernel_rfl) ?_
 refine Goes.jp 10 [(0, (pt gx0 0))] (fun junk => ?_)
 delta M.syntax_parser_number_1 at h
 refine Goes.rn 6 [(1, .bool false)] Jat ?_
 refine Goes.ld 66 (.tmp 0) 2 66 ⟨gx0, 0, none⟩ ((pt u7w 0)) (p0.c 0 0) ?_
 have p0 := p0.fr 1
 refine bind_some' h fun y3 e4 h => ?_
 refine Goes.cal (kc 65 [2] #[66]) 3 5 65 _ (W.zn u7y y3 e4 u7w u7z p0 u80) ?_
 rintro _ w2 ⟨S2, u27, rfl, z2, p2, u28⟩
 refine Goes.rn 2 [(4, .bool (decide (y3.1 ≥ 48))), (5, .bool (decide (y3.1 ≥ 48)))] Jau ?_
 refine ite_some h (fun h5 h => ?_) (fun h5 h => ?_)
 ·
  rw [decide_eq_true h5]
  refine Goes.ld 66 (.tmp 0) 6 66 ⟨gx0, 0, none⟩ ((pt u7w 0)) (p2.c 1 0) ?_
  refine bind_some' h fun y6 e7 h => ?_
  refine Goes.cal (kc 65 [6] #[66]) 7 5 65 _ (W.zn y3.2 y6 e7 u7w u27 p2 u28) ?_
  rintro _ w3 ⟨S3, u4l, rfl, z3, p3, u4m⟩
  refine Goes.rn 4 [(8, .bool (decide (y6.1 ≤ 57))), (9, .bool (decide (y6.1 ≤ 57))), (1, .bool (decide (y6.1 ≤ 57)))] Jas ?_
  obtain rfl := Option.some.inj h
  have p3 := (p3.fr 0).fr 1
  exact Goes.rt Tryd.f106 (.bool (decide (y6.1 ≤ 57))) ⟨S3, u4l, rfl, (((Ext.refl S0 w0).trans z2).trans z3), p3, u4m⟩
 ·
  rw [decide_eq_false h5]
  refine Goes.rn 6 [(6, undef), (7, undef), (8, undef), (9, .bool false), (1, .bool false)] Jas ?_
  obtain rfl := Option.some.inj h
  have p2 := (p2.fr 0).fr 1
  exact Goes.rt Tryd.f106 (.bool false) ⟨S2, u27, rfl, ((Ext.refl S0 w0).trans z2), p2, u28⟩

def Q8w := sub [1, 1, 1, 1, 1, 1] B94
def Jav : List Item := [.code Q8w]
def Q8x := sub [1, 1, 1, 1, 1, 0, 1] B94
def Jaw : List Item := .code Q8x :: Jav
def Q8y := sub [1, 1, 1, 1, 1, 0, 1, 0, 1] B94
def Jax : List Item := .code Q8y :: Jav
def Q8z := sub [1, 1, 1, 1, 1, 0, 1, 0, 0] B94
def Jay : List Item := .inRegion (opsOf Q8z) [2, 3, 4, 5, 6, 7] :: Jax
def Jaz : List Item := .inRegion (opsOf Q8y) [0, 1, 2, 3, 4, 5, 6, 7] :: Jav
def Jb0 : List Item := .inRegion (opsOf Q8y) [3, 4, 5, 6, 7] :: Jav
def Jb1 : List Item := .inRegion (opsOf Q8y) [7] :: Jav
def Q90 := sub [1, 1, 1, 1, 1, 1, 1] B94
def Jb2 : List Item := [.code Q90]

def Post.z1l (gx0 : Nat) (r : Int × T68) (v : Value) (w' : World) : Prop :=
 ∃ S' u20, v = .i r.1 ∧ Ext S0 w0 S' w' ∧ Hp nz wz S' w' ((some gx0, .row 69 [.string r.2.s, .i r.2.at_, .i r.2.deep, u20] 4 0) :: Lr) ∧ PtO kT72 S' w' u20 r.2.bad

def L.z1m (gx0 : Nat) : Int × Bool × T68 → (Int × T68) → Prop := fun ⟨x4, x25, e0v⟩ r => ∀ S1 w1, Ext S0 w0 S1 w1 → ∀ gx1 u20 (_ : Hp nz wz S1 w1 ((some gx1, .row 66 [(pt gx0 0)] 1 0) :: (some gx0, .row 69 [.string e0v.s, .i e0v.at_, .i e0v.deep, u20] 4 0) :: Lr)) (_ : PtO kT72 S1 w1 u20 e0v.bad) (junk : Nat → Value),
 Goes Tryd.prog (base 94) Jaw ⟨lfr 41 [(1, (pt gx1 0)), (4, .i x4), (25, .bool x25)] junk, []⟩ w1 (Done Tryd.prog 94 (Rets (Post.z1l nz wz S0 w0 Lr gx0 r)))

theorem W.z1m {nz wz S0 w0 Lr} [Gw nz wz] (gx0 : Nat) : ∀ a r, M.syntax_parser_number_l0 a = some r → L.z1m nz wz S0 w0 Lr gx0 a r := by
 intro ⟨x4, x25, e0v⟩ r h S1 w1 hx gx1 u20 p1 u21 junk
 rw [M.syntax_parser_number_l0] at h
 try dsimp only at h
 refine ite_some h (fun h13 h => ?_) (fun h13 h => ?_)
 ·
  rw [h13]
  refine Goes.rn 5 [(26, .i x4), (27, .i (wr .i64 (10 * x4)))] Jay ?_
  refine Goes.ld 66 (.tmp 1) 28 66 ⟨gx1, 0, none⟩ ((pt gx0 0)) (p1.c 0 0) ?_
  have p1 := p1.fr 1
  refine bind_some' h fun y14 e15 h => ?_
  refine Goes.cal (kc 65 [28] #[66]) 29 5 65 _ (W.zn e0v y14 e15 gx0 u20 p1 u21) ?_
  rintro _ w7 ⟨S7, u81, rfl, z7, p7, u82⟩
  refine Goes.rn 6 [(30, .int .u8 (wr .u8 (y14.1 - 48))), (31, .i (wr .i64 (wr .u8 (y14.1 - 48)))), (32, .i (wr .i64 ((wr .i64 (10 * x4)) + (wr .i64 (wr .u8 (y14.1 - 48)))))), (4, .i (wr .i64 ((wr .i64 (10 * x4)) + (wr .i64 (wr .u8 (y14.1 - 48))))))] Jaz ?_
  refine Goes.ld 66 (.tmp 1) 33 66 ⟨gx1, 0, none⟩ ((pt gx0 0)) (p7.c 1 0) ?_
  refine Goes.rn 2 [(34, (pt gx0 0)), (35, (pt gx0 1))] Jb0 ?_
  refine Goes.ld 3 (.tmp 35) 36 3 ⟨gx0, 1, none⟩ (.i y14.2.at_) (p7.c 0 1) ?_
  refine Goes.rn 3 [(37, .i (wr .i64 (y14.2.at_ + 1))), (38, (pt gx0 0)), (39, (pt gx0 1))] Jb1 ?_
  refine Op_.st 3 (.tmp 39) (.tmp 37) 0 0 gx0 1 (.i (wr .i64 (y14.2.at_ + 1))) [.i (wr .i64 (y14.2.at_ + 1))] p7 rfl Goes.s (by kernel_rfl) (by kernel_rfl) (by kernel_rfl) (by kernel_rfl) (Nat.zero_le _) (by simp only [List.length_cons, List.length_nil]; omega) (by simp [Value.oneCell']) ?_
  intro w8 z8 p8
  have p8 : Hp nz wz S7 w8 ((some gx0, .row 69 [.string y14.2.s, .i (wr .i64 (y14.2.at_ + 1)), .i y14.2.deep, u81] 4 0) :: (some gx1, .row 66 [(pt gx0 0)] 1 0) :: Lr) := p8
  refine Goes.rn 6 [(40, .i (wr .i64 ((wr .i64 (10 * x4)) + (wr .i64 (wr .u8 (y14.1 - 48)))))), (2, .i (wr .i64 ((wr .i64 (10 * x4)) + (wr .i64 (wr .u8 (y14.1 - 48))))))] Jb2 ?_
  obtain rfl := Option.some.inj h
  have p8 := p8.dp 1
  exact Goes.rt Tryd.f94 (.i (wr .i64 ((wr .i64 (10 * x4)) + (wr .i64 (wr .u8 (y14.1 - 48)))))) ⟨S7, u81, rfl, ((hx.trans z7).trans z8), p8, (u82.ext z8)⟩
 ·
  have u83 : x25 = false := by simpa using h13
  rw [u83]
  refine Goes.rn 7 [(40, .i x4), (2, .i x4)] Jb2 ?_
  obtain rfl := Option.some.inj h
  have p1 := p1.dp 0
  exact Goes.rt Tryd.f94 (.i x4) ⟨S1, u20, rfl, hx, p1, u21⟩

def Q91 := sub [1] B94
def Jb3 : List Item := [.code Q91]
def Q92 := sub [0] B94
def Jb4 : List Item := .inRegion (opsOf Q92) [0, 1] :: Jb3
def Q93 := sub [1, 1, 1] B94
def Jb5 : List Item := [.code Q93]
def Q94 := sub [1, 1, 0, 1] B94
def Jb6 : List Item := .code Q94 :: Jb5
def Q95 := sub [1, 1, 0, 0] B94
def Jb7 : List Item := .inRegion (opsOf Q95) [1, 2] :: Jb6
def Q96 := sub [1, 1, 1, 1] B94
def Jb8 : List Item := [.code Q96]
def Q97 := sub [1, 1, 1, 0] B94
def Jb9 : List Item := .inRegion (opsOf Q97) [0, 1, 2, 3, 4] :: Jb8
def Q98 := sub [1, 1, 1, 1, 1] B94
def Jba : List Item := [.code Q98]
def Q99 := sub [1, 1, 1, 1, 0] B94
def Jbb : List Item := .inRegion (opsOf Q99) [0, 1, 2, 3, 4, 5, 6, 7] :: Jba
def Jbc : List Item := .inRegion (opsOf Q99) [3, 4, 5, 6, 7] :: Jba
def Jbd : List Item := .inRegion (opsOf Q99) [7] :: Jba
def Q9a := sub [1, 1, 1, 1, 1, 0, 0] B94
def Jbe : List Item := .inRegion (opsOf Q9a) [3, 4, 5] :: Jaw
def Jbf : List Item := .inRegion (opsOf Q9a) [4, 5] :: Jaw
def Q9b := sub [1, 1, 0, 1, 0, 1] B94
def Jbg : List Item := .code Q9b :: Jb5

theorem W.z1l (x0v : T68) (r : Int × T68) (h : M.syntax_parser_number x0v = some r) {nz wz S0 w0 Lr} [Gw nz wz] (gx0 u22) (p0 : Hp nz wz S0 w0 ((some gx0, .row 69 [.string x0v.s, .i x0v.at_, .i x0v.deep, u22] 4 0) :: Lr)) (u23 : PtO kT72 S0 w0 u22 x0v.bad) :
  Calls Tryd.prog 94 #[(pt gx0 0)] w0 (Rets (Post.z1l nz wz S0 w0 Lr gx0 r)) := by
 refine calls_of_goes (fn := Tryd.f94) (c := B94) (by kernel_rfl) (by kernel_rfl) 40 (by kernel_rfl) ?_
 refine Goes.jp 41 [(0, (pt gx0 0))] (fun junk => ?_)
 delta M.syntax_parser_number at h
 refine Goes.rn 2 [] Jb4 ?_
 refine Op_.box 66 (.tmp 0) 1 0 ((pt gx0 0)) [(pt gx0 0)] p0 Goes.v (by kernel_rfl) (by kernel_rfl) ?_
 intro b2 w2 z2 p2
 refine Goes.rn 11 [(2, .i 0), (5, .func (.func 106) #[] #[(pt b2 0)]), (3, .func (.func 106) #[] #[(pt b2 0)]), (6, .func (.func 106) #[] #[(pt b2 0)])] Jb7 ?_
 refine bind_some' h fun y4 e5 h => ?_
 refine Goes.cal (.call { callee := .value (.tmp 6), args := #[], argTypes := #[] }) 7 4 106 _ (W.z1k x0v y4 e5 b2 gx0 u22 p2 (u23.ext z2)) ?_
 rintro _ w3 ⟨S3, u84, rfl, z3, p3, u85⟩
 refine Goes.rn 2 [(8, .bool (!y4.1))] Jb6 ?_
 refine ite_some h (fun h6 h => ?_) (fun h6 h => ?_)
 ·
  rw [h6]
  refine Goes.rn 4 [] Jb9 ?_
  refine Goes.ld 66 (.tmp 1) 9 66 ⟨b2, 0, none⟩ ((pt gx0 0)) (p3.c 0 0) ?_
  have p3 := p3.fr 1
  refine bind_some' h fun y7 e8 h => ?_
  refine Goes.cal (kc 65 [9] #[66]) 10 5 65 _ (W.zn y4.2 y7 e8 gx0 u84 p3 u85) ?_
  rintro _ w4 ⟨S4, u45, rfl, z4, p4, u48⟩
  refine Goes.rn 6 [(11, .int .u8 (wr .u8 (y7.1 - 48))), (12, .i (wr .i64 (wr .u8 (y7.1 - 48)))), (4, .i (wr .i64 (wr .u8 (y7.1 - 48))))] Jbb ?_
  refine Goes.ld 66 (.tmp 1) 13 66 ⟨b2, 0, none⟩ ((pt gx0 0)) (p4.c 1 0) ?_
  refine Goes.rn 2 [(14, (pt gx0 0)), (15, (pt gx0 1))] Jbc ?_
  refine Goes.ld 3 (.tmp 15) 16 3 ⟨gx0, 1, none⟩ (.i y7.2.at_) (p4.c 0 1) ?_
  refine Goes.rn 3 [(17, .i (wr .i64 (y7.2.at_ + 1))), (18, (pt gx0 0)), (19, (pt gx0 1))] Jbd ?_
  refine Op_.st 3 (.tmp 19) (.tmp 17) 0 0 gx0 1 (.i (wr .i64 (y7.2.at_ + 1))) [.i (wr .i64 (y7.2.at_ + 1))] p4 rfl Goes.s (by kernel_rfl) (by kernel_rfl) (by kernel_rfl) (by kernel_rfl) (Nat.zero_le _) (by simp only [List.length_cons, List.length_nil]; omega) (by simp [Value.oneCell']) ?_
  intro w5 z5 p5
  have p5 : Hp nz wz S4 w5 ((some gx0, .row 69 [.string y7.2.s, .i (wr .i64 (y7.2.at_ + 1)), .i y7.2.deep, u45] 4 0) :: (some b2, .row 66 [(pt gx0 0)] 1 0) :: Lr) := p5
  refine Goes.rn 7 [(20, .i (wr .i64 (wr .u8 (y7.1 - 48)))), (21, .bool (decide (wr .i64 (wr .u8 (y7.1 - 48)) > 0))), (22, .bool (decide (wr .i64 (wr .u8 (y7.1 - 48)) > 0)))] Jbe ?_
  refine ite_some h (fun h9 h => ?_) (fun h9 h => ?_)
  ·
   rw [decide_eq_true h9]
   refine Goes.rn 1 [(23, .func (.func 106) #[] #[(pt b2 0)])] Jbf ?_
   have p5 := (p5.fr 0).fr 1
   refine bind_some' h fun y10 e11 h => ?_
   refine Goes.cal (.call { callee := .value (.tmp 23), args := #[], argTypes := #[] }) 24 4 106 _ (W.z1k (⟨y7.2.s, wr .i64 (y7.2.at_ + 1), y7.2.deep, y7.2.bad⟩ : T68) y10 e11 b2 gx0 u45 p5 (u48.ext z5)) ?_
   rintro _ w6 ⟨S6, u86, rfl, z6, p6, u87⟩
   refine Goes.rn 2 [(25, .bool y10.1)] Jaw ?_
   exact Goes.jp 41 [(1, (pt b2 0)), (4, .i (wr .i64 (wr .u8 (y7.1 - 48)))), (25, .bool y10.1)] (W.z1m gx0 _ _ h _ _ ((((((Ext.refl S0 w0).trans z2).trans z3).trans z4).trans z5).trans z6) b2 u86 p6 u87)
  ·
   rw [decide_eq_false h9]
   refine Goes.rn 4 [(23, undef), (24, undef), (25, .bool false)] Jaw ?_
   have p5 := (p5.fr 0).fr 1
   exact Goes.jp 41 [(1, (pt b2 0)), (4, .i (wr .i64 (wr .u8 (y7.1 - 48)))), (25, .bool false)] (W.z1m gx0 _ _ h _ _ (((((Ext.refl S0 w0).trans z2).trans z3).trans z4).trans z5) b2 u45 p5 (u48.ext z5))
 ·
  have h6' : y4.1 = false := by simpa using h6
  rw [h6']
  refine Goes.rn 5 [(2, .i (-1))] Jbg ?_
  obtain rfl := Option.some.inj h
  have p3 := p3.dp 0
  exact Goes.rt Tryd.f94 (.i (-1)) ⟨S3, u84, rfl, (((Ext.refl S0 w0).trans z2).trans z3), p3, u85⟩

def Q9c := sub [1, 1, 1, 1, 1] B79
def Jbh : List Item := [.code Q9c]
def Q9d := sub [1, 1, 1, 1, 1, 1] B79
def Jbi : List Item := [.code Q9d]
def Q9e := sub [1, 1, 1, 1, 1, 0] B79
def Jbj : List Item := .inRegion (opsOf Q9e) [1] :: Jbi
def Q9f := sub [1, 1, 1, 1, 1, 1, 1] B79
def Jbk : List Item := [.code Q9f]
def Q9g := sub [1, 1, 1, 1, 1, 1, 0, 1] B79
def Jbl : List Item := .code Q9g :: Jbk
def Q9h := sub [1, 1, 1, 1, 1, 1, 0, 0] B79
def Jbm : List Item := .inRegion (opsOf Q9h) [3, 4, 5, 6, 7, 8, 9, 10, 11, 12, 13, 14] :: Jbl
def Q9i := sub [1, 1, 1, 1, 1, 1, 0, 1, 0] B79
def Jbn : List Item := .code Q9i :: Jbk
def Jbo : List Item := .inRegion (opsOf Q9i) [2] :: Jbk
def Q9j := sub [1, 1, 1, 1, 1, 1, 1, 1] B79
def Jbp : List Item := [.code Q9j]
def Jbq : List Item := .inRegion (opsOf Q9h) [7, 8, 9, 10, 11, 12, 13, 14] :: Jbl
def Jbr : List Item := .inRegion (opsOf Q9h) [10, 11, 12, 13, 14] :: Jbl
def Q9k := sub [1, 1, 1, 1, 1, 1, 1, 0] B79
def Jbs : List Item := .inRegion (opsOf Q9k) [] :: Jbp

def Post.z1n (gx0 : Nat) (r : Int × Int × T68) (v : Value) (w' : World) : Prop :=
 ∃ S' u20, v = .tuple #[.i r.1, .i r.2.1] ∧ Ext S0 w0 S' w' ∧ Hp nz wz S' w' ((some gx0, .row 69 [.string r.2.2.s, .i r.2.2.at_, .i r.2.2.deep, u20] 4 0) :: Lr) ∧ PtO kT72 S' w' u20 r.2.2.bad

def L.z1o (gx0 : Nat) : Int × Int × Int × T68 → (Int × Int × T68) → Prop := fun ⟨x1, x6, x7, e0v⟩ r => ∀ S1 w1, Ext S0 w0 S1 w1 → ∀ u20 (_ : Hp nz wz S1 w1 ((some gx0, .row 69 [.string e0v.s, .i e0v.at_, .i e0v.deep, u20] 4 0) :: Lr)) (_ : PtO kT72 S1 w1 u20 e0v.bad) (junk : Nat → Value),
 Goes Tryd.prog (base 79) Jbh ⟨lfr 45 [(0, (pt gx0 0)), (1, .i x1), (6, .i x6), (7, .i x7)] junk, []⟩ w1 (Done Tryd.prog 79 (Rets (Post.z1n nz wz S0 w0 Lr gx0 r)))

theorem W.z1o {nz wz S0 w0 Lr} [Gw nz wz] (gx0 : Nat) : ∀ a r, M.syntax_parser_counted_l1 a = some r → L.z1o nz wz S0 w0 Lr gx0 a r := by
 intro ⟨x1, x6, x7, e0v⟩ r h S1 w1 hx u20 p1 u21 junk
 rw [M.syntax_parser_counted_l1] at h
 try dsimp only at h
 refine Goes.rn 3 [(23, (pt gx0 0))] Jbj ?_
 refine bind_some' h fun y12 e13 h => ?_
 refine Goes.cal (.call { callee := .value (.func 95), args := #[(.tmp 23), (.const (.int .u8 125))], argTypes := #[66, 5] }) 24 0 95 _ (W.z1j e0v 125 y12 e13 gx0 u20 p1 u21) ?_
 rintro _ w6 ⟨S6, u5u, rfl, z6, p6, u5v⟩
 refine Goes.rn 7 [(25, .i x6), (26, .bool (decide (x6 > 64))), (27, .bool (decide (x6 > 64)))] Jbm ?_
 refine ite_some h (fun h14 h => ?_) (fun h14 h => ?_)
 ·
  rw [decide_eq_true h14]
  refine Goes.rn 14 [(28, undef), (29, undef), (30, .bool true), (31, .bool true), (32, undef), (33, undef), (34, undef), (35, undef), (36, undef), (37, undef), (38, undef), (39, .bool true)] Jbn ?_
  refine Goes.rn 3 [(40, (pt gx0 0)), (41, .i x1)] Jbo ?_
  refine bind_some' h fun y15 e16 h => ?_
  refine Goes.cal (kc 31 [40, 41] #[66, 3]) 42 28 31 _ (W.zp y12 x1 y15 e16 gx0 u5u p6 u5v) ?_
  rintro _ w7 ⟨S7, u88, u89, u8a, u81, rfl, z7, p7, u8b, u8c, rfl, u82⟩
  refine Goes.rn 8 [(43, .i x6), (44, .i x7), (4, .i x6), (5, .i x7)] Jbp ?_
  obtain rfl := Option.some.inj h
  exact Goes.rt Tryd.f79 (.tuple #[.i x6, .i x7]) ⟨S7, u81, rfl, ((hx.trans z6).trans z7), p7, u82⟩
 ·
  rw [decide_eq_false h14]
  refine Goes.rn 4 [(28, .i x7), (29, .bool (decide (x7 > 64))), (30, .bool (decide (x7 > 64))), (31, .bool (decide (x7 > 64)))] Jbq ?_
  refine ite_some h (fun h17 h => ?_) (fun h17 h => ?_)
  ·
   rw [decide_eq_true h17]
   refine Goes.rn 13 [(32, undef), (33, undef), (34, undef), (35, undef), (36, undef), (37, undef), (38, undef), (39, .bool true), (40, (pt gx0 0)), (41, .i x1)] Jbo ?_
   refine bind_some' h fun y18 e19 h => ?_
   refine Goes.cal (kc 31 [40, 41] #[66, 3]) 42 28 31 _ (W.zp y12 x1 y18 e19 gx0 u5u p6 u5v) ?_
   rintro _ w8 ⟨S8, u4x, u4y, u4z, u50, rfl, z8, p8, u51, u52, rfl, u53⟩
   refine Goes.rn 8 [(43, .i x6), (44, .i x7), (4, .i x6), (5, .i x7)] Jbp ?_
   obtain rfl := Option.some.inj h
   exact Goes.rt Tryd.f79 (.tuple #[.i x6, .i x7]) ⟨S8, u50, rfl, ((hx.trans z6).trans z8), p8, u53⟩
  ·
   rw [decide_eq_false h17]
   refine Goes.rn 3 [(32, .i x7), (33, .bool (decide (x7 ≥ 0))), (34, .bool (decide (x7 ≥ 0)))] Jbr ?_
   refine ite_some h (fun h20 h => ?_) (fun h20 h => ?_)
   ·
    rw [decide_eq_true h20]
    refine Goes.rn 6 [(35, .i x6), (36, .i x7), (37, .bool (decide (x6 > x7))), (38, .bool (decide (x6 > x7))), (39, .bool (decide (x6 > x7)))] Jbl ?_
    refine ite_some h (fun h21 h => ?_) (fun h21 h => ?_)
    ·
     rw [decide_eq_true h21]
     refine Goes.rn 4 [(40, (pt gx0 0)), (41, .i x1)] Jbo ?_
     refine bind_some' h fun y22 e23 h => ?_
     refine Goes.cal (kc 31 [40, 41] #[66, 3]) 42 28 31 _ (W.zp y12 x1 y22 e23 gx0 u5u p6 u5v) ?_
     rintro _ w9 ⟨S9, u8d, u8e, u8f, u8g, rfl, z9, p9, u8h, u8i, rfl, u8j⟩
     refine Goes.rn 8 [(43, .i x6), (44, .i x7), (4, .i x6), (5, .i x7)] Jbp ?_
     obtain rfl := Option.some.inj h
     exact Goes.rt Tryd.f79 (.tuple #[.i x6, .i x7]) ⟨S9, u8g, rfl, ((hx.trans z6).trans z9), p9, u8j⟩
    ·
     rw [decide_eq_false h21]
     refine Goes.rn 9 [(43, .i x6), (44, .i x7), (4, .i x6), (5, .i x7)] Jbp ?_
     obtain rfl := Option.some.inj h
     exact Goes.rt Tryd.f79 (.tuple #[.i x6, .i x7]) ⟨S6, u5u, rfl, (hx.trans z6), p6, u5v⟩
   ·
    rw [decide_eq_false h20]
    refine Goes.rn 14 [(35, undef), (36, undef), (37, undef), (38, .bool false), (39, .bool false), (43, .i x6), (44, .i x7), (4, .i x6), (5, .i x7)] Jbs ?_
    refine Goes.rn 1 [] Jbp ?_
    obtain rfl := Option.some.inj h
    exact Goes.rt Tryd.f79 (.tuple #[.i x6, .i x7]) ⟨S6, u5u, rfl, (hx.trans z6), p6, u5v⟩

def Q9l := sub [1, 1, 1] B79
def Jbt : List Item := [.code Q9l]
def Q9m := sub [1, 1, 1, 1, 0, 1] B79
def Jbu : List Item := .code Q9m :: Jbh
def Q9n := sub [1, 1, 1, 1, 0, 0] B79
def Jbv : List Item := .inRegion (opsOf Q9n) [1] :: Jbu
def Q9o := sub [1, 1, 1, 1, 0, 1, 0] B79
def Jbw : List Item := .inRegion (opsOf Q9o) [1, 2] :: Jbh

def L.z1p (gx0 : Nat) : Int × Int × T68 → (Int × Int × T68) → Prop := fun ⟨x1, x6, e0v⟩ r => ∀ S1 w1, Ext S0 w0 S1 w1 → ∀ u20 (_ : Hp nz wz S1 w1 ((some gx0, .row 69 [.string e0v.s, .i e0v.at_, .i e0v.deep, u20] 4 0) :: Lr)) (_ : PtO kT72 S1 w1 u20 e0v.bad) (junk : Nat → Value),
 Goes Tryd.prog (base 79) Jbt ⟨lfr 45 [(0, (pt gx0 0)), (1, .i x1), (6, .i x6)] junk, []⟩ w1 (Done Tryd.prog 79 (Rets (Post.z1n nz wz S0 w0 Lr gx0 r)))

theorem W.z1p {nz wz S0 w0 Lr} [Gw nz wz] (gx0 : Nat) : ∀ a r, M.syntax_parser_counted_l0 a = some r → L.z1p nz wz S0 w0 Lr gx0 a r := by
 intro ⟨x1, x6, e0v⟩ r h S1 w1 hx u20 p1 u21 junk
 rw [M.syntax_parser_counted_l0] at h
 try dsimp only at h
 refine Goes.rn 9 [(18, .i x6), (7, .i x6), (19, (pt gx0 0))] Jbv ?_
 refine bind_some' h fun y7 e8 h => ?_
 refine Goes.cal (.call { callee := .value (.func 48), args := #[(.tmp 19), (.const (.int .u8 44))], argTypes := #[66, 5] }) 20 4 48 _ (W.zq e0v 44 y7 e8 gx0 u20 p1 u21) ?_
 rintro _ w4 ⟨S4, u45, rfl, z4, p4, u48⟩
 refine Goes.rn 1 [] Jbu ?_
 refine ite_some h (fun h9 h => ?_) (fun h9 h => ?_)
 ·
  rw [h9]
  refine Goes.rn 3 [(21, (pt gx0 0))] Jbw ?_
  refine bind_some' h fun y10 e11 h => ?_
  refine Goes.cal (kc 94 [21] #[66]) 22 3 94 _ (W.z1l y7.2 y10 e11 gx0 u45 p4 u48) ?_
  rintro _ w5 ⟨S5, u56, rfl, z5, p5, u58⟩
  refine Goes.rn 2 [(7, .i y10.1)] Jbh ?_
  exact Goes.jp 45 [(0, (pt gx0 0)), (1, .i x1), (6, .i x6), (7, .i y10.1)] (W.z1o gx0 _ _ h _ _ ((hx.trans z4).trans z5) u56 p5 u58)
 ·
  have h9' : y7.1 = false := by simpa using h9
  rw [h9']
  refine Goes.rn 2 [] Jbh ?_
  exact Goes.jp 45 [(0, (pt gx0 0)), (1, .i x1), (6, .i x6), (7, .i x6)] (W.z1o gx0 _ _ h _ _ (hx.trans z4) u45 p4 u48)

def Q9p := sub [1, 1] B79
def Jbx : List Item := [.code Q9p]
def Q9q := sub [1, 0] B79
def Jby : List Item := .inRegion (opsOf Q9q) [1, 2] :: Jbx
def Q9r := sub [1, 1, 0, 1] B79
def Jbz : List Item := .code Q9r :: Jbt
def Q9s := sub [1, 1, 0, 1, 0] B79
def Jc0 : List Item := .inRegion (opsOf Q9s) [4, 5] :: Jbt

theorem W.z1n (x0v : T68) (x1 : Int) (r : Int × Int × T68) (h : M.syntax_parser_counted x0v x1 = some r) {nz wz S0 w0 Lr} [Gw nz wz] (gx0 u22) (p0 : Hp nz wz S0 w0 ((some gx0, .row 69 [.string x0v.s, .i x0v.at_, .i x0v.deep, u22] 4 0) :: Lr)) (u23 : PtO kT72 S0 w0 u22 x0v.bad) :
  Calls Tryd.prog 79 #[(pt gx0 0), .i x1] w0 (Rets (Post.z1n nz wz S0 w0 Lr gx0 r)) := by
 refine calls_of_goes (fn := Tryd.f79) (c := B79) (by kernel_rfl) (by kernel_rfl) 43 (by kernel_rfl) ?_
 refine Goes.jp 45 [(0, (pt gx0 0)), (1, .i x1)] (fun junk => ?_)
 delta M.syntax_parser_counted at h
 refine Goes.rn 8 [(4, .i 0), (5, .i 0), (8, (pt gx0 0))] Jby ?_
 refine bind_some' h fun y2 e3 h => ?_
 refine Goes.cal (kc 94 [8] #[66]) 9 3 94 _ (W.z1l x0v y2 e3 gx0 u22 p0 u23) ?_
 rintro _ w2 ⟨S2, u27, rfl, z2, p2, u28⟩
 refine Goes.rn 8 [(6, .i y2.1), (10, .i y2.1), (11, .bool (decide (y2.1 < 0)))] Jbz ?_
 refine ite_some h (fun h4 h => ?_) (fun h4 h => ?_)
 ·
  rw [decide_eq_true h4]
  refine Goes.rn 6 [(12, (pt gx0 0)), (13, (pt gx0 0)), (14, (pt gx0 0)), (15, (pt gx0 1))] Jc0 ?_
  refine Goes.ld 3 (.tmp 15) 16 3 ⟨gx0, 1, none⟩ (.i y2.2.at_) (p2.c 0 1) ?_
  refine bind_some' h fun y5 e6 h => ?_
  refine Goes.cal (kc 31 [12, 16] #[66, 3]) 17 28 31 _ (W.zp y2.2 y2.2.at_ y5 e6 gx0 u27 p2 u28) ?_
  rintro _ w3 ⟨S3, u7r, u7s, u7t, u4l, rfl, z3, p3, u7u, u7v, rfl, u4m⟩
  refine Goes.rn 1 [] Jbt ?_
  exact Goes.jp 45 [(0, (pt gx0 0)), (1, .i x1), (6, .i y2.1)] (W.z1p gx0 _ _ h _ _ (((Ext.refl S0 w0).trans z2).trans z3) u4l p3 u4m)
 ·
  rw [decide_eq_false h4]
  refine Goes.rn 2 [] Jbt ?_
  exact Goes.jp 45 [(0, (pt gx0 0)), (1, .i x1), (6, .i y2.1)] (W.z1p gx0 _ _ h _ _ ((Ext.refl S0 w0).trans z2) u27 p2 u28)

def Q9t := sub [1] B49
def Jc1 : List Item := [.code Q9t]
def Q9u := sub [0] B49
def Jc2 : List Item := .inRegion (opsOf Q9u) [0] :: Jc1
def Q9v := sub [1, 1] B49
def Jc3 : List Item := [.code Q9v]
def Q9w := sub [1, 0, 1] B49
def Jc4 : List Item := .code Q9w :: Jc3
def Q9x := sub [1, 0, 1, 0, 1] B49
def Jc5 : List Item := .code Q9x :: Jc3
def Q9y := sub [1, 0, 1, 0, 0] B49
def Jc6 : List Item := .inRegion (opsOf Q9y) [1, 2, 3] :: Jc5
def Q9z := sub [1, 1, 1] B49
def Jc7 : List Item := [.code Q9z]
def Qa0 := sub [1, 1, 0] B49
def Jc8 : List Item := .inRegion (opsOf Qa0) [3] :: Jc7

def Post.z1q (r : T27) (v : Value) (w' : World) : Prop :=
 ∃ S' u24 u25 u26, v = (ag (.i r.Kind :: U4 r.Set [.slice u24 u25 u26, .i r.Min, .i r.Max])) ∧ Ext S0 w0 S' w' ∧ Hp nz wz S' w' (Lr) ∧ r.Set.length = 4 ∧ Rd kT27 S' w' u24 u26 r.L ∧ r.L.length = u25

theorem W.z1q (x0 : Int) (x1 : List T27) (r : T27) (h : M.syntax_several x0 x1 = some r) {nz wz S0 w0 Lr} [Gw nz wz] (Ax1 nx1 cx1) (p0 : Hp nz wz S0 w0 (Lr)) (fx1 : Rd kT27 S0 w0 Ax1 cx1 x1) (lx1 : x1.length = nx1) :
  Calls Tryd.prog 49 #[.i x0, .slice Ax1 nx1 cx1] w0 (Rets (Post.z1q nz wz S0 w0 Lr r)) := by
 subst lx1
 refine calls_of_goes (fn := Tryd.f49) (c := B49) (by kernel_rfl) (by kernel_rfl) 12 (by kernel_rfl) ?_
 refine Goes.jp 14 [(0, .i x0), (1, .slice Ax1 x1.length cx1)] (fun junk => ?_)
 delta M.syntax_several at h
 refine Goes.rn 2 [] Jc2 ?_
 refine Op_.alloc 28 4 0 (.agg #[.i 0, .u 0, .u 0, .u 0, .u 0, .slice none 0 0, .i 0, .i 0]) [.i 0, .u 0, .u 0, .u 0, .u 0, .slice none 0 0, .i 0, .i 0] p0 Goes.v (by kernel_rfl) (by kernel_rfl) ?_
 intro b1 w2 z2 p2
 refine Goes.rn 8 [(5, .slice Ax1 x1.length cx1), (6, .i (x1.length : Int)), (7, .bool (decide ((x1.length : Int) = 1)))] Jc4 ?_
 refine ite_some h (fun h3 h => ?_) (fun h3 h => ?_)
 ·
  rw [decide_eq_true h3]
  refine Goes.rn 4 [(8, .slice Ax1 x1.length cx1)] Jc6 ?_
  refine guard_some' h fun g4 h => ?_
  refine Op_.ixR_n 26 (.tmp 8) (.const (.int .i64 0)) 9 0 28 .i64 0 (gi x1 0) rfl rfl (fx1.ext z2) Goes.v (by kernel_rfl) (by kernel_rfl) (by kernel_rfl) (by kernel_rfl) (by decide : (0 : Int) ≤ 0) g4 ?_
  intro a5 _ f6 q7
  have q8 := q7
  obtain ⟨_, _, rfl, rfl, ⟨_, _, rfl, ⟨l9, f10⟩, ⟨_, _, rfl, ⟨A11, c12, rfl, f13⟩, ⟨_, _, rfl, rfl, rfl⟩⟩⟩⟩ := kT27_open q8
  obtain rfl := els_lit4' f10 l9
  refine Goes.ldN 28 (.tmp 9) 10 28 a5 ([.i ((gi x1 0).Kind)] ++ ((U4 ((gi x1 0).Set) []) ++ ([.slice A11 (((gi x1 0).L).length) c12] ++ ([.i ((gi x1 0).Min)] ++ [.i ((gi x1 0).Max)])))) (f6.cell) ?_
  refine Op_.st 28 (.tmp 4) (.tmp 10) 0 0 b1 0 (ag (.i ((gi x1 0).Kind) :: U4 ((gi x1 0).Set) [.slice A11 (((gi x1 0).L).length) c12, .i ((gi x1 0).Min), .i ((gi x1 0).Max)])) (.i ((gi x1 0).Kind) :: U4 ((gi x1 0).Set) [.slice A11 (((gi x1 0).L).length) c12, .i ((gi x1 0).Min), .i ((gi x1 0).Max)]) p2 rfl Goes.s (by kernel_rfl) (by kernel_rfl) (by kernel_rfl) (by kernel_rfl) (Nat.zero_le _) (by simp only [List.length_cons, List.length_nil]; omega) (by simp [Value.oneCell']) ?_
  intro w3 z3 p3
  have p3 : Hp nz wz S0 w3 ((some b1, .row 28 (.i ((gi x1 0).Kind) :: U4 ((gi x1 0).Set) [.slice A11 (((gi x1 0).L).length) c12, .i ((gi x1 0).Min), .i ((gi x1 0).Max)]) 8 0) :: Lr) := p3
  refine Goes.rn 1 [] Jc5 ?_
  obtain rfl := Option.some.inj h
  exact Goes.ret (fn := Tryd.f49) (by kernel_rfl) (v := (ag (.i ((gi x1 0).Kind) :: U4 ((gi x1 0).Set) [.slice A11 (((gi x1 0).L).length) c12, .i ((gi x1 0).Min), .i ((gi x1 0).Max)]))) (results_n1 (fn := Tryd.f49) (a := .cell 4 28) (by kernel_rfl) (resV_cell ⟨b1, 0, none⟩ (by kernel_rfl) (run_loadN (.i ((gi x1 0).Kind) :: U4 ((gi x1 0).Set) [.slice A11 (((gi x1 0).L).length) c12, .i ((gi x1 0).Min), .i ((gi x1 0).Max)]) (by kernel_rfl) (by kernel_rfl) (p3.pa 0 0)))) ⟨S0, A11, ((gi x1 0).L).length, c12, rfl, (((Ext.refl S0 w0).trans z2).trans z3), p3.drop, l9, (f13.ext z3), rfl⟩
 ·
  rw [decide_eq_false h3]
  refine Goes.rn 7 [(11, .i x0), (12, .slice Ax1 x1.length cx1), (13, .agg #[.i x0, .u 0, .u 0, .u 0, .u 0, .slice Ax1 x1.length cx1, .i 0, .i 0])] Jc8 ?_
  refine Op_.st 28 (.tmp 4) (.tmp 13) 0 0 b1 0 (.agg #[.i x0, .u 0, .u 0, .u 0, .u 0, .slice Ax1 x1.length cx1, .i 0, .i 0]) [.i x0, .u 0, .u 0, .u 0, .u 0, .slice Ax1 x1.length cx1, .i 0, .i 0] p2 rfl Goes.s (by kernel_rfl) (by kernel_rfl) (by kernel_rfl) (by kernel_rfl) (Nat.zero_le _) (by simp only [List.length_cons, List.length_nil]; omega) (by simp [Value.oneCell']) ?_
  intro w4 z4 p4
  have p4 : Hp nz wz S0 w4 ((some b1, .row 28 [.i x0, .u 0, .u 0, .u 0, .u 0, .slice Ax1 x1.length cx1, .i 0, .i 0] 8 0) :: Lr) := p4
  refine Goes.rn 1 [] Jc7 ?_
  obtain rfl := Option.some.inj h
  exact Goes.ret (fn := Tryd.f49) (by kernel_rfl) (v := .agg #[.i x0, .u 0, .u 0, .u 0, .u 0, .slice Ax1 x1.length cx1, .i 0, .i 0]) (results_n1 (fn := Tryd.f49) (a := .cell 4 28) (by kernel_rfl) (resV_cell ⟨b1, 0, none⟩ (by kernel_rfl) (run_loadN [.i x0, .u 0, .u 0, .u 0, .u 0, .slice Ax1 x1.length cx1, .i 0, .i 0] (by kernel_rfl) (by kernel_rfl) (p4.pa 0 0)))) ⟨S0, Ax1, x1.length, cx1, rfl, (((Ext.refl S0 w0).trans z2).trans z4), p4.drop, rfl, (fx1.ext (z2.trans z4)), rfl⟩

def Qa1 := sub [1, 1, 1] B47
def Jc9 : List Item := [.code Qa1]
def Jca : List Item := .inBlock 0 :: Jc9
def Qa2 := sub [1, 1, 0, 0, 0] B47
def Jcb : List Item := .inLoop Qa2 :: Jca
def Jcc : List Item := .code Qa2 :: Jcb
def Qa3 := sub [1, 1, 0, 0, 0, 1] B47
def Jcd : List Item := .code Qa3 :: Jcb
def Qa4 := sub [1, 1, 0, 0, 0, 0, 1] B47
def Jce : List Item := .code Qa4 :: Jcd
def Qa5 := sub [1, 1, 1] B78
def Jcf : List Item := [.code Qa5]
def Jcg : List Item := .inBlock 0 :: Jcf
def Qa6 := sub [1, 1, 0, 0, 1] B78
def Jch : List Item := .code Qa6 :: Jcg
def Qa7 := sub [1, 1, 0, 0, 1, 1, 1] B78
def Jci : List Item := .code Qa7 :: Jcg
def Qa8 := sub [1, 1] B92
def Jcj : List Item := [.code Qa8]
def Qa9 := sub [1, 1, 1] B30
def Jck : List Item := [.code Qa9]
def Jcl : List Item := .inBlock 0 :: Jck
def Qaa := sub [1, 1, 0, 0, 0] B30
def Jcm : List Item := .inLoop Qaa :: Jcl
def Jcn : List Item := .code Qaa :: Jcm
def Qab := sub [1] B30
def Jco : List Item := [.code Qab]
def Qac := sub [0] B30
def Jcp : List Item := .inRegion (opsOf Qac) [0] :: Jco
def Qad := sub [1, 1] B30
def Jcq : List Item := [.code Qad]
def Qae := sub [1, 0] B30
def Jcr : List Item := .inRegion (opsOf Qae) [1, 2, 3] :: Jcq
def Qaf := sub [1, 1, 0, 0, 0, 1] B30
def Jcs : List Item := .code Qaf :: Jcm
def Qag := sub [1, 1, 0, 0, 0, 0, 1] B30
def Jct : List Item := .code Qag :: Jcs
def Qah := sub [1, 1, 0, 0, 0, 0, 0] B30
def Jcu : List Item := .inRegion (opsOf Qah) [1] :: Jct
def Jcv : List Item := .inBlock 1 :: Jcm
def Qai := sub [1, 1, 0, 0, 0, 1, 0] B30
def Jcw : List Item := .inRegion (opsOf Qai) [2, 3, 4, 5] :: Jcv
def Qaj := sub [1, 1, 1, 1] B30
def Jcx : List Item := [.code Qaj]
def Qak := sub [1, 1, 1, 0] B30
def Jcy : List Item := .inRegion (opsOf Qak) [1, 2] :: Jcx
def Qal := sub [1] B47
def Jcz : List Item := [.code Qal]
def Qam := sub [0] B47
def Jd0 : List Item := .inRegion (opsOf Qam) [0] :: Jcz
def Qan := sub [1, 1, 0, 0, 0, 0, 0] B47
def Jd1 : List Item := .code Qan :: Jce
def Jd2 : List Item := .inBlock 1 :: Jcb
def Qao := sub [1, 1, 0, 0, 0, 1, 0] B47
def Jd3 : List Item := .inRegion (opsOf Qao) [2, 3, 4, 5] :: Jd2
def Qap := sub [1, 1, 1, 1] B47
def Jd4 : List Item := [.code Qap]
def Qaq := sub [1, 1, 1, 0] B47
def Jd5 : List Item := .inRegion (opsOf Qaq) [1, 2] :: Jd4
def Qar := sub [1] B66
def Jd6 : List Item := [.code Qar]
def Qas := sub [0] B66
def Jd7 : List Item := .inRegion (opsOf Qas) [0] :: Jd6
def Qat := sub [1, 1] B66
def Jd8 : List Item := [.code Qat]
def Qau := sub [1, 0] B66
def Jd9 : List Item := .inRegion (opsOf Qau) [1, 2, 3] :: Jd8
def Qav := sub [1, 1, 1, 1] B66
def Jda : List Item := [.code Qav]
def Qaw := sub [1, 1, 1, 0, 1] B66
def Jdb : List Item := .code Qaw :: Jda
def Qax := sub [1, 1, 1, 0, 0] B66
def Jdc : List Item := .inRegion (opsOf Qax) [3, 4] :: Jdb
def Jdd : List Item := .inBlock 0 :: Jda
def Qay := sub [1, 1, 1, 0, 1, 0, 1] B66
def Jde : List Item := .code Qay :: Jdd
def Qaz := sub [1, 1, 1, 0, 1, 0, 0] B66
def Jdf : List Item := .inRegion (opsOf Qaz) [1, 2] :: Jde
def Qb0 := sub [1, 1, 1, 1, 1] B66
def Jdg : List Item := [.code Qb0]
def Qb1 := sub [1, 1, 1, 1, 0] B66
def Jdh : List Item := .inRegion (opsOf Qb1) [0, 1, 2, 3, 4, 5] :: Jdg
def Jdi : List Item := .inRegion (opsOf Qb1) [5] :: Jdg
def Qb2 := sub [1, 1, 1, 0, 1, 0, 1, 1, 1] B66
def Jdj : List Item := .code Qb2 :: Jdd
def Qb3 := sub [1, 1, 1, 0, 1, 0, 1, 1, 0] B66
def Jdk : List Item := .inRegion (opsOf Qb3) [1, 2] :: Jdj
def Qb4 := sub [1, 1, 1, 0, 1, 0, 1, 1, 1, 1, 1] B66
def Jdl : List Item := .code Qb4 :: Jdd
def Qb5 := sub [1, 1, 1, 0, 1, 0, 1, 1, 1, 1, 0] B66
def Jdm : List Item := .inRegion (opsOf Qb5) [1, 2] :: Jdl
def Qb6 := sub [1, 1, 1, 0, 1, 0, 1, 1, 1, 1, 1, 1, 1] B66
def Jdn : List Item := .code Qb6 :: Jdd
def Qb7 := sub [1, 1, 1, 0, 1, 0, 1, 1, 1, 1, 1, 1, 0] B66
def Jdo : List Item := .inRegion (opsOf Qb7) [1, 2] :: Jdn
def Qb8 := sub [1, 1, 1, 0, 1, 0, 1, 1, 1, 1, 1, 1, 1, 0] B66
def Jdp : List Item := .inRegion (opsOf Qb8) [2, 3, 4, 5, 6, 7] :: Jdd
def Qb9 := sub [1, 1, 1, 0, 1, 0, 1, 1, 1, 1, 1, 1, 1, 1, 1] B66
def Jdq : List Item := .code Qb9 :: Jdd
def Qba := sub [1, 1, 1, 0, 1, 0, 1, 1, 1, 1, 1, 1, 1, 1, 0] B66
def Jdr : List Item := .inRegion (opsOf Qba) [0, 1] :: Jdq
def Qbb := sub [1] B78
def Jds : List Item := [.code Qbb]
def Qbc := sub [0] B78
def Jdt : List Item := .inRegion (opsOf Qbc) [0] :: Jds
def Qbd := sub [1, 1] B78
def Jdu : List Item := [.code Qbd]
def Qbe := sub [1, 0] B78
def Jdv : List Item := .inRegion (opsOf Qbe) [1, 2] :: Jdu
def Qbf := sub [1, 1, 0, 0, 0] B78
def Jdw : List Item := .inRegion (opsOf Qbf) [3, 4, 5, 6, 7, 8, 9, 10, 11] :: Jch
def Jdx : List Item := .inRegion (opsOf Qbf) [7, 8, 9, 10, 11] :: Jch
def Jdy : List Item := .inRegion (opsOf Qbf) [8, 9, 10, 11] :: Jch
def Qbg := sub [1, 1, 0, 0, 1, 0, 1] B78
def Jdz : List Item := .code Qbg :: Jcg
def Qbh := sub [1, 1, 0, 0, 1, 0, 0] B78
def Je0 : List Item := .inRegion (opsOf Qbh) [4, 5, 6] :: Jdz
def Qbi := sub [1, 1, 0, 0, 1, 1, 0] B78
def Je1 : List Item := .inRegion (opsOf Qbi) [3, 4, 5, 6, 7, 8, 9] :: Jci
def Je2 : List Item := .inRegion (opsOf Qbi) [6, 7, 8, 9] :: Jci
def Qbj := sub [1, 1, 0, 0, 1, 1, 1, 0, 1] B78
def Je3 : List Item := .code Qbj :: Jcg
def Qbk := sub [1, 1, 0, 0, 1, 1, 1, 0, 0] B78
def Je4 : List Item := .inRegion (opsOf Qbk) [4, 5, 6] :: Je3
def Qbl := sub [1, 1, 0, 0, 1, 1, 1, 1, 1] B78
def Je5 : List Item := .code Qbl :: Jcg
def Qbm := sub [1, 1, 0, 0, 1, 1, 1, 1, 0] B78
def Je6 : List Item := .inRegion (opsOf Qbm) [1, 2] :: Je5
def Qbn := sub [1, 1, 0, 0, 1, 1, 1, 1, 1, 0, 1] B78
def Je7 : List Item := .code Qbn :: Jcg
def Qbo := sub [1, 1, 0, 0, 1, 1, 1, 1, 1, 0, 0] B78
def Je8 : List Item := .inRegion (opsOf Qbo) [0, 1, 2, 3] :: Je7
def Je9 : List Item := .inRegion (opsOf Qbo) [3] :: Je7
def Qbp := sub [1, 1, 0, 0, 1, 1, 1, 1, 1, 1, 1] B78
def Jea : List Item := .code Qbp :: Jcg
def Qbq := sub [1, 1, 0, 0, 1, 1, 1, 1, 1, 1, 0] B78
def Jeb : List Item := .inRegion (opsOf Qbq) [1, 2] :: Jea
def Qbr := sub [1, 1, 0, 0, 1, 1, 1, 1, 1, 1, 1, 0, 1] B78
def Jec : List Item := .code Qbr :: Jcg
def Qbs := sub [1, 1, 0, 0, 1, 1, 1, 1, 1, 1, 1, 0, 0] B78
def Jed : List Item := .inRegion (opsOf Qbs) [1, 2] :: Jec
def Qbt := sub [1, 1, 0, 0, 1, 1, 1, 1, 1, 1, 1, 1, 1] B78
def Jee : List Item := .code Qbt :: Jcg
def Qbu := sub [1, 1, 0, 0, 1, 1, 1, 1, 1, 1, 1, 1, 0] B78
def Jef : List Item := .inRegion (opsOf Qbu) [1, 2] :: Jee
def Qbv := sub [1, 1, 0, 0, 1, 1, 1, 1, 1, 1, 1, 1, 1, 0, 1] B78
def Jeg : List Item := .code Qbv :: Jcg
def Qbw := sub [1, 1, 0, 0, 1, 1, 1, 1, 1, 1, 1, 1, 1, 0, 0] B78
def Jeh : List Item := .inRegion (opsOf Qbw) [1, 2] :: Jeg
def Qbx := sub [1, 1, 0, 0, 1, 1, 1, 1, 1, 1, 1, 1, 1, 1, 1] B78
def Jei : List Item := .code Qbx :: Jcg
def Qby := sub [1, 1, 0, 0, 1, 1, 1, 1, 1, 1, 1, 1, 1, 1, 0] B78
def Jej : List Item := .inRegion (opsOf Qby) [1, 2] :: Jei
def Qbz := sub [1, 1, 0, 0, 1, 1, 1, 1, 1, 1, 1, 1, 1, 1, 1, 0, 1] B78
def Jek : List Item := .code Qbz :: Jcg
def Qc0 := sub [1, 1, 0, 0, 1, 1, 1, 1, 1, 1, 1, 1, 1, 1, 1, 0, 0] B78
def Jel : List Item := .inRegion (opsOf Qc0) [1, 2, 3, 4] :: Jek
def Jem : List Item := .inRegion (opsOf Qc0) [4] :: Jek
def Qc1 := sub [1, 1, 1, 1] B78
def Jen : List Item := [.code Qc1]
def Qc2 := sub [1, 1, 1, 0] B78
def Jeo : List Item := .inRegion (opsOf Qc2) [3, 4, 5, 6, 7] :: Jen
def Jep : List Item := .inRegion (opsOf Qc2) [7] :: Jen
def Qc3 := sub [1, 1, 1, 1, 1] B78
def Jeq : List Item := [.code Qc3]
def Qc4 := sub [1, 1, 1, 1, 0] B78
def Jer : List Item := .inRegion (opsOf Qc4) [1, 2, 3] :: Jeq
def Jes : List Item := .inRegion (opsOf Qc4) [3] :: Jeq
def Qc5 := sub [1] B92
def Jet : List Item := [.code Qc5]
def Qc6 := sub [0] B92
def Jeu : List Item := .inRegion (opsOf Qc6) [0] :: Jet
def Qc7 := sub [1, 0, 1] B92
def Jev : List Item := .code Qc7 :: Jcj
def Qc8 := sub [1, 0, 0] B92
def Jew : List Item := .inRegion (opsOf Qc8) [1] :: Jev
def Qc9 := sub [1, 0, 1, 0] B92
def Jex : List Item := .inRegion (opsOf Qc9) [1] :: Jcj
def Qca := sub [1, 1, 1] B92
def Jey : List Item := [.code Qca]
def Qcb := sub [1, 1, 0] B92
def Jez : List Item := .inRegion (opsOf Qcb) [3, 4, 5, 6, 7] :: Jey
def Jf0 : List Item := .inRegion (opsOf Qcb) [7] :: Jey
def Qcc := sub [1, 1, 1, 1] B92
def Jf1 : List Item := [.code Qcc]
def Qcd := sub [1, 1, 1, 0] B92
def Jf2 : List Item := .inRegion (opsOf Qcd) [1, 2, 3] :: Jf1
def Qce := sub [1, 1, 1, 1, 1] B92
def Jf3 : List Item := [.code Qce]
def Qcf := sub [1, 1, 1, 1, 0] B92
def Jf4 : List Item := .inRegion (opsOf Qcf) [3, 4, 5, 6, 7] :: Jf3
def Jf5 : List Item := .inRegion (opsOf Qcf) [7] :: Jf3
def Qcg := sub [1, 1, 1, 1, 1, 1] B92
def Jf6 : List Item := [.code Qcg]
def Qch := sub [1, 1, 1, 1, 1, 0] B92
def Jf7 : List Item := .inRegion (opsOf Qch) [1] :: Jf6
def Qci := sub [1, 1, 1, 1, 1, 1, 1] B92
def Jf8 : List Item := [.code Qci]
def Qcj := sub [1, 1, 1, 1, 1, 1, 0] B92
def Jf9 : List Item := .inRegion (opsOf Qcj) [0, 1] :: Jf8

def Post.z1r (gx0 : Nat) (r : T27 × T68) (v : Value) (w' : World) : Prop :=
 ∃ S' u24 u25 u26 u20, v = (ag (.i r.1.Kind :: U4 r.1.Set [.slice u24 u25 u26, .i r.1.Min, .i r.1.Max])) ∧ Ext S0 w0 S' w' ∧ Hp nz wz S' w' ((some gx0, .row 69 [.string r.2.s, .i r.2.at_, .i r.2.deep, u20] 4 0) :: Lr) ∧ r.1.Set.length = 4 ∧ Rd kT27 S' w' u24 u26 r.1.L ∧ r.1.L.length = u25 ∧ PtO kT72 S' w' u20 r.2.bad

def Post.z1s (gx0 : Nat) (r : T27 × T68) (v : Value) (w' : World) : Prop :=
 ∃ S' u24 u25 u26 u20, v = (ag (.i r.1.Kind :: U4 r.1.Set [.slice u24 u25 u26, .i r.1.Min, .i r.1.Max])) ∧ Ext S0 w0 S' w' ∧ Hp nz wz S' w' ((some gx0, .row 69 [.string r.2.s, .i r.2.at_, .i r.2.deep, u20] 4 0) :: Lr) ∧ r.1.Set.length = 4 ∧ Rd kT27 S' w' u24 u26 r.1.L ∧ r.1.L.length = u25 ∧ PtO kT72 S' w' u20 r.2.bad

def Post.z1t (gx0 : Nat) (r : T27 × T68) (v : Value) (w' : World) : Prop :=
 ∃ S' u24 u25 u26 u20, v = (ag (.i r.1.Kind :: U4 r.1.Set [.slice u24 u25 u26, .i r.1.Min, .i r.1.Max])) ∧ Ext S0 w0 S' w' ∧ Hp nz wz S' w' ((some gx0, .row 69 [.string r.2.s, .i r.2.at_, .i r.2.deep, u20] 4 0) :: Lr) ∧ r.1.Set.length = 4 ∧ Rd kT27 S' w' u24 u26 r.1.L ∧ r.1.L.length = u25 ∧ PtO kT72 S' w' u20 r.2.bad

def Post.z1u (gx0 : Nat) (r : T27 × T68) (v : Value) (w' : World) : Prop :=
 ∃ S' u24 u25 u26 u20, v = (ag (.i r.1.Kind :: U4 r.1.Set [.slice u24 u25 u26, .i r.1.Min, .i r.1.Max])) ∧ Ext S0 w0 S' w' ∧ Hp nz wz S' w' ((some gx0, .row 69 [.string r.2.s, .i r.2.at_, .i r.2.deep, u20] 4 0) :: Lr) ∧ r.1.Set.length = 4 ∧ Rd kT27 S' w' u24 u26 r.1.L ∧ r.1.L.length = u25 ∧ PtO kT72 S' w' u20 r.2.bad

def Post.z1v (gx0 : Nat) (r : T27 × T68) (v : Value) (w' : World) : Prop :=
 ∃ S' u24 u25 u26 u20, v = (ag (.i r.1.Kind :: U4 r.1.Set [.slice u24 u25 u26, .i r.1.Min, .i r.1.Max])) ∧ Ext S0 w0 S' w' ∧ Hp nz wz S' w' ((some gx0, .row 69 [.string r.2.s, .i r.2.at_, .i r.2.deep, u20] 4 0) :: Lr) ∧ r.1.Set.length = 4 ∧ Rd kT27 S' w' u24 u26 r.1.L ∧ r.1.L.length = u25 ∧ PtO kT72 S' w' u20 r.2.bad

def LF.z1r : T68 → (T27 × T68) → Prop := fun x0v r => ∀ {nz wz S0 w0 Lr} [Gw nz wz] gx0 u22 (_ : Hp nz wz S0 w0 ((some gx0, .row 69 [.string x0v.s, .i x0v.at_, .i x0v.deep, u22] 4 0) :: Lr)) (_ : PtO kT72 S0 w0 u22 x0v.bad),
 Calls Tryd.prog 30 #[(pt gx0 0)] w0 (Rets (Post.z1r nz wz S0 w0 Lr gx0 r))

def LF.z1s : T68 → (T27 × T68) → Prop := fun x0v r => ∀ {nz wz S0 w0 Lr} [Gw nz wz] gx0 u22 (_ : Hp nz wz S0 w0 ((some gx0, .row 69 [.string x0v.s, .i x0v.at_, .i x0v.deep, u22] 4 0) :: Lr)) (_ : PtO kT72 S0 w0 u22 x0v.bad),
 Calls Tryd.prog 47 #[(pt gx0 0)] w0 (Rets (Post.z1s nz wz S0 w0 Lr gx0 r))

def L.z1w (gx0 : Nat) : T27 × (List T27) × T68 → (T27 × T68) → Prop := fun ⟨x2v, x3, e0v⟩ r => ∀ S1 w1, Ext S0 w0 S1 w1 → ∀ gx2 u8k u8l u8m u8n Gx3 nx3 cx3 u1r u20 (_ : Hp nz wz S1 w1 ((some gx2, .row 28 (.i x2v.Kind :: U4 x2v.Set [.slice (Gp u8k) u8l u8m, .i x2v.Min, .i x2v.Max]) 8 0) :: (u8k, .row 28 u8n (u8m * kT27.size) 0) :: (Gx3, .row 28 u1r (cx3 * kT27.size) 0) :: (some gx0, .row 69 [.string e0v.s, .i e0v.at_, .i e0v.deep, u20] 4 0) :: Lr)) (_ : x2v.Set.length = 4) (_ : Els kT27 S1 w1 u8n x2v.L) (_ : x2v.L.length = u8l) (_ : Els kT27 S1 w1 u1r x3) (_ : x3.length = nx3) (_ : PtO kT72 S1 w1 u20 e0v.bad) (junk : Nat → Value),
 Goes Tryd.prog (base 47) Jcc ⟨lfr 38 [(0, (pt gx0 0)), (2, (pt gx2 0)), (3, .slice (Gp Gx3) nx3 cx3)] junk, []⟩ w1 (Done Tryd.prog 47 (Rets (Post.z1s nz wz S0 w0 Lr gx0 r)))

def LL.z1w : T27 × (List T27) × T68 → (T27 × T68) → Prop := fun a r => ∀ {nz wz S0 w0 Lr} [Gw nz wz] (gx0 : Nat), L.z1w nz wz S0 w0 Lr gx0 a r

def L.z1x (gx0 : Nat) : T27 × (List T27) × Bool × T68 → (T27 × T68) → Prop := fun ⟨x2v, x3, x30, e0v⟩ r => ∀ S1 w1, Ext S0 w0 S1 w1 → ∀ gx2 u8k u8l u8m u8n Gx3 nx3 cx3 u1r u20 (_ : Hp nz wz S1 w1 ((some gx2, .row 28 (.i x2v.Kind :: U4 x2v.Set [.slice (Gp u8k) u8l u8m, .i x2v.Min, .i x2v.Max]) 8 0) :: (u8k, .row 28 u8n (u8m * kT27.size) 0) :: (Gx3, .row 28 u1r (cx3 * kT27.size) 0) :: (some gx0, .row 69 [.string e0v.s, .i e0v.at_, .i e0v.deep, u20] 4 0) :: Lr)) (_ : x2v.Set.length = 4) (_ : Els kT27 S1 w1 u8n x2v.L) (_ : x2v.L.length = u8l) (_ : Els kT27 S1 w1 u1r x3) (_ : x3.length = nx3) (_ : PtO kT72 S1 w1 u20 e0v.bad) (junk : Nat → Value),
 Goes Tryd.prog (base 47) Jce ⟨lfr 38 [(0, (pt gx0 0)), (2, (pt gx2 0)), (3, .slice (Gp Gx3) nx3 cx3), (30, .bool x30)] junk, []⟩ w1 (Done Tryd.prog 47 (Rets (Post.z1s nz wz S0 w0 Lr gx0 r)))

def LL.z1x : T27 × (List T27) × Bool × T68 → (T27 × T68) → Prop := fun a r => ∀ {nz wz S0 w0 Lr} [Gw nz wz] (gx0 : Nat), L.z1x nz wz S0 w0 Lr gx0 a r

def LF.z1t : T68 → (T27 × T68) → Prop := fun x0v r => ∀ {nz wz S0 w0 Lr} [Gw nz wz] gx0 u22 (_ : Hp nz wz S0 w0 ((some gx0, .row 69 [.string x0v.s, .i x0v.at_, .i x0v.deep, u22] 4 0) :: Lr)) (_ : PtO kT72 S0 w0 u22 x0v.bad),
 Calls Tryd.prog 66 #[(pt gx0 0)] w0 (Rets (Post.z1t nz wz S0 w0 Lr gx0 r))

def LF.z1u : T68 → (T27 × T68) → Prop := fun x0v r => ∀ {nz wz S0 w0 Lr} [Gw nz wz] gx0 u22 (_ : Hp nz wz S0 w0 ((some gx0, .row 69 [.string x0v.s, .i x0v.at_, .i x0v.deep, u22] 4 0) :: Lr)) (_ : PtO kT72 S0 w0 u22 x0v.bad),
 Calls Tryd.prog 78 #[(pt gx0 0)] w0 (Rets (Post.z1u nz wz S0 w0 Lr gx0 r))

def L.z1y (gx0 : Nat) : T27 × Int × Bool × T68 → (T27 × T68) → Prop := fun ⟨x2v, x3, x6, e0v⟩ r => ∀ S1 w1, Ext S0 w0 S1 w1 → ∀ gx2 u8k u8l u8m u8n u20 (_ : Hp nz wz S1 w1 ((some gx2, .row 28 (.i x2v.Kind :: U4 x2v.Set [.slice (Gp u8k) u8l u8m, .i x2v.Min, .i x2v.Max]) 8 0) :: (u8k, .row 28 u8n (u8m * kT27.size) 0) :: (some gx0, .row 69 [.string e0v.s, .i e0v.at_, .i e0v.deep, u20] 4 0) :: Lr)) (_ : x2v.Set.length = 4) (_ : Els kT27 S1 w1 u8n x2v.L) (_ : x2v.L.length = u8l) (_ : PtO kT72 S1 w1 u20 e0v.bad) (junk : Nat → Value),
 Goes Tryd.prog (base 78) Jch ⟨lfr 73 [(0, (pt gx0 0)), (2, (pt gx2 0)), (3, .int .u8 x3), (6, .bool x6)] junk, []⟩ w1 (Done Tryd.prog 78 (Rets (Post.z1u nz wz S0 w0 Lr gx0 r)))

def LL.z1y : T27 × Int × Bool × T68 → (T27 × T68) → Prop := fun a r => ∀ {nz wz S0 w0 Lr} [Gw nz wz] (gx0 : Nat), L.z1y nz wz S0 w0 Lr gx0 a r

def L.z1z (gx0 : Nat) : T27 × Int × Bool × T68 → (T27 × T68) → Prop := fun ⟨x2v, x3, x24, e0v⟩ r => ∀ S1 w1, Ext S0 w0 S1 w1 → ∀ gx2 u8k u8l u8m u8n u20 (_ : Hp nz wz S1 w1 ((some gx2, .row 28 (.i x2v.Kind :: U4 x2v.Set [.slice (Gp u8k) u8l u8m, .i x2v.Min, .i x2v.Max]) 8 0) :: (u8k, .row 28 u8n (u8m * kT27.size) 0) :: (some gx0, .row 69 [.string e0v.s, .i e0v.at_, .i e0v.deep, u20] 4 0) :: Lr)) (_ : x2v.Set.length = 4) (_ : Els kT27 S1 w1 u8n x2v.L) (_ : x2v.L.length = u8l) (_ : PtO kT72 S1 w1 u20 e0v.bad) (junk : Nat → Value),
 Goes Tryd.prog (base 78) Jci ⟨lfr 73 [(0, (pt gx0 0)), (2, (pt gx2 0)), (3, .int .u8 x3), (24, .bool x24)] junk, []⟩ w1 (Done Tryd.prog 78 (Rets (Post.z1u nz wz S0 w0 Lr gx0 r)))

def LL.z1z : T27 × Int × Bool × T68 → (T27 × T68) → Prop := fun a r => ∀ {nz wz S0 w0 Lr} [Gw nz wz] (gx0 : Nat), L.z1z nz wz S0 w0 Lr gx0 a r

def LF.z1v : T68 → (T27 × T68) → Prop := fun x0v r => ∀ {nz wz S0 w0 Lr} [Gw nz wz] gx0 u22 (_ : Hp nz wz S0 w0 ((some gx0, .row 69 [.string x0v.s, .i x0v.at_, .i x0v.deep, u22] 4 0) :: Lr)) (_ : PtO kT72 S0 w0 u22 x0v.bad),
 Calls Tryd.prog 92 #[(pt gx0 0)] w0 (Rets (Post.z1v nz wz S0 w0 Lr gx0 r))

def L.z20 (gx0 : Nat) : T27 × T68 → (T27 × T68) → Prop := fun ⟨x2v, e0v⟩ r => ∀ S1 w1, Ext S0 w0 S1 w1 → ∀ gx2 u8k u8l u8m u8n u20 (_ : Hp nz wz S1 w1 ((some gx2, .row 28 (.i x2v.Kind :: U4 x2v.Set [.slice (Gp u8k) u8l u8m, .i x2v.Min, .i x2v.Max]) 8 0) :: (u8k, .row 28 u8n (u8m * kT27.size) 0) :: (some gx0, .row 69 [.string e0v.s, .i e0v.at_, .i e0v.deep, u20] 4 0) :: Lr)) (_ : x2v.Set.length = 4) (_ : Els kT27 S1 w1 u8n x2v.L) (_ : x2v.L.length = u8l) (_ : PtO kT72 S1 w1 u20 e0v.bad) (junk : Nat → Value),
 Goes Tryd.prog (base 92) Jcj ⟨lfr 27 [(0, (pt gx0 0)), (2, (pt gx2 0))] junk, []⟩ w1 (Done Tryd.prog 92 (Rets (Post.z1v nz wz S0 w0 Lr gx0 r)))

def LL.z20 : T27 × T68 → (T27 × T68) → Prop := fun a r => ∀ {nz wz S0 w0 Lr} [Gw nz wz] (gx0 : Nat), L.z20 nz wz S0 w0 Lr gx0 a r

def L.z21 (gx0 : Nat) : T27 × (List T27) × T68 → (T27 × T68) → Prop := fun ⟨x2v, x3, e0v⟩ r => ∀ S1 w1, Ext S0 w0 S1 w1 → ∀ gx2 u8k u8l u8m u8n Gx3 nx3 cx3 u1r u20 (_ : Hp nz wz S1 w1 ((some gx2, .row 28 (.i x2v.Kind :: U4 x2v.Set [.slice (Gp u8k) u8l u8m, .i x2v.Min, .i x2v.Max]) 8 0) :: (u8k, .row 28 u8n (u8m * kT27.size) 0) :: (Gx3, .row 28 u1r (cx3 * kT27.size) 0) :: (some gx0, .row 69 [.string e0v.s, .i e0v.at_, .i e0v.deep, u20] 4 0) :: Lr)) (_ : x2v.Set.length = 4) (_ : Els kT27 S1 w1 u8n x2v.L) (_ : x2v.L.length = u8l) (_ : Els kT27 S1 w1 u1r x3) (_ : x3.length = nx3) (_ : PtO kT72 S1 w1 u20 e0v.bad) (junk : Nat → Value),
 Goes Tryd.prog (base 30) Jcn ⟨lfr 16 [(0, (pt gx0 0)), (2, (pt gx2 0)), (3, .slice (Gp Gx3) nx3 cx3)] junk, []⟩ w1 (Done Tryd.prog 30 (Rets (Post.z1r nz wz S0 w0 Lr gx0 r)))

def LL.z21 : T27 × (List T27) × T68 → (T27 × T68) → Prop := fun a r => ∀ {nz wz S0 w0 Lr} [Gw nz wz] (gx0 : Nat), L.z21 nz wz S0 w0 Lr gx0 a r

theorem W.z22 : (∀ a r, M.syntax_parser_alternation a = some r → LF.z1r a r) ∧ (∀ a r, M.syntax_parser_alternation_l0 a = some r → LL.z21 a r) ∧ (∀ a r, M.syntax_parser_sequence a = some r → LF.z1s a r) ∧ (∀ a r, M.syntax_parser_sequence_l0 a = some r → LL.z1w a r) ∧ (∀ a r, M.syntax_parser_sequence_l1 a = some r → LL.z1x a r) ∧ (∀ a r, M.syntax_parser_piece a = some r → LF.z1t a r) ∧ (∀ a r, M.syntax_parser_atom a = some r → LF.z1u a r) ∧ (∀ a r, M.syntax_parser_atom_l0 a = some r → LL.z1y a r) ∧ (∀ a r, M.syntax_parser_atom_l1 a = some r → LL.z1z a r) ∧ (∀ a r, M.syntax_parser_group a = some r → LF.z1v a r) ∧ (∀ a r, M.syntax_parser_group_l0 a = some r → LL.z20 a r) := by
 refine M.syntax_parser_alternation.mutual_partial_correctness LF.z1r LL.z21 LF.z1s LL.z1w LL.z1x LF.z1t LF.z1u LL.z1y LL.z1z LF.z1v LL.z20 ?_ ?_ ?_ ?_ ?_ ?_ ?_ ?_ ?_ ?_ ?_
 ·
  intro u8o rec_syntax_parser_sequence u8p ih_syntax_parser_sequence x0v r h nz wz S0 w0 Lr iG gx0 u22 p0 u23
  try dsimp only at h
  refine calls_of_goes (fn := Tryd.f30) (c := B30) (by kernel_rfl) (by kernel_rfl) 15 (by kernel_rfl) ?_
  refine Goes.jp 16 [(0, (pt gx0 0))] (fun junk => ?_)
  refine Goes.rn 2 [] Jcp ?_
  refine Op_.alloc 28 2 0 (.agg #[.i 0, .u 0, .u 0, .u 0, .u 0, .slice none 0 0, .i 0, .i 0]) [.i 0, .u 0, .u 0, .u 0, .u 0, .slice none 0 0, .i 0, .i 0] p0 Goes.v (by kernel_rfl) (by kernel_rfl) ?_
  intro b2 w2 z2 p2
  refine Goes.rn 4 [(4, (pt gx0 0))] Jcr ?_
  have p2 := p2.fr 1
  refine bind_some' h fun y4 e5 h => ?_
  refine Goes.cal (kc 47 [4] #[66]) 5 28 47 _ (ih_syntax_parser_sequence x0v y4 e5 gx0 u22 p2 (u23.ext z2)) ?_
  rintro _ w3 ⟨S3, u7r, u7s, u7t, u4l, rfl, z3, p3, u7u, u7v, rfl, u4m⟩
  have f7 : Els kT27 S3 w3 ((.i y4.1.Kind :: U4 y4.1.Set [.slice u7r y4.1.L.length u7t, .i y4.1.Min, .i y4.1.Max]) : List Value) [y4.1] := by exact (Els.cons (K := kT27) (vs := (.i y4.1.Kind :: U4 y4.1.Set [.slice u7r y4.1.L.length u7t, .i y4.1.Min, .i y4.1.Max])) (x := y4.1) (kT27_close ⟨[.i y4.1.Kind], (U4 y4.1.Set [.slice u7r y4.1.L.length u7t, .i y4.1.Min, .i y4.1.Max]), rfl, rfl, ⟨(U4 y4.1.Set []), [.slice u7r y4.1.L.length u7t, .i y4.1.Min, .i y4.1.Max], rfl, ⟨u7u, els_mk4 u7u⟩, ⟨[.slice u7r y4.1.L.length u7t], [.i y4.1.Min, .i y4.1.Max], rfl, ⟨_, _, rfl, u7v⟩, ⟨[.i y4.1.Min], [.i y4.1.Max], rfl, rfl, rfl⟩⟩⟩⟩) Els.nil)
  refine Op_.made (.buildSlice 26 1 #[(0, (.tmp 5))]) 6 26 (fun b => .slice (Gp (some b)) 1 1) 28 ((.i y4.1.Kind :: U4 y4.1.Set [.slice u7r y4.1.L.length u7t, .i y4.1.Min, .i y4.1.Max]) : List Value) p3 Goes.v (by kernel_rfl) ?_
  intro b6 w4 z4 p4
  have p4 : Hp nz wz S3 w4 (((some b6), .row 28 ((.i y4.1.Kind :: U4 y4.1.Set [.slice u7r y4.1.L.length u7t, .i y4.1.Min, .i y4.1.Max]) : List Value) (1 * kT27.size) 0) :: (some gx0, .row 69 [.string y4.2.s, .i y4.2.at_, .i y4.2.deep, u4l] 4 0) :: (some b2, .row 28 [.i 0, .u 0, .u 0, .u 0, .u 0, .slice none 0 0, .i 0, .i 0] 8 0) :: Lr) := p4
  refine Goes.rn 5 [(3, .slice (Gp (some b6)) 1 1)] Jcn ?_
  have p4 : Hp nz wz S3 w4 ((none, .row 28 [] (0 * kT27.size) 0) :: ((some b6), .row 28 ((.i y4.1.Kind :: U4 y4.1.Set [.slice u7r y4.1.L.length u7t, .i y4.1.Min, .i y4.1.Max]) : List Value) (1 * kT27.size) 0) :: (some gx0, .row 69 [.string y4.2.s, .i y4.2.at_, .i y4.2.deep, u4l] 4 0) :: (some b2, .row 28 [.i 0, .u 0, .u 0, .u 0, .u 0, .slice none 0 0, .i 0, .i 0] 8 0) :: Lr) := p4.nilRow' 28
  have p4 := (((p4.fr 2).fr 2).fr 2).fr 3
  exact Goes.jp 16 [(0, (pt gx0 0)), (2, (pt b2 0)), (3, .slice (Gp (some b6)) 1 1)] (u8p _ _ h gx0 _ _ ((((Ext.refl S0 w0).trans z2).trans z3).trans z4) b2 none 0 0 [] (some b6) 1 1 ((.i y4.1.Kind :: U4 y4.1.Set [.slice u7r y4.1.L.length u7t, .i y4.1.Min, .i y4.1.Max]) : List Value) u4l p4 rfl (Els.nil (K := kT27)) rfl (f7.ext z4) rfl (u4m.ext z4))
 ·
  intro u8o rec_syntax_parser_sequence u8p ih_syntax_parser_sequence ⟨x2v, x3, e0v⟩ r h nz wz S0 w0 Lr iG gx0 S1 w1 hx gx2 u8k u8l u8m u8n Gx3 nx3 cx3 u1r u20 p1 u8q u8r u8s fx3 lx3 u21 junk
  try dsimp only at h
  subst u8s
  subst lx3
  refine Goes.rn 4 [(7, (pt gx0 0))] Jcu ?_
  have p1 := p1.fr 3
  refine bind_some' h fun y13 e14 h => ?_
  refine Goes.cal (.call { callee := .value (.func 48), args := #[(.tmp 7), (.const (.int .u8 124))], argTypes := #[66, 5] }) 8 4 48 _ (W.zq e0v 124 y13 e14 gx0 u20 p1 u21) ?_
  rintro _ w5 ⟨S5, u56, rfl, z5, p5, u58⟩
  refine Goes.rn 1 [] Jct ?_
  refine ite_some h (fun h15 h => ?_) (fun h15 h => ?_)
  ·
   rw [h15]
   refine Goes.rn 6 [(9, .slice (Gp Gx3) x3.length cx3), (10, (pt gx0 0))] Jcw ?_
   refine bind_some' h fun y16 e17 h => ?_
   refine Goes.cal (kc 47 [10] #[66]) 11 28 47 _ (ih_syntax_parser_sequence y13.2 y16 e17 gx0 u56 p5 u58) ?_
   rintro _ w6 ⟨S6, u8t, u8u, u8v, u5u, rfl, z6, p6, u8w, u8x, rfl, u5v⟩
   have f19 : Els kT27 S6 w6 ((.i y16.1.Kind :: U4 y16.1.Set [.slice u8t y16.1.L.length u8v, .i y16.1.Min, .i y16.1.Max]) : List Value) [y16.1] := by exact (Els.cons (K := kT27) (vs := (.i y16.1.Kind :: U4 y16.1.Set [.slice u8t y16.1.L.length u8v, .i y16.1.Min, .i y16.1.Max])) (x := y16.1) (kT27_close ⟨[.i y16.1.Kind], (U4 y16.1.Set [.slice u8t y16.1.L.length u8v, .i y16.1.Min, .i y16.1.Max]), rfl, rfl, ⟨(U4 y16.1.Set []), [.slice u8t y16.1.L.length u8v, .i y16.1.Min, .i y16.1.Max], rfl, ⟨u8w, els_mk4 u8w⟩, ⟨[.slice u8t y16.1.L.length u8v], [.i y16.1.Min, .i y16.1.Max], rfl, ⟨_, _, rfl, u8x⟩, ⟨[.i y16.1.Min], [.i y16.1.Max], rfl, rfl, rfl⟩⟩⟩⟩) Els.nil)
   refine Op_.made (.buildSlice 26 1 #[(0, (.tmp 11))]) 12 26 (fun b => .slice (Gp (some b)) 1 1) 28 ((.i y16.1.Kind :: U4 y16.1.Set [.slice u8t y16.1.L.length u8v, .i y16.1.Min, .i y16.1.Max]) : List Value) p6 Goes.v (by kernel_rfl) ?_
   intro b18 w7 z7 p7
   have p7 : Hp nz wz S6 w7 (((some b18), .row 28 ((.i y16.1.Kind :: U4 y16.1.Set [.slice u8t y16.1.L.length u8v, .i y16.1.Min, .i y16.1.Max]) : List Value) (1 * kT27.size) 0) :: (some gx0, .row 69 [.string y16.2.s, .i y16.2.at_, .i y16.2.deep, u5u] 4 0) :: (some gx2, .row 28 (.i x2v.Kind :: U4 x2v.Set [.slice (Gp u8k) x2v.L.length u8m, .i x2v.Min, .i x2v.Max]) 8 0) :: (u8k, .row 28 u8n (u8m * kT27.size) 0) :: (Gx3, .row 28 u1r (cx3 * kT27.size) 0) :: Lr) := p7
   refine guard_some' h fun g24 h => ?_
   refine Op_.ap_n (K := kT27) 26 (.tmp 9) (.tmp 12) 13 26 28 4 (.agg #[.i 0, .u 0, .u 0, .u 0, .u 0, .slice none 0 0, .i 0, .i 0]) 80 x3.length cx3 1 x3 [y16.1] (x3 ++ [y16.1]) (Gp (some b18)) 1 rfl rfl rfl p7 rfl (fx3.ext ((z5.trans z6).trans z7)) Goes.v (by kernel_rfl) (by kernel_rfl) (by kernel_rfl) (by kernel_rfl) rfl (by decide) (f19.ext z7) (src_own p7 (q := 0) rfl) (by have := g24; omega) (by have := g24; omega) ?_
   intro w8 G25 c26 u8y z8 p8 f28
   refine Goes.rn 4 [(3, .slice (Gp G25) ((x3 ++ [y16.1]).length) c26)] Jcn ?_
   have p8 := p8.dp 0
   have p8 := (((p8.fr 0).fr 3).fr 3).fr 3
   exact Goes.jp 16 [(0, (pt gx0 0)), (2, (pt gx2 0)), (3, .slice (Gp G25) ((x3 ++ [y16.1]).length) c26)] (u8p _ _ h gx0 _ _ ((((hx.trans z5).trans z6).trans z7).trans z8) gx2 u8k x2v.L.length u8m u8n G25 ((x3 ++ [y16.1]).length) c26 u8y u5u p8 u8q (u8r.ext (((z5.trans z6).trans z7).trans z8)) rfl f28 rfl (u5v.ext (z7.trans z8)))
  ·
   have u8z : y13.1 = false := by simpa using h15
   rw [u8z]
   refine Goes.rn 5 [(14, .slice (Gp Gx3) x3.length cx3)] Jcy ?_
   obtain ⟨S9, z9, p9, f29⟩ := p5.freezeRd 3 rfl (fx3.ext z5) (by decide)
   refine bind_some' h fun y30 e31 h => ?_
   refine Goes.cal (.call { callee := .value (.func 49), args := #[(.const (.int .i64 3)), (.tmp 14)], argTypes := #[3, 26] }) 15 28 49 _ (W.z1q 3 x3 y30 e31 (Gp Gx3) x3.length cx3 p9 f29 rfl) ?_
   rintro _ w10 ⟨S10, u90, u91, u92, rfl, z10, p10, u93, u94, rfl⟩
   have p10 := p10.dp 3
   refine Op_.st 28 (.tmp 2) (.tmp 15) 0 1 gx2 0 (ag (.i y30.Kind :: U4 y30.Set [.slice u90 y30.L.length u92, .i y30.Min, .i y30.Max])) (.i y30.Kind :: U4 y30.Set [.slice u90 y30.L.length u92, .i y30.Min, .i y30.Max]) p10 rfl Goes.s (by kernel_rfl) (by kernel_rfl) (by kernel_rfl) (by kernel_rfl) (Nat.zero_le _) (by simp only [List.length_cons, List.length_nil]; omega) (by simp [Value.oneCell']) ?_
   intro w11 z11 p11
   have p11 : Hp nz wz S10 w11 ((some gx0, .row 69 [.string y13.2.s, .i y13.2.at_, .i y13.2.deep, u56] 4 0) :: (some gx2, .row 28 (.i y30.Kind :: U4 y30.Set [.slice u90 y30.L.length u92, .i y30.Min, .i y30.Max]) 8 0) :: (u8k, .row 28 u8n (u8m * kT27.size) 0) :: Lr) := p11
   refine Goes.rn 1 [] Jcx ?_
   obtain rfl := Option.some.inj h
   have p11 := p11.dp 2
   have p11 := (p11.fr 0).fr 1
   exact Goes.ret (fn := Tryd.f30) (by kernel_rfl) (v := (ag (.i y30.Kind :: U4 y30.Set [.slice u90 y30.L.length u92, .i y30.Min, .i y30.Max]))) (results_n1 (fn := Tryd.f30) (a := .cell 2 28) (by kernel_rfl) (resV_cell ⟨gx2, 0, none⟩ (by kernel_rfl) (run_loadN (.i y30.Kind :: U4 y30.Set [.slice u90 y30.L.length u92, .i y30.Min, .i y30.Max]) (by kernel_rfl) (by kernel_rfl) (p11.pa 0 0)))) ⟨S10, u90, y30.L.length, u92, u56, rfl, ((((hx.trans z5).trans z9).trans z10).trans z11), p11.drop, u93, (u94.ext z11), rfl, (u58.ext ((z9.trans z10).trans z11))⟩
 ·
  intro u95 u96 x0v r h nz wz S0 w0 Lr iG gx0 u22 p0 u23
  try dsimp only at h
  refine calls_of_goes (fn := Tryd.f47) (c := B47) (by kernel_rfl) (by kernel_rfl) 37 (by kernel_rfl) ?_
  refine Goes.jp 38 [(0, (pt gx0 0))] (fun junk => ?_)
  refine Goes.rn 2 [] Jd0 ?_
  refine Op_.alloc 28 2 0 (.agg #[.i 0, .u 0, .u 0, .u 0, .u 0, .slice none 0 0, .i 0, .i 0]) [.i 0, .u 0, .u 0, .u 0, .u 0, .slice none 0 0, .i 0, .i 0] p0 Goes.v (by kernel_rfl) (by kernel_rfl) ?_
  intro b2 w2 z2 p2
  refine Goes.rn 8 [(3, .slice none 0 0)] Jcc ?_
  have p2 : Hp nz wz S0 w2 ((none, .row 28 [] (0 * kT27.size) 0) :: (some b2, .row 28 [.i 0, .u 0, .u 0, .u 0, .u 0, .slice none 0 0, .i 0, .i 0] 8 0) :: (some gx0, .row 69 [.string x0v.s, .i x0v.at_, .i x0v.deep, u22] 4 0) :: Lr) := p2.nilRow' 28
  have p2 : Hp nz wz S0 w2 ((none, .row 28 [] (0 * kT27.size) 0) :: (none, .row 28 [] (0 * kT27.size) 0) :: (some b2, .row 28 [.i 0, .u 0, .u 0, .u 0, .u 0, .slice (Gp none) 0 0, .i 0, .i 0] 8 0) :: (some gx0, .row 69 [.string x0v.s, .i x0v.at_, .i x0v.deep, u22] 4 0) :: Lr) := p2.nilRow' 28
  have p2 := (((p2.fr 3).fr 1).fr 2).fr 3
  exact Goes.jp 38 [(0, (pt gx0 0)), (2, (pt b2 0)), (3, .slice (Gp none) 0 0)] (u96 _ _ h gx0 _ _ ((Ext.refl S0 w0).trans z2) b2 none 0 0 [] none 0 0 [] u22 p2 rfl (Els.nil (K := kT27)) rfl (Els.nil (K := kT27)) rfl (u23.ext z2))
 ·
  intro u97 u98 ⟨x2v, x3, e0v⟩ r h nz wz S0 w0 Lr iG gx0 S1 w1 hx gx2 u8k u8l u8m u8n Gx3 nx3 cx3 u1r u20 p1 u8q u8r u8s fx3 lx3 u21 junk
  try dsimp only at h
  subst u8s
  subst lx3
  refine Goes.rn 2 [] Jd1 ?_
  have z3 : Ext S1 w1 S1 (w1).drew := Ext.draw
  have p3 := p1.draw
  refine Goes.drawn (s := [19, 24]) (F := Fc S1 (w1).drew [(⟨gx0, 3, none⟩, u20), (⟨gx0, 1, none⟩, .i e0v.at_), (⟨gx0, 0, none⟩, .string e0v.s)]) 2 27 (by kernel_rfl) (by kernel_rfl) (by kernel_rfl) (by kernel_rfl) ?_
  generalize (w1).drew = w3 at z3 p3 ⊢
  refine AnyG.pu 0 (.move (.tmp 0)) 4 66 ((pt gx0 0)) (Fc.here (p3.cs [(3, 3, 1), (3, 1, 1), (3, 0, 1)])) ?_
  refine AnyG.pu 1 (.nilCheck (.tmp 4)) 5 0 ((pt gx0 0)) (Fc.here (p3.cs [(3, 3, 1), (3, 1, 1), (3, 0, 1)])) ?_
  refine AnyG.pu 2 (.fieldAddr 69 (.tmp 5) 3) 6 0 ((pt gx0 3)) (Fc.here (p3.cs [(3, 3, 1), (3, 1, 1), (3, 0, 1)])) ?_
  refine AnyG.ld1 (i := 3) 67 (.tmp 6) 7 67 ⟨gx0, 3, none⟩ (u20) (by kernel_rfl) (by kernel_rfl) (Fc.here (p3.cs [(3, 3, 1), (3, 1, 1), (3, 0, 1)])) (by kernel_rfl) (by kernel_rfl) (fun _ h => h.2.at_ 0 rfl) ?_
  refine let_some h fun v24 h9 h => ?_
  rcases v24 with _ | y10
  ·
   try dsimp only at h
   obtain rfl := PtO.nil (u21.ext z3) h9
   refine AnyG.pu 4 (.binOp .eql 67 (.tmp 7) (.const (.pointer none)) 67) 8 4 (.bool true) (Fc.here (p3.cs [(3, 3, 1), (3, 1, 1), (3, 0, 1)])) ?_
   refine AnyG.pu 5 (.move (.tmp 8)) 9 4 (.bool true) (Fc.here (p3.cs [(3, 3, 1), (3, 1, 1), (3, 0, 1)])) ?_
   refine AnyG.pu 6 (.move (.tmp 0)) 10 66 ((pt gx0 0)) (Fc.here (p3.cs [(3, 3, 1), (3, 1, 1), (3, 0, 1)])) ?_
   refine AnyG.pu 7 (.nilCheck (.tmp 10)) 11 0 ((pt gx0 0)) (Fc.here (p3.cs [(3, 3, 1), (3, 1, 1), (3, 0, 1)])) ?_
   refine AnyG.pu 8 (.fieldAddr 69 (.tmp 11) 1) 12 0 ((pt gx0 1)) (Fc.here (p3.cs [(3, 3, 1), (3, 1, 1), (3, 0, 1)])) ?_
   refine AnyG.ld1 (i := 9) 3 (.tmp 12) 13 3 ⟨gx0, 1, none⟩ (.i e0v.at_) (by kernel_rfl) (by kernel_rfl) (Fc.here (p3.cs [(3, 3, 1), (3, 1, 1), (3, 0, 1)])) (by kernel_rfl) (by kernel_rfl) (fun _ h => h.2.at_ 1 rfl) ?_
   refine AnyG.pu 10 (.move (.tmp 0)) 14 66 ((pt gx0 0)) (Fc.here (p3.cs [(3, 3, 1), (3, 1, 1), (3, 0, 1)])) ?_
   refine AnyG.pu 11 (.nilCheck (.tmp 14)) 15 0 ((pt gx0 0)) (Fc.here (p3.cs [(3, 3, 1), (3, 1, 1), (3, 0, 1)])) ?_
   refine AnyG.pu 12 (.fieldAddr 69 (.tmp 15) 0) 16 0 ((pt gx0 0)) (Fc.here (p3.cs [(3, 3, 1), (3, 1, 1), (3, 0, 1)])) ?_
   refine AnyG.ld1 (i := 13) 9 (.tmp 16) 17 9 ⟨gx0, 0, none⟩ (.string e0v.s) (by kernel_rfl) (by kernel_rfl) (Fc.here (p3.cs [(3, 3, 1), (3, 1, 1), (3, 0, 1)])) (by kernel_rfl) (by kernel_rfl) (fun _ h => h.2.at_ 2 rfl) ?_
   refine AnyG.pu 14 (.call { callee := .builtin .len, args := #[(.tmp 17)], argTypes := #[9] }) 18 3 (.i (e0v.s.size : Int)) (Fc.here (p3.cs [(3, 3, 1), (3, 1, 1), (3, 0, 1)])) ?_
   refine AnyG.pu 15 (.binOp .lss 3 (.tmp 13) (.tmp 18) 3) 19 4 (.bool (decide (e0v.at_ < (e0v.s.size : Int)))) (Fc.here (p3.cs [(3, 3, 1), (3, 1, 1), (3, 0, 1)])) ?_
   refine AnyG.pu 16 (.pick (.tmp 9) (.tmp 19) (.const (.bool false))) 20 4 (.bool (decide (e0v.at_ < (e0v.s.size : Int)))) (Fc.here (p3.cs [(3, 3, 1), (3, 1, 1), (3, 0, 1)])) ?_
   refine AnyG.pu 17 (.move (.tmp 20)) 21 4 (.bool (decide (e0v.at_ < (e0v.s.size : Int)))) (Fc.here (p3.cs [(3, 3, 1), (3, 1, 1), (3, 0, 1)])) ?_
   refine ite_some h (fun h15 h => ?_) (fun h15 h => ?_)
   ·
    rw [decide_eq_true h15]
    refine AnyG.pu 18 (.move (.tmp 0)) 22 66 ((pt gx0 0)) (Fc.here (p3.cs [(3, 3, 1), (3, 1, 1), (3, 0, 1)])) ?_
    have p3 := p3.fr 3
    refine bind_some' h fun y16 e17 h => ?_
    refine Op_.call (kc 65 [22] #[66]) 23 5 65 #[(pt gx0 0)] (AnyG.cs (i := 19) (by kernel_rfl) (by kernel_rfl)) (by kernel_rfl) (W.zn (⟨e0v.s, e0v.at_, e0v.deep, none⟩ : T68) y16 e17 gx0 (.pointer none) p3 rfl) ?_
    rintro _ w4 ⟨S4, u45, rfl, z4, p4, u48⟩
    refine AnyG.last [24] (Fc S4 w4 []) (by decide) ?_
    refine AnyG.pu 20 (.binOp .neq 5 (.tmp 23) (.const (.int .u8 124)) 5) 24 4 (.bool (!(decide (y16.1 = 124)))) (Fc.here trivial) ?_
    refine AnyG.pu 21 (.pick (.tmp 21) (.tmp 24) (.const (.bool false))) 25 4 (.bool (!(decide (y16.1 = 124)))) (Fc.here trivial) ?_
    refine AnyG.pu 22 (.move (.tmp 25)) 26 4 (.bool (!(decide (y16.1 = 124)))) (Fc.here trivial) ?_
    refine ite_some h (fun h18 h => ?_) (fun h18 h => ?_)
    ·
     rw [decide_eq_true h18]
     refine AnyG.s1 23 27 (Fc.here trivial) ?_
     refine AnyG.skipL1 (i := 24) 28 (by kernel_rfl) (by kernel_rfl) (.inl (by decide)) ?_
     refine AnyG.s1 25 29 (Fc.here trivial) ?_
     refine AnyG.pu 26 (.pick (.tmp 26) (.tmp 29) (.const (.bool false))) 30 4 (.bool false) (Fc.here trivial) ?_
     refine AnyG.done (by kernel_rfl) ?_ _
     have p4 := (((p4.fr 0).fr 3).fr 3).fr 3
     exact Goes.jp 38 [(0, (pt gx0 0)), (2, (pt gx2 0)), (3, .slice (Gp Gx3) x3.length cx3), (30, .bool false)] (u98 _ _ h gx0 _ _ ((hx.trans z3).trans z4) gx2 u8k x2v.L.length u8m u8n Gx3 x3.length cx3 u1r u45 p4 u8q (u8r.ext (z3.trans z4)) rfl (fx3.ext (z3.trans z4)) rfl u48)
    ·
     rw [decide_eq_false h18]
     refine AnyG.pu 23 (.move (.tmp 0)) 27 66 ((pt gx0 0)) (Fc.here trivial) ?_
     refine bind_some' h fun y22 e23 h => ?_
     refine Op_.call (kc 65 [27] #[66]) 28 5 65 #[(pt gx0 0)] (AnyG.cs (i := 24) (by kernel_rfl) (by kernel_rfl)) (by kernel_rfl) (W.zn y16.2 y22 e23 gx0 u45 p4 u48) ?_
     rintro _ w5 ⟨S5, u56, rfl, z5, p5, u58⟩
     refine AnyG.last [] (Fc S5 w5 []) (by decide) ?_
     refine AnyG.pu 25 (.binOp .neq 5 (.tmp 28) (.const (.int .u8 41)) 5) 29 4 (.bool (!(decide (y22.1 = 41)))) (Fc.here trivial) ?_
     refine AnyG.pu 26 (.pick (.tmp 26) (.tmp 29) (.const (.bool false))) 30 4 (.bool (!(decide (y22.1 = 41)))) (Fc.here trivial) ?_
     refine AnyG.done (by kernel_rfl) ?_ _
     have p5 := (((p5.fr 0).fr 3).fr 3).fr 3
     exact Goes.jp 38 [(0, (pt gx0 0)), (2, (pt gx2 0)), (3, .slice (Gp Gx3) x3.length cx3), (30, .bool (!(decide (y22.1 = 41))))] (u98 _ _ h gx0 _ _ (((hx.trans z3).trans z4).trans z5) gx2 u8k x2v.L.length u8m u8n Gx3 x3.length cx3 u1r u56 p5 u8q (u8r.ext ((z3.trans z4).trans z5)) rfl (fx3.ext ((z3.trans z4).trans z5)) rfl u58)
   ·
    rw [decide_eq_false h15]
    refine AnyG.s1 18 22 (Fc.here (p3.cs [(3, 3, 1), (3, 1, 1), (3, 0, 1)])) ?_
    refine AnyG.skipL1 (i := 19) 23 (by kernel_rfl) (by kernel_rfl) (.inl (by decide)) ?_
    refine AnyG.s1 20 24 (Fc.here (p3.cs [(3, 3, 1), (3, 1, 1), (3, 0, 1)])) ?_
    refine AnyG.pu 21 (.pick (.tmp 21) (.tmp 24) (.const (.bool false))) 25 4 (.bool false) (Fc.here (p3.cs [(3, 3, 1), (3, 1, 1), (3, 0, 1)])) ?_
    refine AnyG.pu 22 (.move (.tmp 25)) 26 4 (.bool false) (Fc.here (p3.cs [(3, 3, 1), (3, 1, 1), (3, 0, 1)])) ?_
    refine AnyG.s1 23 27 (Fc.here (p3.cs [(3, 3, 1), (3, 1, 1), (3, 0, 1)])) ?_
    refine AnyG.skipL1 (i := 24) 28 (by kernel_rfl) (by kernel_rfl) (.inl (by decide)) ?_
    refine AnyG.s1 25 29 (Fc.here (p3.cs [(3, 3, 1), (3, 1, 1), (3, 0, 1)])) ?_
    refine AnyG.pu 26 (.pick (.tmp 26) (.tmp 29) (.const (.bool false))) 30 4 (.bool false) (Fc.here (p3.cs [(3, 3, 1), (3, 1, 1), (3, 0, 1)])) ?_
    refine AnyG.done (by kernel_rfl) ?_ _
    exact Goes.jp 38 [(0, (pt gx0 0)), (2, (pt gx2 0)), (3, .slice (Gp Gx3) x3.length cx3), (30, .bool false)] (u98 _ _ h gx0 _ _ (hx.trans z3) gx2 u8k x2v.L.length u8m u8n Gx3 x3.length cx3 u1r (.pointer none) p3 u8q (u8r.ext z3) rfl (fx3.ext z3) rfl rfl)
  ·
   try dsimp only at h
   obtain ⟨a12, _, rfl, -, f13, q14⟩ := PtO.got (u21.ext z3) h9
   obtain rfl := q14
   refine AnyG.pu 4 (.binOp .eql 67 (.tmp 7) (.const (.pointer none)) 67) 8 4 (.bool false) (Fc.here (p3.cs [(3, 3, 1), (3, 1, 1), (3, 0, 1)])) ?_
   refine AnyG.pu 5 (.move (.tmp 8)) 9 4 (.bool false) (Fc.here (p3.cs [(3, 3, 1), (3, 1, 1), (3, 0, 1)])) ?_
   refine AnyG.s1 6 10 (Fc.here (p3.cs [(3, 3, 1), (3, 1, 1), (3, 0, 1)])) ?_
   refine AnyG.s1 7 11 (Fc.here (p3.cs [(3, 3, 1), (3, 1, 1), (3, 0, 1)])) ?_
   refine AnyG.s1 8 12 (Fc.here (p3.cs [(3, 3, 1), (3, 1, 1), (3, 0, 1)])) ?_
   refine AnyG.s1 9 13 (Fc.here (p3.cs [(3, 3, 1), (3, 1, 1), (3, 0, 1)])) ?_
   refine AnyG.s1 10 14 (Fc.here (p3.cs [(3, 3, 1), (3, 1, 1), (3, 0, 1)])) ?_
   refine AnyG.s1 11 15 (Fc.here (p3.cs [(3, 3, 1), (3, 1, 1), (3, 0, 1)])) ?_
   refine AnyG.s1 12 16 (Fc.here (p3.cs [(3, 3, 1), (3, 1, 1), (3, 0, 1)])) ?_
   refine AnyG.s1 13 17 (Fc.here (p3.cs [(3, 3, 1), (3, 1, 1), (3, 0, 1)])) ?_
   refine AnyG.s1 14 18 (Fc.here (p3.cs [(3, 3, 1), (3, 1, 1), (3, 0, 1)])) ?_
   refine AnyG.s1 15 19 (Fc.here (p3.cs [(3, 3, 1), (3, 1, 1), (3, 0, 1)])) ?_
   refine AnyG.pu 16 (.pick (.tmp 9) (.tmp 19) (.const (.bool false))) 20 4 (.bool false) (Fc.here (p3.cs [(3, 3, 1), (3, 1, 1), (3, 0, 1)])) ?_
   refine AnyG.pu 17 (.move (.tmp 20)) 21 4 (.bool false) (Fc.here (p3.cs [(3, 3, 1), (3, 1, 1), (3, 0, 1)])) ?_
   refine AnyG.s1 18 22 (Fc.here (p3.cs [(3, 3, 1), (3, 1, 1), (3, 0, 1)])) ?_
   refine AnyG.skipL1 (i := 19) 23 (by kernel_rfl) (by kernel_rfl) (.inl (by decide)) ?_
   refine AnyG.s1 20 24 (Fc.here (p3.cs [(3, 3, 1), (3, 1, 1), (3, 0, 1)])) ?_
   refine AnyG.pu 21 (.pick (.tmp 21) (.tmp 24) (.const (.bool false))) 25 4 (.bool false) (Fc.here (p3.cs [(3, 3, 1), (3, 1, 1), (3, 0, 1)])) ?_
   refine AnyG.pu 22 (.move (.tmp 25)) 26 4 (.bool false) (Fc.here (p3.cs [(3, 3, 1), (3, 1, 1), (3, 0, 1)])) ?_
   refine AnyG.s1 23 27 (Fc.here (p3.cs [(3, 3, 1), (3, 1, 1), (3, 0, 1)])) ?_
   refine AnyG.skipL1 (i := 24) 28 (by kernel_rfl) (by kernel_rfl) (.inl (by decide)) ?_
   refine AnyG.s1 25 29 (Fc.here (p3.cs [(3, 3, 1), (3, 1, 1), (3, 0, 1)])) ?_
   refine AnyG.pu 26 (.pick (.tmp 26) (.tmp 29) (.const (.bool false))) 30 4 (.bool false) (Fc.here (p3.cs [(3, 3, 1), (3, 1, 1), (3, 0, 1)])) ?_
   refine AnyG.done (by kernel_rfl) ?_ _
   exact Goes.jp 38 [(0, (pt gx0 0)), (2, (pt gx2 0)), (3, .slice (Gp Gx3) x3.length cx3), (30, .bool false)] (u98 _ _ h gx0 _ _ (hx.trans z3) gx2 u8k x2v.L.length u8m u8n Gx3 x3.length cx3 u1r (.pointer (some a12)) p3 u8q (u8r.ext z3) rfl (fx3.ext z3) rfl ⟨_, _, rfl, List.cons_ne_nil _ _, f13, rfl⟩)
 ·
  intro u95 rec_syntax_parser_piece u96 ih_syntax_parser_piece ⟨x2v, x3, x30, e0v⟩ r h nz wz S0 w0 Lr iG gx0 S1 w1 hx gx2 u8k u8l u8m u8n Gx3 nx3 cx3 u1r u20 p1 u8q u8r u8s fx3 lx3 u21 junk
  try dsimp only at h
  subst u8s
  subst lx3
  refine ite_some h (fun h25 h => ?_) (fun h25 h => ?_)
  ·
   rw [h25]
   refine Goes.rn 6 [(31, .slice (Gp Gx3) x3.length cx3), (32, (pt gx0 0))] Jd3 ?_
   have p1 := p1.fr 3
   refine bind_some' h fun y26 e27 h => ?_
   refine Goes.cal (kc 66 [32] #[66]) 33 28 66 _ (ih_syntax_parser_piece e0v y26 e27 gx0 u20 p1 u21) ?_
   rintro _ w6 ⟨S6, u8t, u8u, u8v, u5u, rfl, z6, p6, u8w, u8x, rfl, u5v⟩
   have f29 : Els kT27 S6 w6 ((.i y26.1.Kind :: U4 y26.1.Set [.slice u8t y26.1.L.length u8v, .i y26.1.Min, .i y26.1.Max]) : List Value) [y26.1] := by exact (Els.cons (K := kT27) (vs := (.i y26.1.Kind :: U4 y26.1.Set [.slice u8t y26.1.L.length u8v, .i y26.1.Min, .i y26.1.Max])) (x := y26.1) (kT27_close ⟨[.i y26.1.Kind], (U4 y26.1.Set [.slice u8t y26.1.L.length u8v, .i y26.1.Min, .i y26.1.Max]), rfl, rfl, ⟨(U4 y26.1.Set []), [.slice u8t y26.1.L.length u8v, .i y26.1.Min, .i y26.1.Max], rfl, ⟨u8w, els_mk4 u8w⟩, ⟨[.slice u8t y26.1.L.length u8v], [.i y26.1.Min, .i y26.1.Max], rfl, ⟨_, _, rfl, u8x⟩, ⟨[.i y26.1.Min], [.i y26.1.Max], rfl, rfl, rfl⟩⟩⟩⟩) Els.nil)
   refine Op_.made (.buildSlice 26 1 #[(0, (.tmp 33))]) 34 26 (fun b => .slice (Gp (some b)) 1 1) 28 ((.i y26.1.Kind :: U4 y26.1.Set [.slice u8t y26.1.L.length u8v, .i y26.1.Min, .i y26.1.Max]) : List Value) p6 Goes.v (by kernel_rfl) ?_
   intro b28 w7 z7 p7
   have p7 : Hp nz wz S6 w7 (((some b28), .row 28 ((.i y26.1.Kind :: U4 y26.1.Set [.slice u8t y26.1.L.length u8v, .i y26.1.Min, .i y26.1.Max]) : List Value) (1 * kT27.size) 0) :: (some gx0, .row 69 [.string y26.2.s, .i y26.2.at_, .i y26.2.deep, u5u] 4 0) :: (some gx2, .row 28 (.i x2v.Kind :: U4 x2v.Set [.slice (Gp u8k) x2v.L.length u8m, .i x2v.Min, .i x2v.Max]) 8 0) :: (u8k, .row 28 u8n (u8m * kT27.size) 0) :: (Gx3, .row 28 u1r (cx3 * kT27.size) 0) :: Lr) := p7
   refine guard_some' h fun g34 h => ?_
   refine Op_.ap_n (K := kT27) 26 (.tmp 31) (.tmp 34) 35 26 28 4 (.agg #[.i 0, .u 0, .u 0, .u 0, .u 0, .slice none 0 0, .i 0, .i 0]) 80 x3.length cx3 1 x3 [y26.1] (x3 ++ [y26.1]) (Gp (some b28)) 1 rfl rfl rfl p7 rfl (fx3.ext (z6.trans z7)) Goes.v (by kernel_rfl) (by kernel_rfl) (by kernel_rfl) (by kernel_rfl) rfl (by decide) (f29.ext z7) (src_own p7 (q := 0) rfl) (by have := g34; omega) (by have := g34; omega) ?_
   intro w8 G35 c36 u99 z8 p8 f38
   refine Goes.rn 4 [(3, .slice (Gp G35) ((x3 ++ [y26.1]).length) c36)] Jcc ?_
   have p8 := p8.dp 0
   have p8 := (((p8.fr 0).fr 3).fr 3).fr 3
   exact Goes.jp 38 [(0, (pt gx0 0)), (2, (pt gx2 0)), (3, .slice (Gp G35) ((x3 ++ [y26.1]).length) c36)] (u96 _ _ h gx0 _ _ (((hx.trans z6).trans z7).trans z8) gx2 u8k x2v.L.length u8m u8n G35 ((x3 ++ [y26.1]).length) c36 u99 u5u p8 u8q (u8r.ext ((z6.trans z7).trans z8)) rfl f38 rfl (u5v.ext (z7.trans z8)))
  ·
   have u9a : x30 = false := by simpa using h25
   rw [u9a]
   refine Goes.rn 5 [(36, .slice (Gp Gx3) x3.length cx3)] Jd5 ?_
   obtain ⟨S9, z9, p9, f39⟩ := p1.freezeRd 2 rfl fx3 (by decide)
   refine bind_some' h fun y40 e41 h => ?_
   refine Goes.cal (.call { callee := .value (.func 49), args := #[(.const (.int .i64 2)), (.tmp 36)], argTypes := #[3, 26] }) 37 28 49 _ (W.z1q 2 x3 y40 e41 (Gp Gx3) x3.length cx3 p9 f39 rfl) ?_
   rintro _ w10 ⟨S10, u90, u91, u92, rfl, z10, p10, u93, u94, rfl⟩
   have p10 := p10.dp 2
   refine Op_.st 28 (.tmp 2) (.tmp 37) 0 0 gx2 0 (ag (.i y40.Kind :: U4 y40.Set [.slice u90 y40.L.length u92, .i y40.Min, .i y40.Max])) (.i y40.Kind :: U4 y40.Set [.slice u90 y40.L.length u92, .i y40.Min, .i y40.Max]) p10 rfl Goes.s (by kernel_rfl) (by kernel_rfl) (by kernel_rfl) (by kernel_rfl) (Nat.zero_le _) (by simp only [List.length_cons, List.length_nil]; omega) (by simp [Value.oneCell']) ?_
   intro w11 z11 p11
   have p11 : Hp nz wz S10 w11 ((some gx2, .row 28 (.i y40.Kind :: U4 y40.Set [.slice u90 y40.L.length u92, .i y40.Min, .i y40.Max]) 8 0) :: (u8k, .row 28 u8n (u8m * kT27.size) 0) :: (some gx0, .row 69 [.string e0v.s, .i e0v.at_, .i e0v.deep, u20] 4 0) :: Lr) := p11
   refine Goes.rn 1 [] Jd4 ?_
   obtain rfl := Option.some.inj h
   have p11 := p11.dp 1
   exact Goes.ret (fn := Tryd.f47) (by kernel_rfl) (v := (ag (.i y40.Kind :: U4 y40.Set [.slice u90 y40.L.length u92, .i y40.Min, .i y40.Max]))) (results_n1 (fn := Tryd.f47) (a := .cell 2 28) (by kernel_rfl) (resV_cell ⟨gx2, 0, none⟩ (by kernel_rfl) (run_loadN (.i y40.Kind :: U4 y40.Set [.slice u90 y40.L.length u92, .i y40.Min, .i y40.Max]) (by kernel_rfl) (by kernel_rfl) (p11.pa 0 0)))) ⟨S10, u90, y40.L.length, u92, u20, rfl, (((hx.trans z9).trans z10).trans z11), p11.drop, u93, (u94.ext z11), rfl, (u21.ext ((z9.trans z10).trans z11))⟩
 ·
  intro rec_syntax_parser_atom ih_syntax_parser_atom x0v r h nz wz S0 w0 Lr iG gx0 u22 p0 u23
  try dsimp only at h
  refine calls_of_goes (fn := Tryd.f66) (c := B66) (by kernel_rfl) (by kernel_rfl) 36 (by kernel_rfl) ?_
  refine Goes.jp 37 [(0, (pt gx0 0))] (fun junk => ?_)
  refine Goes.rn 2 [] Jd7 ?_
  refine Op_.alloc 28 2 0 (.agg #[.i 0, .u 0, .u 0, .u 0, .u 0, .slice none 0 0, .i 0, .i 0]) [.i 0, .u 0, .u 0, .u 0, .u 0, .slice none 0 0, .i 0, .i 0] p0 Goes.v (by kernel_rfl) (by kernel_rfl) ?_
  intro b2 w2 z2 p2
  refine Goes.rn 4 [(7, (pt gx0 0))] Jd9 ?_
  have p2 := p2.fr 1
  refine bind_some' h fun y4 e5 h => ?_
  refine Goes.cal (kc 78 [7] #[66]) 8 28 78 _ (ih_syntax_parser_atom x0v y4 e5 gx0 u22 p2 (u23.ext z2)) ?_
  rintro _ w3 ⟨S3, u7r, u7s, u7t, u4l, rfl, z3, p3, u7u, u7v, rfl, u4m⟩
  refine Op_.alloc 28 3 0 (.agg #[.i 0, .u 0, .u 0, .u 0, .u 0, .slice none 0 0, .i 0, .i 0]) [.i 0, .u 0, .u 0, .u 0, .u 0, .slice none 0 0, .i 0, .i 0] p3 Goes.v (by kernel_rfl) (by kernel_rfl) ?_
  intro b6 w4 z4 p4
  refine Op_.st 28 (.tmp 3) (.tmp 8) 0 0 b6 0 (ag (.i y4.1.Kind :: U4 y4.1.Set [.slice u7r y4.1.L.length u7t, .i y4.1.Min, .i y4.1.Max])) (.i y4.1.Kind :: U4 y4.1.Set [.slice u7r y4.1.L.length u7t, .i y4.1.Min, .i y4.1.Max]) p4 rfl Goes.s (by kernel_rfl) (by kernel_rfl) (by kernel_rfl) (by kernel_rfl) (Nat.zero_le _) (by simp only [List.length_cons, List.length_nil]; omega) (by simp [Value.oneCell']) ?_
  intro w5 z5 p5
  have p5 : Hp nz wz S3 w5 ((some b6, .row 28 (.i y4.1.Kind :: U4 y4.1.Set [.slice u7r y4.1.L.length u7t, .i y4.1.Min, .i y4.1.Max]) 8 0) :: (some gx0, .row 69 [.string y4.2.s, .i y4.2.at_, .i y4.2.deep, u4l] 4 0) :: (some b2, .row 28 [.i 0, .u 0, .u 0, .u 0, .u 0, .slice none 0 0, .i 0, .i 0] 8 0) :: Lr) := p5
  refine Goes.rn 12 [(4, .i 1), (5, .i 1), (9, (pt gx0 0)), (10, (pt gx0 0)), (11, (pt gx0 1))] Jdc ?_
  refine Goes.ld 3 (.tmp 11) 12 3 ⟨gx0, 1, none⟩ (.i y4.2.at_) (p5.c 1 1) ?_
  refine Goes.rn 6 [(6, .i y4.2.at_), (15, (pt gx0 0))] Jdf ?_
  have p5 := p5.fr 1
  refine bind_some' h fun y8 e9 h => ?_
  refine Goes.cal (.call { callee := .value (.func 48), args := #[(.tmp 15), (.const (.int .u8 42))], argTypes := #[66, 5] }) 16 4 48 _ (W.zq y4.2 42 y8 e9 gx0 u4l p5 (u4m.ext (z4.trans z5))) ?_
  rintro _ w6 ⟨S6, u5u, rfl, z6, p6, u5v⟩
  refine Goes.rn 2 [(14, .bool y8.1)] Jde ?_
  refine ite_some h (fun h10 h => ?_) (fun h10 h => ?_)
  ·
   rw [h10]
   refine Goes.rn 8 [(4, .i 0), (5, .i (-1))] Jdh ?_
   refine Goes.ldN 28 (.tmp 3) 32 28 ⟨b6, 0, none⟩ (.i y4.1.Kind :: U4 y4.1.Set [.slice u7r y4.1.L.length u7t, .i y4.1.Min, .i y4.1.Max]) (p6.pa 1 0) ?_
   have f12 : Els kT27 S6 w6 ((.i y4.1.Kind :: U4 y4.1.Set [.slice u7r y4.1.L.length u7t, .i y4.1.Min, .i y4.1.Max]) : List Value) [y4.1] := by exact (Els.cons (K := kT27) (vs := (.i y4.1.Kind :: U4 y4.1.Set [.slice u7r y4.1.L.length u7t, .i y4.1.Min, .i y4.1.Max])) (x := y4.1) (kT27_close ⟨[.i y4.1.Kind], (U4 y4.1.Set [.slice u7r y4.1.L.length u7t, .i y4.1.Min, .i y4.1.Max]), rfl, rfl, ⟨(U4 y4.1.Set []), [.slice u7r y4.1.L.length u7t, .i y4.1.Min, .i y4.1.Max], rfl, ⟨u7u, els_mk4 u7u⟩, ⟨[.slice u7r y4.1.L.length u7t], [.i y4.1.Min, .i y4.1.Max], rfl, ⟨_, _, rfl, (u7v.ext ((z4.trans z5).trans z6))⟩, ⟨[.i y4.1.Min], [.i y4.1.Max], rfl, rfl, rfl⟩⟩⟩⟩) Els.nil)
   refine Op_.made (.buildSlice 26 1 #[(0, (.tmp 32))]) 33 26 (fun b => .slice (Gp (some b)) 1 1) 28 ((.i y4.1.Kind :: U4 y4.1.Set [.slice u7r y4.1.L.length u7t, .i y4.1.Min, .i y4.1.Max]) : List Value) p6 Goes.v (by kernel_rfl) ?_
   intro b11 w7 z7 p7
   have p7 : Hp nz wz S6 w7 (((some b11), .row 28 ((.i y4.1.Kind :: U4 y4.1.Set [.slice u7r y4.1.L.length u7t, .i y4.1.Min, .i y4.1.Max]) : List Value) (1 * kT27.size) 0) :: (some gx0, .row 69 [.string y8.2.s, .i y8.2.at_, .i y8.2.deep, u5u] 4 0) :: (some b6, .row 28 (.i y4.1.Kind :: U4 y4.1.Set [.slice u7r y4.1.L.length u7t, .i y4.1.Min, .i y4.1.Max]) 8 0) :: (some b2, .row 28 [.i 0, .u 0, .u 0, .u 0, .u 0, .slice none 0 0, .i 0, .i 0] 8 0) :: Lr) := p7
   refine Goes.rn 3 [(34, .i 0), (35, .i (-1)), (36, .agg #[.i 4, .u 0, .u 0, .u 0, .u 0, .slice (Gp (some b11)) 1 1, .i 0, .i (-1)])] Jdi ?_
   refine Op_.st 28 (.tmp 2) (.tmp 36) 0 3 b2 0 (.agg #[.i 4, .u 0, .u 0, .u 0, .u 0, .slice (Gp (some b11)) 1 1, .i 0, .i (-1)]) [.i 4, .u 0, .u 0, .u 0, .u 0, .slice (Gp (some b11)) 1 1, .i 0, .i (-1)] p7 rfl Goes.s (by kernel_rfl) (by kernel_rfl) (by kernel_rfl) (by kernel_rfl) (Nat.zero_le _) (by simp only [List.length_cons, List.length_nil]; omega) (by simp [Value.oneCell']) ?_
   intro w8 z8 p8
   have p8 : Hp nz wz S6 w8 (((some b11), .row 28 ((.i y4.1.Kind :: U4 y4.1.Set [.slice u7r y4.1.L.length u7t, .i y4.1.Min, .i y4.1.Max]) : List Value) (1 * kT27.size) 0) :: (some gx0, .row 69 [.string y8.2.s, .i y8.2.at_, .i y8.2.deep, u5u] 4 0) :: (some b6, .row 28 (.i y4.1.Kind :: U4 y4.1.Set [.slice u7r y4.1.L.length u7t, .i y4.1.Min, .i y4.1.Max]) 8 0) :: (some b2, .row 28 [.i 4, .u 0, .u 0, .u 0, .u 0, .slice (Gp (some b11)) 1 1, .i 0, .i (-1)] 8 0) :: Lr) := p8
   refine Goes.rn 1 [] Jdg ?_
   obtain ⟨S9, z9, p9, f14⟩ := p8.freezeRd 0 rfl (f12.ext (z7.trans z8)) (by decide)
   obtain rfl := Option.some.inj h
   have p9 := (p9.dp 0).dp 1
   have p9 := (p9.fr 0).fr 1
   exact Goes.ret (fn := Tryd.f66) (by kernel_rfl) (v := .agg #[.i 4, .u 0, .u 0, .u 0, .u 0, .slice (Gp (some b11)) 1 1, .i 0, .i (-1)]) (results_n1 (fn := Tryd.f66) (a := .cell 2 28) (by kernel_rfl) (resV_cell ⟨b2, 0, none⟩ (by kernel_rfl) (run_loadN [.i 4, .u 0, .u 0, .u 0, .u 0, .slice (Gp (some b11)) 1 1, .i 0, .i (-1)] (by kernel_rfl) (by kernel_rfl) (p9.pa 0 0)))) ⟨S9, (Gp (some b11)), 1, 1, u5u, rfl, (((((((((Ext.refl S0 w0).trans z2).trans z3).trans z4).trans z5).trans z6).trans z7).trans z8).trans z9), p9.drop, rfl, f14, rfl, (u5v.ext ((z7.trans z8).trans z9))⟩
  ·
   have u9b : y8.1 = false := by simpa using h10
   rw [u9b]
   refine Goes.rn 4 [(18, (pt gx0 0))] Jdk ?_
   refine bind_some' h fun y15 e16 h => ?_
   refine Goes.cal (.call { callee := .value (.func 48), args := #[(.tmp 18), (.const (.int .u8 43))], argTypes := #[66, 5] }) 19 4 48 _ (W.zq y8.2 43 y15 e16 gx0 u5u p6 u5v) ?_
   rintro _ w10 ⟨S10, u4q, rfl, z10, p10, u4r⟩
   refine Goes.rn 2 [(17, .bool y15.1)] Jdj ?_
   refine ite_some h (fun h17 h => ?_) (fun h17 h => ?_)
   ·
    rw [h17]
    refine Goes.rn 7 [(5, .i (-1))] Jdh ?_
    refine Goes.ldN 28 (.tmp 3) 32 28 ⟨b6, 0, none⟩ (.i y4.1.Kind :: U4 y4.1.Set [.slice u7r y4.1.L.length u7t, .i y4.1.Min, .i y4.1.Max]) (p10.pa 1 0) ?_
    have f19 : Els kT27 S10 w10 ((.i y4.1.Kind :: U4 y4.1.Set [.slice u7r y4.1.L.length u7t, .i y4.1.Min, .i y4.1.Max]) : List Value) [y4.1] := by exact (Els.cons (K := kT27) (vs := (.i y4.1.Kind :: U4 y4.1.Set [.slice u7r y4.1.L.length u7t, .i y4.1.Min, .i y4.1.Max])) (x := y4.1) (kT27_close ⟨[.i y4.1.Kind], (U4 y4.1.Set [.slice u7r y4.1.L.length u7t, .i y4.1.Min, .i y4.1.Max]), rfl, rfl, ⟨(U4 y4.1.Set []), [.slice u7r y4.1.L.length u7t, .i y4.1.Min, .i y4.1.Max], rfl, ⟨u7u, els_mk4 u7u⟩, ⟨[.slice u7r y4.1.L.length u7t], [.i y4.1.Min, .i y4.1.Max], rfl, ⟨_, _, rfl, (u7v.ext (((z4.trans z5).trans z6).trans z10))⟩, ⟨[.i y4.1.Min], [.i y4.1.Max], rfl, rfl, rfl⟩⟩⟩⟩) Els.nil)
    refine Op_.made (.buildSlice 26 1 #[(0, (.tmp 32))]) 33 26 (fun b => .slice (Gp (some b)) 1 1) 28 ((.i y4.1.Kind :: U4 y4.1.Set [.slice u7r y4.1.L.length u7t, .i y4.1.Min, .i y4.1.Max]) : List Value) p10 Goes.v (by kernel_rfl) ?_
    intro b18 w11 z11 p11
    have p11 : Hp nz wz S10 w11 (((some b18), .row 28 ((.i y4.1.Kind :: U4 y4.1.Set [.slice u7r y4.1.L.length u7t, .i y4.1.Min, .i y4.1.Max]) : List Value) (1 * kT27.size) 0) :: (some gx0, .row 69 [.string y15.2.s, .i y15.2.at_, .i y15.2.deep, u4q] 4 0) :: (some b6, .row 28 (.i y4.1.Kind :: U4 y4.1.Set [.slice u7r y4.1.L.length u7t, .i y4.1.Min, .i y4.1.Max]) 8 0) :: (some b2, .row 28 [.i 0, .u 0, .u 0, .u 0, .u 0, .slice none 0 0, .i 0, .i 0] 8 0) :: Lr) := p11
    refine Goes.rn 3 [(34, .i 1), (35, .i (-1)), (36, .agg #[.i 4, .u 0, .u 0, .u 0, .u 0, .slice (Gp (some b18)) 1 1, .i 1, .i (-1)])] Jdi ?_
    refine Op_.st 28 (.tmp 2) (.tmp 36) 0 3 b2 0 (.agg #[.i 4, .u 0, .u 0, .u 0, .u 0, .slice (Gp (some b18)) 1 1, .i 1, .i (-1)]) [.i 4, .u 0, .u 0, .u 0, .u 0, .slice (Gp (some b18)) 1 1, .i 1, .i (-1)] p11 rfl Goes.s (by kernel_rfl) (by kernel_rfl) (by kernel_rfl) (by kernel_rfl) (Nat.zero_le _) (by simp only [List.length_cons, List.length_nil]; omega) (by simp [Value.oneCell']) ?_
    intro w12 z12 p12
    have p12 : Hp nz wz S10 w12 (((some b18), .row 28 ((.i y4.1.Kind :: U4 y4.1.Set [.slice u7r y4.1.L.length u7t, .i y4.1.Min, .i y4.1.Max]) : List Value) (1 * kT27.size) 0) :: (some gx0, .row 69 [.string y15.2.s, .i y15.2.at_, .i y15.2.deep, u4q] 4 0) :: (some b6, .row 28 (.i y4.1.Kind :: U4 y4.1.Set [.slice u7r y4.1.L.length u7t, .i y4.1.Min, .i y4.1.Max]) 8 0) :: (some b2, .row 28 [.i 4, .u 0, .u 0, .u 0, .u 0, .slice (Gp (some b18)) 1 1, .i 1, .i (-1)] 8 0) :: Lr) := p12
    refine Goes.rn 1 [] Jdg ?_
    obtain ⟨S13, z13, p13, f21⟩ := p12.freezeRd 0 rfl (f19.ext (z11.trans z12)) (by decide)
    obtain rfl := Option.some.inj h
    have p13 := (p13.dp 0).dp 1
    have p13 := (p13.fr 0).fr 1
    exact Goes.ret (fn := Tryd.f66) (by kernel_rfl) (v := .agg #[.i 4, .u 0, .u 0, .u 0, .u 0, .slice (Gp (some b18)) 1 1, .i 1, .i (-1)]) (results_n1 (fn := Tryd.f66) (a := .cell 2 28) (by kernel_rfl) (resV_cell ⟨b2, 0, none⟩ (by kernel_rfl) (run_loadN [.i 4, .u 0, .u 0, .u 0, .u 0, .slice (Gp (some b18)) 1 1, .i 1, .i (-1)] (by kernel_rfl) (by kernel_rfl) (p13.pa 0 0)))) ⟨S13, (Gp (some b18)), 1, 1, u4q, rfl, ((((((((((Ext.refl S0 w0).trans z2).trans z3).trans z4).trans z5).trans z6).trans z10).trans z11).trans z12).trans z13), p13.drop, rfl, f21, rfl, (u4r.ext ((z11.trans z12).trans z13))⟩
   ·
    have u9c : y15.1 = false := by simpa using h17
    rw [u9c]
    refine Goes.rn 4 [(21, (pt gx0 0))] Jdm ?_
    refine bind_some' h fun y22 e23 h => ?_
    refine Goes.cal (.call { callee := .value (.func 48), args := #[(.tmp 21), (.const (.int .u8 63))], argTypes := #[66, 5] }) 22 4 48 _ (W.zq y15.2 63 y22 e23 gx0 u4q p10 u4r) ?_
    rintro _ w14 ⟨S14, u9d, rfl, z14, p14, u9e⟩
    refine Goes.rn 2 [(20, .bool y22.1)] Jdl ?_
    refine ite_some h (fun h24 h => ?_) (fun h24 h => ?_)
    ·
     rw [h24]
     refine Goes.rn 7 [(4, .i 0)] Jdh ?_
     refine Goes.ldN 28 (.tmp 3) 32 28 ⟨b6, 0, none⟩ (.i y4.1.Kind :: U4 y4.1.Set [.slice u7r y4.1.L.length u7t, .i y4.1.Min, .i y4.1.Max]) (p14.pa 1 0) ?_
     have f26 : Els kT27 S14 w14 ((.i y4.1.Kind :: U4 y4.1.Set [.slice u7r y4.1.L.length u7t, .i y4.1.Min, .i y4.1.Max]) : List Value) [y4.1] := by exact (Els.cons (K := kT27) (vs := (.i y4.1.Kind :: U4 y4.1.Set [.slice u7r y4.1.L.length u7t, .i y4.1.Min, .i y4.1.Max])) (x := y4.1) (kT27_close ⟨[.i y4.1.Kind], (U4 y4.1.Set [.slice u7r y4.1.L.length u7t, .i y4.1.Min, .i y4.1.Max]), rfl, rfl, ⟨(U4 y4.1.Set []), [.slice u7r y4.1.L.length u7t, .i y4.1.Min, .i y4.1.Max], rfl, ⟨u7u, els_mk4 u7u⟩, ⟨[.slice u7r y4.1.L.length u7t], [.i y4.1.Min, .i y4.1.Max], rfl, ⟨_, _, rfl, (u7v.ext ((((z4.trans z5).trans z6).trans z10).trans z14))⟩, ⟨[.i y4.1.Min], [.i y4.1.Max], rfl, rfl, rfl⟩⟩⟩⟩) Els.nil)
     refine Op_.made (.buildSlice 26 1 #[(0, (.tmp 32))]) 33 26 (fun b => .slice (Gp (some b)) 1 1) 28 ((.i y4.1.Kind :: U4 y4.1.Set [.slice u7r y4.1.L.length u7t, .i y4.1.Min, .i y4.1.Max]) : List Value) p14 Goes.v (by kernel_rfl) ?_
     intro b25 w15 z15 p15
     have p15 : Hp nz wz S14 w15 (((some b25), .row 28 ((.i y4.1.Kind :: U4 y4.1.Set [.slice u7r y4.1.L.length u7t, .i y4.1.Min, .i y4.1.Max]) : List Value) (1 * kT27.size) 0) :: (some gx0, .row 69 [.string y22.2.s, .i y22.2.at_, .i y22.2.deep, u9d] 4 0) :: (some b6, .row 28 (.i y4.1.Kind :: U4 y4.1.Set [.slice u7r y4.1.L.length u7t, .i y4.1.Min, .i y4.1.Max]) 8 0) :: (some b2, .row 28 [.i 0, .u 0, .u 0, .u 0, .u 0, .slice none 0 0, .i 0, .i 0] 8 0) :: Lr) := p15
     refine Goes.rn 3 [(34, .i 0), (35, .i 1), (36, .agg #[.i 4, .u 0, .u 0, .u 0, .u 0, .slice (Gp (some b25)) 1 1, .i 0, .i 1])] Jdi ?_
     refine Op_.st 28 (.tmp 2) (.tmp 36) 0 3 b2 0 (.agg #[.i 4, .u 0, .u 0, .u 0, .u 0, .slice (Gp (some b25)) 1 1, .i 0, .i 1]) [.i 4, .u 0, .u 0, .u 0, .u 0, .slice (Gp (some b25)) 1 1, .i 0, .i 1] p15 rfl Goes.s (by kernel_rfl) (by kernel_rfl) (by kernel_rfl) (by kernel_rfl) (Nat.zero_le _) (by simp only [List.length_cons, List.length_nil]; omega) (by simp [Value.oneCell']) ?_
     intro w16 z16 p16
     have p16 : Hp nz wz S14 w16 (((some b25), .row 28 ((.i y4.1.Kind :: U4 y4.1.Set [.slice u7r y4.1.L.length u7t, .i y4.1.Min, .i y4.1.Max]) : List Value) (1 * kT27.size) 0) :: (some gx0, .row 69 [.string y22.2.s, .i y22.2.at_, .i y22.2.deep, u9d] 4 0) :: (some b6, .row 28 (.i y4.1.Kind :: U4 y4.1.Set [.slice u7r y4.1.L.length u7t, .i y4.1.Min, .i y4.1.Max]) 8 0) :: (some b2, .row 28 [.i 4, .u 0, .u 0, .u 0, .u 0, .slice (Gp (some b25)) 1 1, .i 0, .i 1] 8 0) :: Lr) := p16
     refine Goes.rn 1 [] Jdg ?_
     obtain ⟨S17, z17, p17, f28⟩ := p16.freezeRd 0 rfl (f26.ext (z15.trans z16)) (by decide)
     obtain rfl := Option.some.inj h
     have p17 := (p17.dp 0).dp 1
     have p17 := (p17.fr 0).fr 1
     exact Goes.ret (fn := Tryd.f66) (by kernel_rfl) (v := .agg #[.i 4, .u 0, .u 0, .u 0, .u 0, .slice (Gp (some b25)) 1 1, .i 0, .i 1]) (results_n1 (fn := Tryd.f66) (a := .cell 2 28) (by kernel_rfl) (resV_cell ⟨b2, 0, none⟩ (by kernel_rfl) (run_loadN [.i 4, .u 0, .u 0, .u 0, .u 0, .slice (Gp (some b25)) 1 1, .i 0, .i 1] (by kernel_rfl) (by kernel_rfl) (p17.pa 0 0)))) ⟨S17, (Gp (some b25)), 1, 1, u9d, rfl, (((((((((((Ext.refl S0 w0).trans z2).trans z3).trans z4).trans z5).trans z6).trans z10).trans z14).trans z15).trans z16).trans z17), p17.drop, rfl, f28, rfl, (u9e.ext ((z15.trans z16).trans z17))⟩
    ·
     have u9f : y22.1 = false := by simpa using h24
     rw [u9f]
     refine Goes.rn 4 [(24, (pt gx0 0))] Jdo ?_
     refine bind_some' h fun y29 e30 h => ?_
     refine Goes.cal (.call { callee := .value (.func 48), args := #[(.tmp 24), (.const (.int .u8 123))], argTypes := #[66, 5] }) 25 4 48 _ (W.zq y22.2 123 y29 e30 gx0 u9d p14 u9e) ?_
     rintro _ w18 ⟨S18, u9g, rfl, z18, p18, u9h⟩
     refine Goes.rn 2 [(23, .bool y29.1)] Jdn ?_
     refine ite_some h (fun h31 h => ?_) (fun h31 h => ?_)
     ·
      rw [h31]
      refine Goes.rn 4 [(27, (pt gx0 0)), (28, .i y4.2.at_)] Jdp ?_
      refine bind_some' h fun y32 e33 h => ?_
      refine Goes.cal (kc 79 [27, 28] #[66, 3]) 29 104 79 _ (W.z1n y29.2 y4.2.at_ y32 e33 gx0 u9g p18 u9h) ?_
      rintro _ w19 ⟨S19, u5p, rfl, z19, p19, u5s⟩
      refine Goes.rn 9 [(26, .tuple #[.i y32.1, .i y32.2.1]), (30, .i y32.1), (31, .i y32.2.1), (4, .i y32.1), (5, .i y32.2.1)] Jdh ?_
      refine Goes.ldN 28 (.tmp 3) 32 28 ⟨b6, 0, none⟩ (.i y4.1.Kind :: U4 y4.1.Set [.slice u7r y4.1.L.length u7t, .i y4.1.Min, .i y4.1.Max]) (p19.pa 1 0) ?_
      have f35 : Els kT27 S19 w19 ((.i y4.1.Kind :: U4 y4.1.Set [.slice u7r y4.1.L.length u7t, .i y4.1.Min, .i y4.1.Max]) : List Value) [y4.1] := by exact (Els.cons (K := kT27) (vs := (.i y4.1.Kind :: U4 y4.1.Set [.slice u7r y4.1.L.length u7t, .i y4.1.Min, .i y4.1.Max])) (x := y4.1) (kT27_close ⟨[.i y4.1.Kind], (U4 y4.1.Set [.slice u7r y4.1.L.length u7t, .i y4.1.Min, .i y4.1.Max]), rfl, rfl, ⟨(U4 y4.1.Set []), [.slice u7r y4.1.L.length u7t, .i y4.1.Min, .i y4.1.Max], rfl, ⟨u7u, els_mk4 u7u⟩, ⟨[.slice u7r y4.1.L.length u7t], [.i y4.1.Min, .i y4.1.Max], rfl, ⟨_, _, rfl, (u7v.ext ((((((z4.trans z5).trans z6).trans z10).trans z14).trans z18).trans z19))⟩, ⟨[.i y4.1.Min], [.i y4.1.Max], rfl, rfl, rfl⟩⟩⟩⟩) Els.nil)
      refine Op_.made (.buildSlice 26 1 #[(0, (.tmp 32))]) 33 26 (fun b => .slice (Gp (some b)) 1 1) 28 ((.i y4.1.Kind :: U4 y4.1.Set [.slice u7r y4.1.L.length u7t, .i y4.1.Min, .i y4.1.Max]) : List Value) p19 Goes.v (by kernel_rfl) ?_
      intro b34 w20 z20 p20
      have p20 : Hp nz wz S19 w20 (((some b34), .row 28 ((.i y4.1.Kind :: U4 y4.1.Set [.slice u7r y4.1.L.length u7t, .i y4.1.Min, .i y4.1.Max]) : List Value) (1 * kT27.size) 0) :: (some gx0, .row 69 [.string y32.2.2.s, .i y32.2.2.at_, .i y32.2.2.deep, u5p] 4 0) :: (some b6, .row 28 (.i y4.1.Kind :: U4 y4.1.Set [.slice u7r y4.1.L.length u7t, .i y4.1.Min, .i y4.1.Max]) 8 0) :: (some b2, .row 28 [.i 0, .u 0, .u 0, .u 0, .u 0, .slice none 0 0, .i 0, .i 0] 8 0) :: Lr) := p20
      refine Goes.rn 3 [(34, .i y32.1), (35, .i y32.2.1), (36, .agg #[.i 4, .u 0, .u 0, .u 0, .u 0, .slice (Gp (some b34)) 1 1, .i y32.1, .i y32.2.1])] Jdi ?_
      refine Op_.st 28 (.tmp 2) (.tmp 36) 0 3 b2 0 (.agg #[.i 4, .u 0, .u 0, .u 0, .u 0, .slice (Gp (some b34)) 1 1, .i y32.1, .i y32.2.1]) [.i 4, .u 0, .u 0, .u 0, .u 0, .slice (Gp (some b34)) 1 1, .i y32.1, .i y32.2.1] p20 rfl Goes.s (by kernel_rfl) (by kernel_rfl) (by kernel_rfl) (by kernel_rfl) (Nat.zero_le _) (by simp only [List.length_cons, List.length_nil]; omega) (by simp [Value.oneCell']) ?_
      intro w21 z21 p21
      have p21 : Hp nz wz S19 w21 (((some b34), .row 28 ((.i y4.1.Kind :: U4 y4.1.Set [.slice u7r y4.1.L.length u7t, .i y4.1.Min, .i y4.1.Max]) : List Value) (1 * kT27.size) 0) :: (some gx0, .row 69 [.string y32.2.2.s, .i y32.2.2.at_, .i y32.2.2.deep, u5p] 4 0) :: (some b6, .row 28 (.i y4.1.Kind :: U4 y4.1.Set [.slice u7r y4.1.L.length u7t, .i y4.1.Min, .i y4.1.Max]) 8 0) :: (some b2, .row 28 [.i 4, .u 0, .u 0, .u 0, .u 0, .slice (Gp (some b34)) 1 1, .i y32.1, .i y32.2.1] 8 0) :: Lr) := p21
      refine Goes.rn 1 [] Jdg ?_
      obtain ⟨S22, z22, p22, f37⟩ := p21.freezeRd 0 rfl (f35.ext (z20.trans z21)) (by decide)
      obtain rfl := Option.some.inj h
      have p22 := (p22.dp 0).dp 1
      have p22 := (p22.fr 0).fr 1
      exact Goes.ret (fn := Tryd.f66) (by kernel_rfl) (v := .agg #[.i 4, .u 0, .u 0, .u 0, .u 0, .slice (Gp (some b34)) 1 1, .i y32.1, .i y32.2.1]) (results_n1 (fn := Tryd.f66) (a := .cell 2 28) (by kernel_rfl) (resV_cell ⟨b2, 0, none⟩ (by kernel_rfl) (run_loadN [.i 4, .u 0, .u 0, .u 0, .u 0, .slice (Gp (some b34)) 1 1, .i y32.1, .i y32.2.1] (by kernel_rfl) (by kernel_rfl) (p22.pa 0 0)))) ⟨S22, (Gp (some b34)), 1, 1, u5p, rfl, (((((((((((((Ext.refl S0 w0).trans z2).trans z3).trans z4).trans z5).trans z6).trans z10).trans z14).trans z18).trans z19).trans z20).trans z21).trans z22), p22.drop, rfl, f37, rfl, (u5s.ext ((z20.trans z21).trans z22))⟩
     ·
      have u9i : y29.1 = false := by simpa using h31
      rw [u9i]
      refine Goes.rn 3 [] Jdr ?_
      refine Goes.ldN 28 (.tmp 3) 13 28 ⟨b6, 0, none⟩ (.i y4.1.Kind :: U4 y4.1.Set [.slice u7r y4.1.L.length u7t, .i y4.1.Min, .i y4.1.Max]) (p18.pa 1 0) ?_
      refine Op_.st 28 (.tmp 2) (.tmp 13) 0 2 b2 0 (ag (.i y4.1.Kind :: U4 y4.1.Set [.slice u7r y4.1.L.length u7t, .i y4.1.Min, .i y4.1.Max])) (.i y4.1.Kind :: U4 y4.1.Set [.slice u7r y4.1.L.length u7t, .i y4.1.Min, .i y4.1.Max]) p18 rfl Goes.s (by kernel_rfl) (by kernel_rfl) (by kernel_rfl) (by kernel_rfl) (Nat.zero_le _) (by simp only [List.length_cons, List.length_nil]; omega) (by simp [Value.oneCell']) ?_
      intro w23 z23 p23
      have p23 : Hp nz wz S18 w23 ((some gx0, .row 69 [.string y29.2.s, .i y29.2.at_, .i y29.2.deep, u9g] 4 0) :: (some b6, .row 28 (.i y4.1.Kind :: U4 y4.1.Set [.slice u7r y4.1.L.length u7t, .i y4.1.Min, .i y4.1.Max]) 8 0) :: (some b2, .row 28 (.i y4.1.Kind :: U4 y4.1.Set [.slice u7r y4.1.L.length u7t, .i y4.1.Min, .i y4.1.Max]) 8 0) :: Lr) := p23
      refine Goes.rn 1 [] Jdq ?_
      obtain rfl := Option.some.inj h
      have p23 := p23.dp 1
      have p23 := (p23.fr 0).fr 1
      exact Goes.ret (fn := Tryd.f66) (by kernel_rfl) (v := (ag (.i y4.1.Kind :: U4 y4.1.Set [.slice u7r y4.1.L.length u7t, .i y4.1.Min, .i y4.1.Max]))) (results_n1 (fn := Tryd.f66) (a := .cell 2 28) (by kernel_rfl) (resV_cell ⟨b2, 0, none⟩ (by kernel_rfl) (run_loadN (.i y4.1.Kind :: U4 y4.1.Set [.slice u7r y4.1.L.length u7t, .i y4.1.Min, .i y4.1.Max]) (by kernel_rfl) (by kernel_rfl) (p23.pa 0 0)))) ⟨S18, u7r, y4.1.L.length, u7t, u9g, rfl, ((((((((((Ext.refl S0 w0).trans z2).trans z3).trans z4).trans z5).trans z6).trans z10).trans z14).trans z18).trans z23), p23.drop, u7u, (u7v.ext ((((((z4.trans z5).trans z6).trans z10).trans z14).trans z18).trans z23)), rfl, (u9h.ext z23)⟩
 ·
  intro u9j u9k x0v r h nz wz S0 w0 Lr iG gx0 u22 p0 u23
  try dsimp only at h
  refine calls_of_goes (fn := Tryd.f78) (c := B78) (by kernel_rfl) (by kernel_rfl) 72 (by kernel_rfl) ?_
  refine Goes.jp 73 [(0, (pt gx0 0))] (fun junk => ?_)
  refine Goes.rn 2 [] Jdt ?_
  refine Op_.alloc 28 2 0 (.agg #[.i 0, .u 0, .u 0, .u 0, .u 0, .slice none 0 0, .i 0, .i 0]) [.i 0, .u 0, .u 0, .u 0, .u 0, .slice none 0 0, .i 0, .i 0] p0 Goes.v (by kernel_rfl) (by kernel_rfl) ?_
  intro b2 w2 z2 p2
  refine Goes.rn 4 [(4, (pt gx0 0))] Jdv ?_
  have p2 := p2.fr 1
  refine bind_some' h fun y4 e5 h => ?_
  refine Goes.cal (kc 65 [4] #[66]) 5 5 65 _ (W.zn x0v y4 e5 gx0 u22 p2 (u23.ext z2)) ?_
  rintro _ w3 ⟨S3, u4l, rfl, z3, p3, u4m⟩
  refine Goes.rn 9 [(3, .int .u8 y4.1), (7, .int .u8 y4.1), (8, .bool (decide (y4.1 < 32))), (9, .bool (decide (y4.1 < 32)))] Jdw ?_
  refine ite_some h (fun h6 h => ?_) (fun h6 h => ?_)
  ·
   rw [decide_eq_true h6]
   refine Goes.rn 10 [(10, undef), (11, undef), (12, .bool true), (13, .bool true), (14, undef), (15, undef), (16, undef), (17, .bool true), (6, .bool true)] Jch ?_
   have p3 : Hp nz wz S3 w3 ((none, .row 28 [] (0 * kT27.size) 0) :: (some gx0, .row 69 [.string y4.2.s, .i y4.2.at_, .i y4.2.deep, u4l] 4 0) :: (some b2, .row 28 [.i 0, .u 0, .u 0, .u 0, .u 0, .slice none 0 0, .i 0, .i 0] 8 0) :: Lr) := p3.nilRow' 28
   have p3 := ((p3.fr 1).fr 1).fr 2
   exact Goes.jp 73 [(0, (pt gx0 0)), (2, (pt b2 0)), (3, .int .u8 y4.1), (6, .bool true)] (u9k _ _ h gx0 _ _ (((Ext.refl S0 w0).trans z2).trans z3) b2 none 0 0 [] u4l p3 rfl (Els.nil (K := kT27)) rfl u4m)
  ·
   rw [decide_eq_false h6]
   refine Goes.rn 4 [(10, .int .u8 y4.1), (11, .bool (decide (y4.1 > 126))), (12, .bool (decide (y4.1 > 126))), (13, .bool (decide (y4.1 > 126)))] Jdx ?_
   refine ite_some h (fun h10 h => ?_) (fun h10 h => ?_)
   ·
    rw [decide_eq_true h10]
    refine Goes.rn 6 [(14, undef), (15, undef), (16, undef), (17, .bool true), (6, .bool true)] Jch ?_
    have p3 : Hp nz wz S3 w3 ((none, .row 28 [] (0 * kT27.size) 0) :: (some gx0, .row 69 [.string y4.2.s, .i y4.2.at_, .i y4.2.deep, u4l] 4 0) :: (some b2, .row 28 [.i 0, .u 0, .u 0, .u 0, .u 0, .slice none 0 0, .i 0, .i 0] 8 0) :: Lr) := p3.nilRow' 28
    have p3 := ((p3.fr 1).fr 1).fr 2
    exact Goes.jp 73 [(0, (pt gx0 0)), (2, (pt b2 0)), (3, .int .u8 y4.1), (6, .bool true)] (u9k _ _ h gx0 _ _ (((Ext.refl S0 w0).trans z2).trans z3) b2 none 0 0 [] u4l p3 rfl (Els.nil (K := kT27)) rfl u4m)
   ·
    rw [decide_eq_false h10]
    refine Goes.rn 1 [(14, .int .u8 y4.1)] Jdy ?_
    refine bind_some' h fun y12 e13 h => ?_
    refine Goes.cal (.call { callee := .value (.func 45), args := #[(.const (.string ⟨#[93, 41, 42, 43, 63, 123, 125, 94, 36, 124]⟩)), (.tmp 14)], argTypes := #[9, 5] }) 15 3 45 _ (W.z1 (⟨#[93, 41, 42, 43, 63, 123, 125, 94, 36, 124]⟩ : ByteArray) y4.1 y12 e13  p3 ) ?_
    rintro _ w4 ⟨S4, rfl, z4, p4⟩
    refine Goes.rn 4 [(16, .bool (decide (y12 ≥ 0))), (17, .bool (decide (y12 ≥ 0))), (6, .bool (decide (y12 ≥ 0)))] Jch ?_
    have p4 : Hp nz wz S4 w4 ((none, .row 28 [] (0 * kT27.size) 0) :: (some gx0, .row 69 [.string y4.2.s, .i y4.2.at_, .i y4.2.deep, u4l] 4 0) :: (some b2, .row 28 [.i 0, .u 0, .u 0, .u 0, .u 0, .slice none 0 0, .i 0, .i 0] 8 0) :: Lr) := p4.nilRow' 28
    have p4 := ((p4.fr 1).fr 1).fr 2
    exact Goes.jp 73 [(0, (pt gx0 0)), (2, (pt b2 0)), (3, .int .u8 y4.1), (6, .bool (decide (y12 ≥ 0)))] (u9k _ _ h gx0 _ _ ((((Ext.refl S0 w0).trans z2).trans z3).trans z4) b2 none 0 0 [] u4l p4 rfl (Els.nil (K := kT27)) rfl (u4m.ext z4))
 ·
  intro u9l u9m ⟨x2v, x3, x6, e0v⟩ r h nz wz S0 w0 Lr iG gx0 S1 w1 hx gx2 u8k u8l u8m u8n u20 p1 u8q u8r u8s u21 junk
  try dsimp only at h
  subst u8s
  refine ite_some h (fun h15 h => ?_) (fun h15 h => ?_)
  ·
   rw [h15]
   refine Goes.rn 7 [(18, (pt gx0 0)), (19, (pt gx0 0)), (20, (pt gx0 0)), (21, (pt gx0 1))] Je0 ?_
   refine Goes.ld 3 (.tmp 21) 22 3 ⟨gx0, 1, none⟩ (.i e0v.at_) (p1.c 2 1) ?_
   have p1 := p1.fr 2
   refine bind_some' h fun y16 e17 h => ?_
   refine Goes.cal (kc 31 [18, 22] #[66, 3]) 23 28 31 _ (W.zp e0v e0v.at_ y16 e17 gx0 u20 p1 u21) ?_
   rintro _ w5 ⟨S5, u9n, u9o, u9p, u56, rfl, z5, p5, u9q, u9r, rfl, u58⟩
   refine Op_.st 28 (.tmp 2) (.tmp 23) 0 1 gx2 0 (ag (.i y16.1.Kind :: U4 y16.1.Set [.slice u9n y16.1.L.length u9p, .i y16.1.Min, .i y16.1.Max])) (.i y16.1.Kind :: U4 y16.1.Set [.slice u9n y16.1.L.length u9p, .i y16.1.Min, .i y16.1.Max]) p5 rfl Goes.s (by kernel_rfl) (by kernel_rfl) (by kernel_rfl) (by kernel_rfl) (Nat.zero_le _) (by simp only [List.length_cons, List.length_nil]; omega) (by simp [Value.oneCell']) ?_
   intro w6 z6 p6
   have p6 : Hp nz wz S5 w6 ((some gx0, .row 69 [.string y16.2.s, .i y16.2.at_, .i y16.2.deep, u56] 4 0) :: (some gx2, .row 28 (.i y16.1.Kind :: U4 y16.1.Set [.slice u9n y16.1.L.length u9p, .i y16.1.Min, .i y16.1.Max]) 8 0) :: (u8k, .row 28 u8n (u8m * kT27.size) 0) :: Lr) := p6
   refine Goes.rn 1 [] Jdz ?_
   obtain rfl := Option.some.inj h
   have p6 := p6.dp 2
   have p6 := (p6.fr 0).fr 1
   exact Goes.ret (fn := Tryd.f78) (by kernel_rfl) (v := (ag (.i y16.1.Kind :: U4 y16.1.Set [.slice u9n y16.1.L.length u9p, .i y16.1.Min, .i y16.1.Max]))) (results_n1 (fn := Tryd.f78) (a := .cell 2 28) (by kernel_rfl) (resV_cell ⟨gx2, 0, none⟩ (by kernel_rfl) (run_loadN (.i y16.1.Kind :: U4 y16.1.Set [.slice u9n y16.1.L.length u9p, .i y16.1.Min, .i y16.1.Max]) (by kernel_rfl) (by kernel_rfl) (p6.pa 0 0)))) ⟨S5, u9n, y16.1.L.length, u9p, u56, rfl, ((hx.trans z5).trans z6), p6.drop, u9q, (u9r.ext z6), rfl, (u58.ext z6)⟩
  ·
   have u8z : x6 = false := by simpa using h15
   rw [u8z]
   refine Goes.rn 6 [(25, .int .u8 x3), (26, .bool (decide (x3 = 40))), (27, .bool (decide (x3 = 40)))] Je1 ?_
   refine ite_some h (fun h18 h => ?_) (fun h18 h => ?_)
   ·
    rw [decide_eq_true h18]
    refine Goes.rn 3 [(28, (pt gx0 0)), (29, (pt gx0 0)), (30, (pt gx0 2))] Je2 ?_
    refine Goes.ld 3 (.tmp 30) 31 3 ⟨gx0, 2, none⟩ (.i e0v.deep) (p1.c 2 2) ?_
    refine Goes.rn 4 [(32, .bool (decide (e0v.deep = 32))), (33, .bool (decide (e0v.deep = 32))), (24, .bool (decide (e0v.deep = 32)))] Jci ?_
    exact Goes.jp 73 [(0, (pt gx0 0)), (2, (pt gx2 0)), (3, .int .u8 x3), (24, .bool (decide (e0v.deep = 32)))] (u9m _ _ h gx0 _ _ hx gx2 u8k x2v.L.length u8m u8n u20 p1 u8q u8r rfl u21)
   ·
    rw [decide_eq_false h18]
    refine Goes.rn 8 [(28, undef), (29, undef), (30, undef), (31, undef), (32, undef), (33, .bool false), (24, .bool false)] Jci ?_
    exact Goes.jp 73 [(0, (pt gx0 0)), (2, (pt gx2 0)), (3, .int .u8 x3), (24, .bool false)] (u9m _ _ h gx0 _ _ hx gx2 u8k x2v.L.length u8m u8n u20 p1 u8q u8r rfl u21)
 ·
  intro rec_syntax_parser_group ih_syntax_parser_group ⟨x2v, x3, x24, e0v⟩ r h nz wz S0 w0 Lr iG gx0 S1 w1 hx gx2 u8k u8l u8m u8n u20 p1 u8q u8r u8s u21 junk
  try dsimp only at h
  subst u8s
  refine ite_some h (fun h21 h => ?_) (fun h21 h => ?_)
  ·
   rw [h21]
   refine Goes.rn 7 [(34, (pt gx0 0)), (35, (pt gx0 0)), (36, (pt gx0 0)), (37, (pt gx0 1))] Je4 ?_
   refine Goes.ld 3 (.tmp 37) 38 3 ⟨gx0, 1, none⟩ (.i e0v.at_) (p1.c 2 1) ?_
   have p1 := p1.fr 2
   refine bind_some' h fun y22 e23 h => ?_
   refine Goes.cal (kc 31 [34, 38] #[66, 3]) 39 28 31 _ (W.zp e0v e0v.at_ y22 e23 gx0 u20 p1 u21) ?_
   rintro _ w7 ⟨S7, u88, u89, u8a, u81, rfl, z7, p7, u8b, u8c, rfl, u82⟩
   refine Op_.st 28 (.tmp 2) (.tmp 39) 0 1 gx2 0 (ag (.i y22.1.Kind :: U4 y22.1.Set [.slice u88 y22.1.L.length u8a, .i y22.1.Min, .i y22.1.Max])) (.i y22.1.Kind :: U4 y22.1.Set [.slice u88 y22.1.L.length u8a, .i y22.1.Min, .i y22.1.Max]) p7 rfl Goes.s (by kernel_rfl) (by kernel_rfl) (by kernel_rfl) (by kernel_rfl) (Nat.zero_le _) (by simp only [List.length_cons, List.length_nil]; omega) (by simp [Value.oneCell']) ?_
   intro w8 z8 p8
   have p8 : Hp nz wz S7 w8 ((some gx0, .row 69 [.string y22.2.s, .i y22.2.at_, .i y22.2.deep, u81] 4 0) :: (some gx2, .row 28 (.i y22.1.Kind :: U4 y22.1.Set [.slice u88 y22.1.L.length u8a, .i y22.1.Min, .i y22.1.Max]) 8 0) :: (u8k, .row 28 u8n (u8m * kT27.size) 0) :: Lr) := p8
   refine Goes.rn 1 [] Je3 ?_
   obtain rfl := Option.some.inj h
   have p8 := p8.dp 2
   have p8 := (p8.fr 0).fr 1
   exact Goes.ret (fn := Tryd.f78) (by kernel_rfl) (v := (ag (.i y22.1.Kind :: U4 y22.1.Set [.slice u88 y22.1.L.length u8a, .i y22.1.Min, .i y22.1.Max]))) (results_n1 (fn := Tryd.f78) (a := .cell 2 28) (by kernel_rfl) (resV_cell ⟨gx2, 0, none⟩ (by kernel_rfl) (run_loadN (.i y22.1.Kind :: U4 y22.1.Set [.slice u88 y22.1.L.length u8a, .i y22.1.Min, .i y22.1.Max]) (by kernel_rfl) (by kernel_rfl) (p8.pa 0 0)))) ⟨S7, u88, y22.1.L.length, u8a, u81, rfl, ((hx.trans z7).trans z8), p8.drop, u8b, (u8c.ext z8), rfl, (u82.ext z8)⟩
  ·
   have u9s : x24 = false := by simpa using h21
   rw [u9s]
   refine Goes.rn 4 [(41, (pt gx0 0))] Je6 ?_
   have p1 := p1.fr 2
   refine bind_some' h fun y24 e25 h => ?_
   refine Goes.cal (.call { callee := .value (.func 48), args := #[(.tmp 41), (.const (.int .u8 46))], argTypes := #[66, 5] }) 42 4 48 _ (W.zq e0v 46 y24 e25 gx0 u20 p1 u21) ?_
   rintro _ w9 ⟨S9, u8g, rfl, z9, p9, u8j⟩
   refine Goes.rn 2 [(40, .bool y24.1)] Je5 ?_
   refine ite_some h (fun h26 h => ?_) (fun h26 h => ?_)
   ·
    rw [h26]
    refine Goes.rn 3 [] Je8 ?_
    refine bind_some' h fun y27 e28 h => ?_
    refine Goes.cal (.call { callee := .value (.func 90), args := #[(.const (.int .u8 10))], argTypes := #[5] }) 43 25 90 _ (W.zs 10 y27 e28  p9 ) ?_
    rintro _ w10 ⟨S10, u32, rfl, z10, p10, u33, u34⟩
    refine bind_some' h fun y29 e30 h => ?_
    refine Goes.cal (kc 89 [43] #[25]) 44 25 89 _ (W.zt y27 y29 e30 u32 p10 u33 u34) ?_
    rintro _ w11 ⟨S11, u9t, rfl, z11, p11, u9u, u9v⟩
    have l31 := Els.len1 u9u u9v rfl
    obtain rfl := els_lit4 u9u u9v
    refine Goes.rn 1 [(45, (ag (.i 1 :: U4 y29 [.slice none 0 0, .i 0, .i 0])))] Je9 ?_
    refine Op_.st 28 (.tmp 2) (.tmp 45) 0 1 gx2 0 (ag (.i 1 :: U4 y29 [.slice none 0 0, .i 0, .i 0])) (.i 1 :: U4 y29 [.slice none 0 0, .i 0, .i 0]) p11 rfl Goes.s (by kernel_rfl) (by kernel_rfl) (by kernel_rfl) (by kernel_rfl) (Nat.zero_le _) (by simp only [List.length_cons, List.length_nil]; omega) (by simp [Value.oneCell']) ?_
    intro w12 z12 p12
    have p12 : Hp nz wz S11 w12 ((some gx0, .row 69 [.string y24.2.s, .i y24.2.at_, .i y24.2.deep, u8g] 4 0) :: (some gx2, .row 28 (.i 1 :: U4 y29 [.slice none 0 0, .i 0, .i 0]) 8 0) :: (u8k, .row 28 u8n (u8m * kT27.size) 0) :: Lr) := p12
    refine Goes.rn 1 [] Je7 ?_
    obtain rfl := Option.some.inj h
    have p12 := p12.dp 2
    have p12 := (p12.fr 0).fr 1
    exact Goes.ret (fn := Tryd.f78) (by kernel_rfl) (v := (ag (.i 1 :: U4 y29 [.slice none 0 0, .i 0, .i 0]))) (results_n1 (fn := Tryd.f78) (a := .cell 2 28) (by kernel_rfl) (resV_cell ⟨gx2, 0, none⟩ (by kernel_rfl) (run_loadN (.i 1 :: U4 y29 [.slice none 0 0, .i 0, .i 0]) (by kernel_rfl) (by kernel_rfl) (p12.pa 0 0)))) ⟨S11, none, 0, 0, u8g, rfl, ((((hx.trans z9).trans z10).trans z11).trans z12), p12.drop, l31, Rd.none_, rfl, (u8j.ext ((z10.trans z11).trans z12))⟩
   ·
    have u9w : y24.1 = false := by simpa using h26
    rw [u9w]
    refine Goes.rn 4 [(47, (pt gx0 0))] Jeb ?_
    refine bind_some' h fun y32 e33 h => ?_
    refine Goes.cal (.call { callee := .value (.func 48), args := #[(.tmp 47), (.const (.int .u8 91))], argTypes := #[66, 5] }) 48 4 48 _ (W.zq y24.2 91 y32 e33 gx0 u8g p9 u8j) ?_
    rintro _ w13 ⟨S13, u9x, rfl, z13, p13, u9y⟩
    refine Goes.rn 2 [(46, .bool y32.1)] Jea ?_
    refine ite_some h (fun h34 h => ?_) (fun h34 h => ?_)
    ·
     rw [h34]
     refine Goes.rn 4 [(49, (pt gx0 0))] Jed ?_
     refine bind_some' h fun y35 e36 h => ?_
     refine Goes.cal (kc 91 [49] #[66]) 50 28 91 _ (W.z1i y32.2 y35 e36 gx0 u9x p13 u9y) ?_
     rintro _ w14 ⟨S14, u9z, ua0, ua1, u9d, rfl, z14, p14, ua2, ua3, rfl, u9e⟩
     refine Op_.st 28 (.tmp 2) (.tmp 50) 0 1 gx2 0 (ag (.i y35.1.Kind :: U4 y35.1.Set [.slice u9z y35.1.L.length ua1, .i y35.1.Min, .i y35.1.Max])) (.i y35.1.Kind :: U4 y35.1.Set [.slice u9z y35.1.L.length ua1, .i y35.1.Min, .i y35.1.Max]) p14 rfl Goes.s (by kernel_rfl) (by kernel_rfl) (by kernel_rfl) (by kernel_rfl) (Nat.zero_le _) (by simp only [List.length_cons, List.length_nil]; omega) (by simp [Value.oneCell']) ?_
     intro w15 z15 p15
     have p15 : Hp nz wz S14 w15 ((some gx0, .row 69 [.string y35.2.s, .i y35.2.at_, .i y35.2.deep, u9d] 4 0) :: (some gx2, .row 28 (.i y35.1.Kind :: U4 y35.1.Set [.slice u9z y35.1.L.length ua1, .i y35.1.Min, .i y35.1.Max]) 8 0) :: (u8k, .row 28 u8n (u8m * kT27.size) 0) :: Lr) := p15
     refine Goes.rn 1 [] Jec ?_
     obtain rfl := Option.some.inj h
     have p15 := p15.dp 2
     have p15 := (p15.fr 0).fr 1
     exact Goes.ret (fn := Tryd.f78) (by kernel_rfl) (v := (ag (.i y35.1.Kind :: U4 y35.1.Set [.slice u9z y35.1.L.length ua1, .i y35.1.Min, .i y35.1.Max]))) (results_n1 (fn := Tryd.f78) (a := .cell 2 28) (by kernel_rfl) (resV_cell ⟨gx2, 0, none⟩ (by kernel_rfl) (run_loadN (.i y35.1.Kind :: U4 y35.1.Set [.slice u9z y35.1.L.length ua1, .i y35.1.Min, .i y35.1.Max]) (by kernel_rfl) (by kernel_rfl) (p15.pa 0 0)))) ⟨S14, u9z, y35.1.L.length, ua1, u9d, rfl, ((((hx.trans z9).trans z13).trans z14).trans z15), p15.drop, ua2, (ua3.ext z15), rfl, (u9e.ext z15)⟩
    ·
     have ua4 : y32.1 = false := by simpa using h34
     rw [ua4]
     refine Goes.rn 4 [(52, (pt gx0 0))] Jef ?_
     refine bind_some' h fun y37 e38 h => ?_
     refine Goes.cal (.call { callee := .value (.func 48), args := #[(.tmp 52), (.const (.int .u8 40))], argTypes := #[66, 5] }) 53 4 48 _ (W.zq y32.2 40 y37 e38 gx0 u9x p13 u9y) ?_
     rintro _ w16 ⟨S16, ua5, rfl, z16, p16, ua6⟩
     refine Goes.rn 2 [(51, .bool y37.1)] Jee ?_
     refine ite_some h (fun h39 h => ?_) (fun h39 h => ?_)
     ·
      rw [h39]
      refine Goes.rn 4 [(54, (pt gx0 0))] Jeh ?_
      refine bind_some' h fun y40 e41 h => ?_
      refine Goes.cal (kc 92 [54] #[66]) 55 28 92 _ (ih_syntax_parser_group y37.2 y40 e41 gx0 ua5 p16 ua6) ?_
      rintro _ w17 ⟨S17, ua7, ua8, ua9, uaa, rfl, z17, p17, uab, uac, rfl, uad⟩
      refine Op_.st 28 (.tmp 2) (.tmp 55) 0 1 gx2 0 (ag (.i y40.1.Kind :: U4 y40.1.Set [.slice ua7 y40.1.L.length ua9, .i y40.1.Min, .i y40.1.Max])) (.i y40.1.Kind :: U4 y40.1.Set [.slice ua7 y40.1.L.length ua9, .i y40.1.Min, .i y40.1.Max]) p17 rfl Goes.s (by kernel_rfl) (by kernel_rfl) (by kernel_rfl) (by kernel_rfl) (Nat.zero_le _) (by simp only [List.length_cons, List.length_nil]; omega) (by simp [Value.oneCell']) ?_
      intro w18 z18 p18
      have p18 : Hp nz wz S17 w18 ((some gx0, .row 69 [.string y40.2.s, .i y40.2.at_, .i y40.2.deep, uaa] 4 0) :: (some gx2, .row 28 (.i y40.1.Kind :: U4 y40.1.Set [.slice ua7 y40.1.L.length ua9, .i y40.1.Min, .i y40.1.Max]) 8 0) :: (u8k, .row 28 u8n (u8m * kT27.size) 0) :: Lr) := p18
      refine Goes.rn 1 [] Jeg ?_
      obtain rfl := Option.some.inj h
      have p18 := p18.dp 2
      have p18 := (p18.fr 0).fr 1
      exact Goes.ret (fn := Tryd.f78) (by kernel_rfl) (v := (ag (.i y40.1.Kind :: U4 y40.1.Set [.slice ua7 y40.1.L.length ua9, .i y40.1.Min, .i y40.1.Max]))) (results_n1 (fn := Tryd.f78) (a := .cell 2 28) (by kernel_rfl) (resV_cell ⟨gx2, 0, none⟩ (by kernel_rfl) (run_loadN (.i y40.1.Kind :: U4 y40.1.Set [.slice ua7 y40.1.L.length ua9, .i y40.1.Min, .i y40.1.Max]) (by kernel_rfl) (by kernel_rfl) (p18.pa 0 0)))) ⟨S17, ua7, y40.1.L.length, ua9, uaa, rfl, (((((hx.trans z9).trans z13).trans z16).trans z17).trans z18), p18.drop, uab, (uac.ext z18), rfl, (uad.ext z18)⟩
     ·
      have uz : y37.1 = false := by simpa using h39
      rw [uz]
      refine Goes.rn 4 [(57, (pt gx0 0))] Jej ?_
      refine bind_some' h fun y42 e43 h => ?_
      refine Goes.cal (.call { callee := .value (.func 48), args := #[(.tmp 57), (.const (.int .u8 92))], argTypes := #[66, 5] }) 58 4 48 _ (W.zq y37.2 92 y42 e43 gx0 ua5 p16 ua6) ?_
      rintro _ w19 ⟨S19, u5p, rfl, z19, p19, u5s⟩
      refine Goes.rn 2 [(56, .bool y42.1)] Jei ?_
      refine ite_some h (fun h44 h => ?_) (fun h44 h => ?_)
      ·
       rw [h44]
       refine Goes.rn 4 [(59, (pt gx0 0))] Jel ?_
       refine bind_some' h fun y45 e46 h => ?_
       refine Goes.cal (kc 93 [59] #[66]) 60 127 93 _ (W.z17 y42.2 y45 e46 gx0 u5p p19 u5s) ?_
       rintro _ w20 ⟨S20, uae, rfl, z20, p20, uaf, uag⟩
       refine Goes.rn 2 [(61, (ag (U4 y45.1.set_ []))), (62, (ag (.i 1 :: U4 y45.1.set_ [.slice none 0 0, .i 0, .i 0])))] Jem ?_
       refine Op_.st 28 (.tmp 2) (.tmp 62) 0 1 gx2 0 (ag (.i 1 :: U4 y45.1.set_ [.slice none 0 0, .i 0, .i 0])) (.i 1 :: U4 y45.1.set_ [.slice none 0 0, .i 0, .i 0]) p20 rfl Goes.s (by kernel_rfl) (by kernel_rfl) (by kernel_rfl) (by kernel_rfl) (Nat.zero_le _) (by simp only [List.length_cons, List.length_nil]; omega) (by simp [Value.oneCell']) ?_
       intro w21 z21 p21
       have p21 : Hp nz wz S20 w21 ((some gx0, .row 69 [.string y45.2.s, .i y45.2.at_, .i y45.2.deep, uae] 4 0) :: (some gx2, .row 28 (.i 1 :: U4 y45.1.set_ [.slice none 0 0, .i 0, .i 0]) 8 0) :: (u8k, .row 28 u8n (u8m * kT27.size) 0) :: Lr) := p21
       refine Goes.rn 1 [] Jek ?_
       obtain rfl := Option.some.inj h
       have p21 := p21.dp 2
       have p21 := (p21.fr 0).fr 1
       exact Goes.ret (fn := Tryd.f78) (by kernel_rfl) (v := (ag (.i 1 :: U4 y45.1.set_ [.slice none 0 0, .i 0, .i 0]))) (results_n1 (fn := Tryd.f78) (a := .cell 2 28) (by kernel_rfl) (resV_cell ⟨gx2, 0, none⟩ (by kernel_rfl) (run_loadN (.i 1 :: U4 y45.1.set_ [.slice none 0 0, .i 0, .i 0]) (by kernel_rfl) (by kernel_rfl) (p21.pa 0 0)))) ⟨S20, none, 0, 0, uae, rfl, ((((((hx.trans z9).trans z13).trans z16).trans z19).trans z20).trans z21), p21.drop, uaf, Rd.none_, rfl, (uag.ext z21)⟩
      ·
       have uah : y42.1 = false := by simpa using h44
       rw [uah]
       refine Goes.rn 8 [(63, (pt gx0 0)), (64, (pt gx0 0)), (65, (pt gx0 1))] Jeo ?_
       refine Goes.ld 3 (.tmp 65) 66 3 ⟨gx0, 1, none⟩ (.i y42.2.at_) (p19.c 0 1) ?_
       refine Goes.rn 3 [(67, .i (wr .i64 (y42.2.at_ + 1))), (68, (pt gx0 0)), (69, (pt gx0 1))] Jep ?_
       refine Op_.st 3 (.tmp 69) (.tmp 67) 0 0 gx0 1 (.i (wr .i64 (y42.2.at_ + 1))) [.i (wr .i64 (y42.2.at_ + 1))] p19 rfl Goes.s (by kernel_rfl) (by kernel_rfl) (by kernel_rfl) (by kernel_rfl) (Nat.zero_le _) (by simp only [List.length_cons, List.length_nil]; omega) (by simp [Value.oneCell']) ?_
       intro w22 z22 p22
       have p22 : Hp nz wz S19 w22 ((some gx0, .row 69 [.string y42.2.s, .i (wr .i64 (y42.2.at_ + 1)), .i y42.2.deep, u5p] 4 0) :: (some gx2, .row 28 (.i x2v.Kind :: U4 x2v.Set [.slice (Gp u8k) x2v.L.length u8m, .i x2v.Min, .i x2v.Max]) 8 0) :: (u8k, .row 28 u8n (u8m * kT27.size) 0) :: Lr) := p22
       refine Goes.rn 4 [(70, .int .u8 x3)] Jer ?_
       refine bind_some' h fun y47 e48 h => ?_
       refine Goes.cal (kc 90 [70] #[5]) 71 25 90 _ (W.zs x3 y47 e48  p22 ) ?_
       rintro _ w23 ⟨S23, u3e, rfl, z23, p23, u3f, u3g⟩
       have l49 := Els.len1 u3f u3g rfl
       obtain rfl := els_lit4 u3f u3g
       refine Goes.rn 1 [(72, (ag (.i 1 :: U4 y47 [.slice none 0 0, .i 0, .i 0])))] Jes ?_
       refine Op_.st 28 (.tmp 2) (.tmp 72) 0 1 gx2 0 (ag (.i 1 :: U4 y47 [.slice none 0 0, .i 0, .i 0])) (.i 1 :: U4 y47 [.slice none 0 0, .i 0, .i 0]) p23 rfl Goes.s (by kernel_rfl) (by kernel_rfl) (by kernel_rfl) (by kernel_rfl) (Nat.zero_le _) (by simp only [List.length_cons, List.length_nil]; omega) (by simp [Value.oneCell']) ?_
       intro w24 z24 p24
       have p24 : Hp nz wz S23 w24 ((some gx0, .row 69 [.string y42.2.s, .i (wr .i64 (y42.2.at_ + 1)), .i y42.2.deep, u5p] 4 0) :: (some gx2, .row 28 (.i 1 :: U4 y47 [.slice none 0 0, .i 0, .i 0]) 8 0) :: (u8k, .row 28 u8n (u8m * kT27.size) 0) :: Lr) := p24
       refine Goes.rn 1 [] Jeq ?_
       obtain rfl := Option.some.inj h
       have p24 := p24.dp 2
       have p24 := (p24.fr 0).fr 1
       exact Goes.ret (fn := Tryd.f78) (by kernel_rfl) (v := (ag (.i 1 :: U4 y47 [.slice none 0 0, .i 0, .i 0]))) (results_n1 (fn := Tryd.f78) (a := .cell 2 28) (by kernel_rfl) (resV_cell ⟨gx2, 0, none⟩ (by kernel_rfl) (run_loadN (.i 1 :: U4 y47 [.slice none 0 0, .i 0, .i 0]) (by kernel_rfl) (by kernel_rfl) (p24.pa 0 0)))) ⟨S23, none, 0, 0, u5p, rfl, (((((((hx.trans z9).trans z13).trans z16).trans z19).trans z22).trans z23).trans z24), p24.drop, l49, Rd.none_, rfl, (u5s.ext ((z22.trans z23).trans z24))⟩
 ·
  intro uai uaj x0v r h nz wz S0 w0 Lr iG gx0 u22 p0 u23
  try dsimp only at h
  refine calls_of_goes (fn := Tryd.f92) (c := B92) (by kernel_rfl) (by kernel_rfl) 26 (by kernel_rfl) ?_
  refine Goes.jp 27 [(0, (pt gx0 0))] (fun junk => ?_)
  refine Goes.rn 2 [] Jeu ?_
  refine Op_.alloc 28 2 0 (.agg #[.i 0, .u 0, .u 0, .u 0, .u 0, .slice none 0 0, .i 0, .i 0]) [.i 0, .u 0, .u 0, .u 0, .u 0, .slice none 0 0, .i 0, .i 0] p0 Goes.v (by kernel_rfl) (by kernel_rfl) ?_
  intro b2 w2 z2 p2
  refine Goes.rn 5 [(4, (pt gx0 0))] Jew ?_
  have p2 := p2.fr 1
  refine bind_some' h fun y4 e5 h => ?_
  refine Goes.cal (.call { callee := .value (.func 48), args := #[(.tmp 4), (.const (.int .u8 63))], argTypes := #[66, 5] }) 5 4 48 _ (W.zq x0v 63 y4 e5 gx0 u22 p2 (u23.ext z2)) ?_
  rintro _ w3 ⟨S3, u4l, rfl, z3, p3, u4m⟩
  refine Goes.rn 1 [] Jev ?_
  refine ite_some h (fun h6 h => ?_) (fun h6 h => ?_)
  ·
   rw [h6]
   refine Goes.rn 3 [(6, (pt gx0 0))] Jex ?_
   refine bind_some' h fun y7 e8 h => ?_
   refine Goes.cal (.call { callee := .value (.func 95), args := #[(.tmp 6), (.const (.int .u8 58))], argTypes := #[66, 5] }) 7 0 95 _ (W.z1j y4.2 58 y7 e8 gx0 u4l p3 u4m) ?_
   rintro _ w4 ⟨S4, u45, rfl, z4, p4, u48⟩
   refine Goes.rn 1 [] Jcj ?_
   have p4 : Hp nz wz S4 w4 ((none, .row 28 [] (0 * kT27.size) 0) :: (some gx0, .row 69 [.string y7.s, .i y7.at_, .i y7.deep, u45] 4 0) :: (some b2, .row 28 [.i 0, .u 0, .u 0, .u 0, .u 0, .slice none 0 0, .i 0, .i 0] 8 0) :: Lr) := p4.nilRow' 28
   have p4 := ((p4.fr 1).fr 1).fr 2
   exact Goes.jp 27 [(0, (pt gx0 0)), (2, (pt b2 0))] (uaj _ _ h gx0 _ _ ((((Ext.refl S0 w0).trans z2).trans z3).trans z4) b2 none 0 0 [] u45 p4 rfl (Els.nil (K := kT27)) rfl u48)
  ·
   have h6' : y4.1 = false := by simpa using h6
   rw [h6']
   refine Goes.rn 2 [] Jcj ?_
   have p3 : Hp nz wz S3 w3 ((none, .row 28 [] (0 * kT27.size) 0) :: (some gx0, .row 69 [.string y4.2.s, .i y4.2.at_, .i y4.2.deep, u4l] 4 0) :: (some b2, .row 28 [.i 0, .u 0, .u 0, .u 0, .u 0, .slice none 0 0, .i 0, .i 0] 8 0) :: Lr) := p3.nilRow' 28
   have p3 := ((p3.fr 1).fr 1).fr 2
   exact Goes.jp 27 [(0, (pt gx0 0)), (2, (pt b2 0))] (uaj _ _ h gx0 _ _ (((Ext.refl S0 w0).trans z2).trans z3) b2 none 0 0 [] u4l p3 rfl (Els.nil (K := kT27)) rfl u4m)
 ·
  intro rec_syntax_parser_alternation ih_syntax_parser_alternation ⟨x2v, e0v⟩ r h nz wz S0 w0 Lr iG gx0 S1 w1 hx gx2 u8k u8l u8m u8n u20 p1 u8q u8r u8s u21 junk
  try dsimp only at h
  subst u8s
  refine Goes.rn 5 [(8, (pt gx0 0)), (9, (pt gx0 0)), (10, (pt gx0 2))] Jez ?_
  refine Goes.ld 3 (.tmp 10) 11 3 ⟨gx0, 2, none⟩ (.i e0v.deep) (p1.c 2 2) ?_
  refine Goes.rn 3 [(12, .i (wr .i64 (e0v.deep + 1))), (13, (pt gx0 0)), (14, (pt gx0 2))] Jf0 ?_
  refine Op_.st 3 (.tmp 14) (.tmp 12) 0 2 gx0 2 (.i (wr .i64 (e0v.deep + 1))) [.i (wr .i64 (e0v.deep + 1))] p1 rfl Goes.s (by kernel_rfl) (by kernel_rfl) (by kernel_rfl) (by kernel_rfl) (Nat.zero_le _) (by simp only [List.length_cons, List.length_nil]; omega) (by simp [Value.oneCell']) ?_
  intro w5 z5 p5
  have p5 : Hp nz wz S1 w5 ((some gx2, .row 28 (.i x2v.Kind :: U4 x2v.Set [.slice (Gp u8k) x2v.L.length u8m, .i x2v.Min, .i x2v.Max]) 8 0) :: (u8k, .row 28 u8n (u8m * kT27.size) 0) :: (some gx0, .row 69 [.string e0v.s, .i e0v.at_, .i (wr .i64 (e0v.deep + 1)), u20] 4 0) :: Lr) := p5
  refine Goes.rn 4 [(15, (pt gx0 0))] Jf2 ?_
  have p5 := p5.fr 2
  refine bind_some' h fun y13 e14 h => ?_
  refine Goes.cal (kc 30 [15] #[66]) 16 28 30 _ (ih_syntax_parser_alternation (⟨e0v.s, e0v.at_, wr .i64 (e0v.deep + 1), e0v.bad⟩ : T68) y13 e14 gx0 u20 p5 (u21.ext z5)) ?_
  rintro _ w6 ⟨S6, u8t, u8u, u8v, u5u, rfl, z6, p6, u8w, u8x, rfl, u5v⟩
  refine Op_.alloc 28 3 0 (.agg #[.i 0, .u 0, .u 0, .u 0, .u 0, .slice none 0 0, .i 0, .i 0]) [.i 0, .u 0, .u 0, .u 0, .u 0, .slice none 0 0, .i 0, .i 0] p6 Goes.v (by kernel_rfl) (by kernel_rfl) ?_
  intro b15 w7 z7 p7
  refine Op_.st 28 (.tmp 3) (.tmp 16) 0 0 b15 0 (ag (.i y13.1.Kind :: U4 y13.1.Set [.slice u8t y13.1.L.length u8v, .i y13.1.Min, .i y13.1.Max])) (.i y13.1.Kind :: U4 y13.1.Set [.slice u8t y13.1.L.length u8v, .i y13.1.Min, .i y13.1.Max]) p7 rfl Goes.s (by kernel_rfl) (by kernel_rfl) (by kernel_rfl) (by kernel_rfl) (Nat.zero_le _) (by simp only [List.length_cons, List.length_nil]; omega) (by simp [Value.oneCell']) ?_
  intro w8 z8 p8
  have p8 : Hp nz wz S6 w8 ((some b15, .row 28 (.i y13.1.Kind :: U4 y13.1.Set [.slice u8t y13.1.L.length u8v, .i y13.1.Min, .i y13.1.Max]) 8 0) :: (some gx0, .row 69 [.string y13.2.s, .i y13.2.at_, .i y13.2.deep, u5u] 4 0) :: (some gx2, .row 28 (.i x2v.Kind :: U4 x2v.Set [.slice (Gp u8k) x2v.L.length u8m, .i x2v.Min, .i x2v.Max]) 8 0) :: (u8k, .row 28 u8n (u8m * kT27.size) 0) :: Lr) := p8
  refine Goes.rn 6 [(17, (pt gx0 0)), (18, (pt gx0 0)), (19, (pt gx0 2))] Jf4 ?_
  refine Goes.ld 3 (.tmp 19) 20 3 ⟨gx0, 2, none⟩ (.i y13.2.deep) (p8.c 1 2) ?_
  refine Goes.rn 3 [(21, .i (wr .i64 (y13.2.deep - 1))), (22, (pt gx0 0)), (23, (pt gx0 2))] Jf5 ?_
  refine Op_.st 3 (.tmp 23) (.tmp 21) 0 1 gx0 2 (.i (wr .i64 (y13.2.deep - 1))) [.i (wr .i64 (y13.2.deep - 1))] p8 rfl Goes.s (by kernel_rfl) (by kernel_rfl) (by kernel_rfl) (by kernel_rfl) (Nat.zero_le _) (by simp only [List.length_cons, List.length_nil]; omega) (by simp [Value.oneCell']) ?_
  intro w9 z9 p9
  have p9 : Hp nz wz S6 w9 ((some b15, .row 28 (.i y13.1.Kind :: U4 y13.1.Set [.slice u8t y13.1.L.length u8v, .i y13.1.Min, .i y13.1.Max]) 8 0) :: (some gx0, .row 69 [.string y13.2.s, .i y13.2.at_, .i (wr .i64 (y13.2.deep - 1)), u5u] 4 0) :: (some gx2, .row 28 (.i x2v.Kind :: U4 x2v.Set [.slice (Gp u8k) x2v.L.length u8m, .i x2v.Min, .i x2v.Max]) 8 0) :: (u8k, .row 28 u8n (u8m * kT27.size) 0) :: Lr) := p9
  refine Goes.rn 4 [(24, (pt gx0 0))] Jf7 ?_
  have p9 := p9.fr 1
  refine bind_some' h fun y17 e18 h => ?_
  refine Goes.cal (.call { callee := .value (.func 95), args := #[(.tmp 24), (.const (.int .u8 41))], argTypes := #[66, 5] }) 25 0 95 _ (W.z1j (⟨y13.2.s, y13.2.at_, wr .i64 (y13.2.deep - 1), y13.2.bad⟩ : T68) 41 y17 e18 gx0 u5u p9 (u5v.ext ((z7.trans z8).trans z9))) ?_
  rintro _ w10 ⟨S10, u4q, rfl, z10, p10, u4r⟩
  refine Goes.rn 3 [] Jf9 ?_
  refine Goes.ldN 28 (.tmp 3) 26 28 ⟨b15, 0, none⟩ (.i y13.1.Kind :: U4 y13.1.Set [.slice u8t y13.1.L.length u8v, .i y13.1.Min, .i y13.1.Max]) (p10.pa 1 0) ?_
  refine Op_.st 28 (.tmp 2) (.tmp 26) 0 2 gx2 0 (ag (.i y13.1.Kind :: U4 y13.1.Set [.slice u8t y13.1.L.length u8v, .i y13.1.Min, .i y13.1.Max])) (.i y13.1.Kind :: U4 y13.1.Set [.slice u8t y13.1.L.length u8v, .i y13.1.Min, .i y13.1.Max]) p10 rfl Goes.s (by kernel_rfl) (by kernel_rfl) (by kernel_rfl) (by kernel_rfl) (Nat.zero_le _) (by simp only [List.length_cons, List.length_nil]; omega) (by simp [Value.oneCell']) ?_
  intro w11 z11 p11
  have p11 : Hp nz wz S10 w11 ((some gx0, .row 69 [.string y17.s, .i y17.at_, .i y17.deep, u4q] 4 0) :: (some b15, .row 28 (.i y13.1.Kind :: U4 y13.1.Set [.slice u8t y13.1.L.length u8v, .i y13.1.Min, .i y13.1.Max]) 8 0) :: (some gx2, .row 28 (.i y13.1.Kind :: U4 y13.1.Set [.slice u8t y13.1.L.length u8v, .i y13.1.Min, .i y13.1.Max]) 8 0) :: (u8k, .row 28 u8n (u8m * kT27.size) 0) :: Lr) := p11
  refine Goes.rn 1 [] Jf8 ?_
  obtain rfl := Option.some.inj h
  have p11 := (p11.dp 1).dp 2
  have p11 := (p11.fr 0).fr 1
  exact Goes.ret (fn := Tryd.f92) (by kernel_rfl) (v := (ag (.i y13.1.Kind :: U4 y13.1.Set [.slice u8t y13.1.L.length u8v, .i y13.1.Min, .i y13.1.Max]))) (results_n1 (fn := Tryd.f92) (a := .cell 2 28) (by kernel_rfl) (resV_cell ⟨gx2, 0, none⟩ (by kernel_rfl) (run_loadN (.i y13.1.Kind :: U4 y13.1.Set [.slice u8t y13.1.L.length u8v, .i y13.1.Min, .i y13.1.Max]) (by kernel_rfl) (by kernel_rfl) (p11.pa 0 0)))) ⟨S10, u8t, y13.1.L.length, u8v, u4q, rfl, (((((((hx.trans z5).trans z6).trans z7).trans z8).trans z9).trans z10).trans z11), p11.drop, u8w, (u8x.ext ((((z7.trans z8).trans z9).trans z10).trans z11)), rfl, (u4r.ext z11)⟩

theorem W.z1r : ∀ a r, M.syntax_parser_alternation a = some r → LF.z1r a r := (W.z22).1

theorem W.z21 : ∀ a r, M.syntax_parser_alternation_l0 a = some r → LL.z21 a r := (W.z22).2.1

theorem W.z1s : ∀ a r, M.syntax_parser_sequence a = some r → LF.z1s a r := (W.z22).2.2.1

theorem W.z1w : ∀ a r, M.syntax_parser_sequence_l0 a = some r → LL.z1w a r := (W.z22).2.2.2.1

theorem W.z1x : ∀ a r, M.syntax_parser_sequence_l1 a = some r → LL.z1x a r := (W.z22).2.2.2.2.1

theorem W.z1t : ∀ a r, M.syntax_parser_piece a = some r → LF.z1t a r := (W.z22).2.2.2.2.2.1

theorem W.z1u : ∀ a r, M.syntax_parser_atom a = some r → LF.z1u a r := (W.z22).2.2.2.2.2.2.1

theorem W.z1y : ∀ a r, M.syntax_parser_atom_l0 a = some r → LL.z1y a r := (W.z22).2.2.2.2.2.2.2.1

theorem W.z1z : ∀ a r, M.syntax_parser_atom_l1 a = some r → LL.z1z a r := (W.z22).2.2.2.2.2.2.2.2.1

theorem W.z1v : ∀ a r, M.syntax_parser_group a = some r → LF.z1v a r := (W.z22).2.2.2.2.2.2.2.2.2.1

theorem W.z20 : ∀ a r, M.syntax_parser_group_l0 a = some r → LL.z20 a r := (W.z22).2.2.2.2.2.2.2.2.2.2

def Qck := sub [1, 1, 1, 1, 1, 1] B11
def Jfa : List Item := [.code Qck]
def Qcl := sub [1, 1, 1, 1, 1, 0, 1] B11
def Jfb : List Item := .code Qcl :: Jfa
def Qcm := sub [1, 1, 1, 1, 1, 0, 1, 0, 1] B11
def Jfc : List Item := .code Qcm :: Jfa
def Qcn := sub [1, 1, 1, 1, 1, 0, 1, 0, 0] B11
def Jfd : List Item := .code Qcn :: Jfc
def Qco := sub [1, 1, 1, 1, 1, 1, 1] B11
def Jfe : List Item := [.code Qco]
def Qcp := sub [1, 1, 1, 1, 1, 1, 0] B11
def Jff : List Item := .inRegion (opsOf Qcp) [0, 1, 2, 3] :: Jfe

def Post.z23 (r : T27 × Int × Int) (v : Value) (w' : World) : Prop :=
 ∃ S' uak ual uam, v = .tuple #[(ag (.i r.1.Kind :: U4 r.1.Set [.slice uak ual uam, .i r.1.Min, .i r.1.Max])), .i r.2.1, .i r.2.2] ∧ Ext S0 w0 S' w' ∧ Hp nz wz S' w' (Lr) ∧ r.1.Set.length = 4 ∧ Rd kT27 S' w' uak uam r.1.L ∧ r.1.L.length = ual

def L.z24 : T27 × T68 × T27 × Bool → (T27 × Int × Int) → Prop := fun ⟨x2v, x5v, x6v, x40⟩ r => ∀ S1 w1, Ext S0 w0 S1 w1 → ∀ gx2 u8k u8l u8m u8n gx5 uan gx6 uao uap uaq (_ : Hp nz wz S1 w1 ((some gx2, .row 28 (.i x2v.Kind :: U4 x2v.Set [.slice (Gp u8k) u8l u8m, .i x2v.Min, .i x2v.Max]) 8 0) :: (u8k, .row 28 u8n (u8m * kT27.size) 0) :: (some gx5, .row 69 [.string x5v.s, .i x5v.at_, .i x5v.deep, uan] 4 0) :: (some gx6, .row 28 (.i x6v.Kind :: U4 x6v.Set [.slice uao uap uaq, .i x6v.Min, .i x6v.Max]) 8 0) :: Lr)) (_ : x2v.Set.length = 4) (_ : Els kT27 S1 w1 u8n x2v.L) (_ : x2v.L.length = u8l) (_ : PtO kT72 S1 w1 uan x5v.bad) (_ : x6v.Set.length = 4) (_ : Rd kT27 S1 w1 uao uaq x6v.L) (_ : x6v.L.length = uap) (junk : Nat → Value),
 Goes Tryd.prog (base 11) Jfb ⟨lfr 50 [(2, (pt gx2 0)), (5, (pt gx5 0)), (6, (pt gx6 0)), (40, .bool x40)] junk, []⟩ w1 (Done Tryd.prog 11 (Rets (Post.z23 nz wz S0 w0 Lr r)))

theorem W.z24 {nz wz S0 w0 Lr} [Gw nz wz] : ∀ a r, M.syntax_Parse_l2 a = some r → L.z24 nz wz S0 w0 Lr a r := by
 intro ⟨x2v, x5v, x6v, x40⟩ r h S1 w1 hx gx2 u8k u8l u8m u8n gx5 uan gx6 uao uap uaq p1 u8q u8r u8s uar uas uat uau junk
 rw [M.syntax_Parse_l2] at h
 try dsimp only at h
 subst u8s
 subst uau
 refine ite_some h (fun h41 h => ?_) (fun h41 h => ?_)
 ·
  rw [h41]
  refine Goes.rn 2 [] Jfd ?_
  have z9 : Ext S1 w1 S1 (w1).drew := Ext.draw
  have p9 := p1.draw
  refine Goes.drawn (s := []) (F := Fc S1 (w1).drew [(⟨gx5, 3, none⟩, uan)]) 8 11 (by kernel_rfl) (by kernel_rfl) (by kernel_rfl) (by kernel_rfl) ?_
  generalize (w1).drew = w9 at z9 p9 ⊢
  refine AnyG.pu 0 (.build 28 #[]) 41 28 (.agg #[.i 0, .u 0, .u 0, .u 0, .u 0, .slice none 0 0, .i 0, .i 0]) (Fc.here (p9.cs [(2, 3, 1)])) ?_
  refine AnyG.pu 1 (.move (.tmp 5)) 42 66 ((pt gx5 0)) (Fc.here (p9.cs [(2, 3, 1)])) ?_
  refine AnyG.pu 2 (.nilCheck (.tmp 42)) 43 0 ((pt gx5 0)) (Fc.here (p9.cs [(2, 3, 1)])) ?_
  refine AnyG.pu 3 (.fieldAddr 69 (.tmp 43) 3) 44 0 ((pt gx5 3)) (Fc.here (p9.cs [(2, 3, 1)])) ?_
  refine AnyG.ld1 (i := 4) 67 (.tmp 44) 45 67 ⟨gx5, 3, none⟩ (uan) (by kernel_rfl) (by kernel_rfl) (Fc.here (p9.cs [(2, 3, 1)])) (by kernel_rfl) (by kernel_rfl) (fun _ h => h.2.at_ 0 rfl) ?_
  refine let_some h fun v48 h42 h => ?_
  rcases v48 with _ | y43
  ·
   try dsimp only at h
   obtain rfl := PtO.nil (uar.ext z9) h42
   cases h
  ·
   try dsimp only at h
   obtain ⟨a45, _, rfl, -, f46, q47⟩ := PtO.got (uar.ext z9) h42
   obtain rfl := q47
   refine AnyG.pu 5 (.nilCheck (.tmp 45)) 46 0 (.pointer (some a45)) (Fc.here (p9.cs [(2, 3, 1)])) ?_
   refine AnyG.pu 6 (.fieldAddr 73 (.tmp 46) 0) 47 0 (.pointer (some (Addr.add a45 0))) (Fc.here (p9.cs [(2, 3, 1)])) ?_
   refine AnyG.ld1 (i := 7) 3 (.tmp 47) 48 3 (Addr.add a45 0) (.i y43.at_) (by kernel_rfl) (by kernel_rfl) (Fc.here (p9.cs [(2, 3, 1)])) (by kernel_rfl) (by kernel_rfl) (fun _ h => (Cs.left (us := [.i y43.at_]) (vs := []) (Cs.add (us := []) (vs := [.i y43.at_]) f46)).fc h 0 _ rfl) ?_
   refine Op_.st 28 (.tmp 2) (.tmp 41) 0 0 gx2 0 (.agg #[.i 0, .u 0, .u 0, .u 0, .u 0, .slice none 0 0, .i 0, .i 0]) [.i 0, .u 0, .u 0, .u 0, .u 0, .slice none 0 0, .i 0, .i 0] p9 rfl (AnyG.ss (i := 8) (by kernel_rfl) (by kernel_rfl)) (by kernel_rfl) (by kernel_rfl) (by kernel_rfl) (by kernel_rfl) (Nat.zero_le _) (by simp only [List.length_cons, List.length_nil]; omega) (by simp [Value.oneCell']) ?_
   intro w10 z10 p10
   have p10 : Hp nz wz S1 w10 ((some gx2, .row 28 [.i 0, .u 0, .u 0, .u 0, .u 0, .slice none 0 0, .i 0, .i 0] 8 0) :: (u8k, .row 28 u8n (u8m * kT27.size) 0) :: (some gx5, .row 69 [.string x5v.s, .i x5v.at_, .i x5v.deep, .pointer (some a45)] 4 0) :: (some gx6, .row 28 (.i x6v.Kind :: U4 x6v.Set [.slice uao x6v.L.length uaq, .i x6v.Min, .i x6v.Max]) 8 0) :: Lr) := p10
   refine AnyG.next z10 ⟨(p10.c 2 3), trivial⟩ ?_
   refine AnyG.pu 9 (.assign (.tmp 48)) 3 3 (.i y43.at_) (Fc.here (p10.cs [(2, 3, 1)])) ?_
   refine AnyG.pu 10 (.assign (.const (.int .i64 100))) 4 29 (.i 100) (Fc.here (p10.cs [(2, 3, 1)])) ?_
   refine AnyG.done (by kernel_rfl) ?_ _
   have p10 := ((p10.dp 1).dp 1).dp 1
   obtain rfl := Option.some.inj h
   exact Goes.ret (fn := Tryd.f11) (by kernel_rfl) (v := .tuple #[.agg #[.i 0, .u 0, .u 0, .u 0, .u 0, .slice none 0 0, .i 0, .i 0], .i y43.at_, .i 100]) (results_n3 (fn := Tryd.f11) (a := .cell 2 28) (b := .tmp 3) (c := .tmp 4) (by kernel_rfl) (resV_cell ⟨gx2, 0, none⟩ (by kernel_rfl) (run_loadN [.i 0, .u 0, .u 0, .u 0, .u 0, .slice none 0 0, .i 0, .i 0] (by kernel_rfl) (by kernel_rfl) (p10.pa 0 0))) (resV_tmp (by kernel_rfl)) (resV_tmp (by kernel_rfl))) ⟨S1, none, 0, 0, rfl, ((hx.trans z9).trans z10), p10.drop, rfl, Rd.none_, rfl⟩
 ·
  have uav : x40 = false := by simpa using h41
  rw [uav]
  refine Goes.rn 4 [] Jff ?_
  refine Goes.ldN 28 (.tmp 6) 49 28 ⟨gx6, 0, none⟩ (.i x6v.Kind :: U4 x6v.Set [.slice uao x6v.L.length uaq, .i x6v.Min, .i x6v.Max]) (p1.pa 3 0) ?_
  refine Op_.st 28 (.tmp 2) (.tmp 49) 0 0 gx2 0 (ag (.i x6v.Kind :: U4 x6v.Set [.slice uao x6v.L.length uaq, .i x6v.Min, .i x6v.Max])) (.i x6v.Kind :: U4 x6v.Set [.slice uao x6v.L.length uaq, .i x6v.Min, .i x6v.Max]) p1 rfl Goes.s (by kernel_rfl) (by kernel_rfl) (by kernel_rfl) (by kernel_rfl) (Nat.zero_le _) (by simp only [List.length_cons, List.length_nil]; omega) (by simp [Value.oneCell']) ?_
  intro w11 z11 p11
  have p11 : Hp nz wz S1 w11 ((some gx2, .row 28 (.i x6v.Kind :: U4 x6v.Set [.slice uao x6v.L.length uaq, .i x6v.Min, .i x6v.Max]) 8 0) :: (u8k, .row 28 u8n (u8m * kT27.size) 0) :: (some gx5, .row 69 [.string x5v.s, .i x5v.at_, .i x5v.deep, uan] 4 0) :: (some gx6, .row 28 (.i x6v.Kind :: U4 x6v.Set [.slice uao x6v.L.length uaq, .i x6v.Min, .i x6v.Max]) 8 0) :: Lr) := p11
  refine Goes.rn 3 [(3, .i 0), (4, .i 0)] Jfe ?_
  obtain rfl := Option.some.inj h
  have p11 := ((p11.dp 1).dp 1).dp 1
  exact Goes.ret (fn := Tryd.f11) (by kernel_rfl) (v := .tuple #[(ag (.i x6v.Kind :: U4 x6v.Set [.slice uao x6v.L.length uaq, .i x6v.Min, .i x6v.Max])), .i 0, .i 0]) (results_n3 (fn := Tryd.f11) (a := .cell 2 28) (b := .tmp 3) (c := .tmp 4) (by kernel_rfl) (resV_cell ⟨gx2, 0, none⟩ (by kernel_rfl) (run_loadN (.i x6v.Kind :: U4 x6v.Set [.slice uao x6v.L.length uaq, .i x6v.Min, .i x6v.Max]) (by kernel_rfl) (by kernel_rfl) (p11.pa 0 0))) (resV_tmp (by kernel_rfl)) (resV_tmp (by kernel_rfl))) ⟨S1, uao, x6v.L.length, uaq, rfl, (hx.trans z11), p11.drop, uas, (uat.ext z11), rfl⟩

def Qcq := sub [1, 1, 1, 1, 1] B11
def Jfg : List Item := [.code Qcq]
def Qcr := sub [1, 1, 1, 1, 1, 0, 0] B11
def Jfh : List Item := .inRegion (opsOf Qcr) [3, 4] :: Jfb

def L.z25 : T27 × T68 × T27 → (T27 × Int × Int) → Prop := fun ⟨x2v, x5v, x6v⟩ r => ∀ S1 w1, Ext S0 w0 S1 w1 → ∀ gx2 u8k u8l u8m u8n gx5 uan gx6 uao uap uaq (_ : Hp nz wz S1 w1 ((some gx2, .row 28 (.i x2v.Kind :: U4 x2v.Set [.slice (Gp u8k) u8l u8m, .i x2v.Min, .i x2v.Max]) 8 0) :: (u8k, .row 28 u8n (u8m * kT27.size) 0) :: (some gx5, .row 69 [.string x5v.s, .i x5v.at_, .i x5v.deep, uan] 4 0) :: (some gx6, .row 28 (.i x6v.Kind :: U4 x6v.Set [.slice uao uap uaq, .i x6v.Min, .i x6v.Max]) 8 0) :: Lr)) (_ : x2v.Set.length = 4) (_ : Els kT27 S1 w1 u8n x2v.L) (_ : x2v.L.length = u8l) (_ : PtO kT72 S1 w1 uan x5v.bad) (_ : x6v.Set.length = 4) (_ : Rd kT27 S1 w1 uao uaq x6v.L) (_ : x6v.L.length = uap) (junk : Nat → Value),
 Goes Tryd.prog (base 11) Jfg ⟨lfr 50 [(2, (pt gx2 0)), (5, (pt gx5 0)), (6, (pt gx6 0))] junk, []⟩ w1 (Done Tryd.prog 11 (Rets (Post.z23 nz wz S0 w0 Lr r)))

theorem W.z25 {nz wz S0 w0 Lr} [Gw nz wz] : ∀ a r, M.syntax_Parse_l1 a = some r → L.z25 nz wz S0 w0 Lr a r := by
 intro ⟨x2v, x5v, x6v⟩ r h S1 w1 hx gx2 u8k u8l u8m u8n gx5 uan gx6 uao uap uaq p1 u8q u8r u8s uar uas uat uau junk
 rw [M.syntax_Parse_l1] at h
 try dsimp only at h
 subst u8s
 subst uau
 refine Goes.rn 6 [(36, (pt gx5 0)), (37, (pt gx5 0)), (38, (pt gx5 3))] Jfh ?_
 refine Goes.ld 67 (.tmp 38) 39 67 ⟨gx5, 3, none⟩ (uan) (p1.c 2 3) ?_
 refine let_some h fun v40 h30 h => ?_
 rcases v40 with _ | y31
 ·
  try dsimp only at h
  obtain rfl := PtO.nil uar h30
  refine Goes.rn 2 [(40, .bool false)] Jfb ?_
  exact Goes.jp 50 [(2, (pt gx2 0)), (5, (pt gx5 0)), (6, (pt gx6 0)), (40, .bool false)] (W.z24 _ _ h _ _ hx gx2 u8k x2v.L.length u8m u8n gx5 (.pointer none) gx6 uao x6v.L.length uaq p1 u8q u8r rfl rfl uas uat rfl)
 ·
  try dsimp only at h
  obtain ⟨a33, _, rfl, -, f34, q35⟩ := PtO.got uar h30
  obtain rfl := q35
  refine Goes.rn 2 [(40, .bool true)] Jfb ?_
  exact Goes.jp 50 [(2, (pt gx2 0)), (5, (pt gx5 0)), (6, (pt gx6 0)), (40, .bool true)] (W.z24 _ _ h _ _ hx gx2 u8k x2v.L.length u8m u8n gx5 (.pointer (some a33)) gx6 uao x6v.L.length uaq p1 u8q u8r rfl ⟨_, _, rfl, List.cons_ne_nil _ _, f34, rfl⟩ uas uat rfl)

def Qcs := sub [1, 1, 1, 1, 0, 1] B11
def Jfi : List Item := .code Qcs :: Jfg
def Qct := sub [1, 1, 1, 1, 0, 1, 0] B11
def Jfj : List Item := .inRegion (opsOf Qct) [4, 5] :: Jfg

def L.z26 : T27 × T68 × T27 × Bool → (T27 × Int × Int) → Prop := fun ⟨x2v, x5v, x6v, x29⟩ r => ∀ S1 w1, Ext S0 w0 S1 w1 → ∀ gx2 u8k u8l u8m u8n gx5 uan gx6 uao uap uaq (_ : Hp nz wz S1 w1 ((some gx2, .row 28 (.i x2v.Kind :: U4 x2v.Set [.slice (Gp u8k) u8l u8m, .i x2v.Min, .i x2v.Max]) 8 0) :: (u8k, .row 28 u8n (u8m * kT27.size) 0) :: (some gx5, .row 69 [.string x5v.s, .i x5v.at_, .i x5v.deep, uan] 4 0) :: (some gx6, .row 28 (.i x6v.Kind :: U4 x6v.Set [.slice uao uap uaq, .i x6v.Min, .i x6v.Max]) 8 0) :: Lr)) (_ : x2v.Set.length = 4) (_ : Els kT27 S1 w1 u8n x2v.L) (_ : x2v.L.length = u8l) (_ : PtO kT72 S1 w1 uan x5v.bad) (_ : x6v.Set.length = 4) (_ : Rd kT27 S1 w1 uao uaq x6v.L) (_ : x6v.L.length = uap) (junk : Nat → Value),
 Goes Tryd.prog (base 11) Jfi ⟨lfr 50 [(2, (pt gx2 0)), (5, (pt gx5 0)), (6, (pt gx6 0)), (29, .bool x29)] junk, []⟩ w1 (Done Tryd.prog 11 (Rets (Post.z23 nz wz S0 w0 Lr r)))

theorem W.z26 {nz wz S0 w0 Lr} [Gw nz wz] : ∀ a r, M.syntax_Parse_l0 a = some r → L.z26 nz wz S0 w0 Lr a r := by
 intro ⟨x2v, x5v, x6v, x29⟩ r h S1 w1 hx gx2 u8k u8l u8m u8n gx5 uan gx6 uao uap uaq p1 u8q u8r u8s uar uas uat uau junk
 rw [M.syntax_Parse_l0] at h
 try dsimp only at h
 subst u8s
 subst uau
 refine ite_some h (fun h23 h => ?_) (fun h23 h => ?_)
 ·
  rw [h23]
  refine Goes.rn 6 [(30, (pt gx5 0)), (31, (pt gx5 0)), (32, (pt gx5 0)), (33, (pt gx5 1))] Jfj ?_
  refine Goes.ld 3 (.tmp 33) 34 3 ⟨gx5, 1, none⟩ (.i x5v.at_) (p1.c 2 1) ?_
  have p1 := p1.fr 2
  refine bind_some' h fun y24 e25 h => ?_
  refine Goes.cal (kc 31 [30, 34] #[66, 3]) 35 28 31 _ (W.zp x5v x5v.at_ y24 e25 gx5 uan p1 uar) ?_
  rintro _ w8 ⟨S8, u4x, u4y, u4z, u50, rfl, z8, p8, u51, u52, rfl, u53⟩
  refine Goes.rn 1 [] Jfg ?_
  have p8 := (((p8.fr 3).fr 1).fr 3).fr 3
  exact Goes.jp 50 [(2, (pt gx2 0)), (5, (pt gx5 0)), (6, (pt gx6 0))] (W.z25 _ _ h _ _ (hx.trans z8) gx2 u8k x2v.L.length u8m u8n gx5 u50 gx6 uao x6v.L.length uaq p8 u8q (u8r.ext z8) rfl u53 uas (uat.ext z8) rfl)
 ·
  have uaw : x29 = false := by simpa using h23
  rw [uaw]
  refine Goes.rn 2 [] Jfg ?_
  exact Goes.jp 50 [(2, (pt gx2 0)), (5, (pt gx5 0)), (6, (pt gx6 0))] (W.z25 _ _ h _ _ hx gx2 u8k x2v.L.length u8m u8n gx5 uan gx6 uao x6v.L.length uaq p1 u8q u8r rfl uar uas uat rfl)

end

end Go.Gx
