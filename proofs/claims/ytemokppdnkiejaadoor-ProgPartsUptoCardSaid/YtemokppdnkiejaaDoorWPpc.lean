import Derived.Test.YtemokppdnkiejaaDoorWPpb

set_option linter.unusedVariables false

set_option maxRecDepth 100000

set_option maxHeartbeats 4000000

namespace Go.Gx

open Go.RowKit Go.Proofs

variable (nz : Nat) (wz : World) (S0 : Fz) (w0 : World) (Lr : List Ent)

noncomputable section

def Qep := sub [1] B54
def Jhu : List Item := [.code Qep]
def Qeq := sub [0] B54
def Jhv : List Item := .inRegion (opsOf Qeq) [0, 1, 2] :: Jhu
def Qer := sub [1, 1] B54
def Jhw : List Item := [.code Qer]
def Qes := sub [1, 0] B54
def Jhx : List Item := .inRegion (opsOf Qes) [0, 1, 2, 3, 4] :: Jhw
def Jhy : List Item := .inRegion (opsOf Qes) [4] :: Jhw

def Post.z25 (gx0 : Nat) (uab : Option Nat) (uac : Nat) (uad : Nat) (uae : List Value) (uaa : List T48) (r : T99) (v : Value) (w' : World) : Prop :=
 ∃ S' uaj, v = .agg #[.i r.n, uaj] ∧ Ext S0 w0 S' w' ∧ Hp nz wz S' w' ((some gx0, .row 78 [.slice (Gp uab) uac uad] 1 0) :: (uab, .row 49 uae (uad * kT48.size) 0) :: Lr) ∧ Rp1 (kC98 gx0) S' w' uaj r.code

theorem W.z25 (uaa : List T48) (x1 : T27) (r : T99) (h : M.prog_writer_of uaa x1 = some r) {nz wz S0 w0 Lr} [Gw nz wz] (gx0 uab uac uad uae uak ual uam) (p0 : Hp nz wz S0 w0 ((some gx0, .row 78 [.slice (Gp uab) uac uad] 1 0) :: (uab, .row 49 uae (uad * kT48.size) 0) :: Lr)) (uaf : Els kT48 S0 w0 uae uaa) (uag : uaa.length = uac) (uah : x1.Set.length = 4) (uan : Rd kT27 S0 w0 uak uam x1.L) (uao : x1.L.length = ual) :
  Calls Tryd.prog 54 #[(pt gx0 0), (ag (.i x1.Kind :: U4 x1.Set [.slice uak ual uam, .i x1.Min, .i x1.Max]))] w0 (Rets (Post.z25 nz wz S0 w0 Lr gx0 uab uac uad uae uaa r)) := by
 subst uag
 subst uao
 refine calls_of_goes (fn := Tryd.f54) (c := B54) (by kernel_rfl) (by kernel_rfl) 7 (by kernel_rfl) ?_
 refine Goes.jp 9 [(0, (pt gx0 0)), (1, (ag (.i x1.Kind :: U4 x1.Set [.slice uak x1.L.length uam, .i x1.Min, .i x1.Max])))] (fun junk => ?_)
 delta M.prog_writer_of at h
 refine Goes.rn 2 [] Jhv ?_
 refine Op_.box 76 (.tmp 0) 2 0 ((pt gx0 0)) [(pt gx0 0)] p0 Goes.v (by kernel_rfl) (by kernel_rfl) ?_
 intro b3 w2 z2 p2
 refine Op_.box 28 (.tmp 1) 3 0 (ag (.i x1.Kind :: U4 x1.Set [.slice uak x1.L.length uam, .i x1.Min, .i x1.Max])) (.i x1.Kind :: U4 x1.Set [.slice uak x1.L.length uam, .i x1.Min, .i x1.Max]) p2 Goes.v (by kernel_rfl) (by kernel_rfl) ?_
 intro b5 w3 z3 p3
 refine Op_.alloc 100 4 0 (.agg #[.i 0, .nilFunc]) [.i 0, .nilFunc] p3 Goes.v (by kernel_rfl) (by kernel_rfl) ?_
 intro b7 w4 z4 p4
 refine Goes.rn 3 [] Jhx ?_
 refine Goes.ldN 28 (.tmp 3) 5 28 ⟨b5, 0, none⟩ (.i x1.Kind :: U4 x1.Set [.slice uak x1.L.length uam, .i x1.Min, .i x1.Max]) (p4.pa 1 0) ?_
 refine bind_some' h fun y9 e10 h => ?_
 refine Goes.cal (kc 38 [5] #[28]) 6 3 38 _ (W.z20 x1 y9 e10 uak x1.L.length uam p4 uah (uan.ext ((z2.trans z3).trans z4)) rfl) ?_
 rintro _ w5 ⟨S5, rfl, z5, p5⟩
 refine Goes.rn 2 [(7, .func (.func 71) #[] #[(pt b3 0), (pt b5 0)]), (8, .agg #[.i y9, .func (.func 71) #[] #[(pt b3 0), (pt b5 0)]])] Jhy ?_
 refine Op_.st 100 (.tmp 4) (.tmp 8) 0 0 b7 0 (.agg #[.i y9, .func (.func 71) #[] #[(pt b3 0), (pt b5 0)]]) [.i y9, .func (.func 71) #[] #[(pt b3 0), (pt b5 0)]] p5 rfl Goes.s (by kernel_rfl) (by kernel_rfl) (by kernel_rfl) (by kernel_rfl) (Nat.zero_le _) (by simp only [List.length_cons, List.length_nil]; omega) (by simp [Value.oneCell']) ?_
 intro w6 z6 p6
 have p6 : Hp nz wz S5 w6 ((some b7, .row 100 [.i y9, .func (.func 71) #[] #[(pt b3 0), (pt b5 0)]] 2 0) :: (some b5, .row 28 (.i x1.Kind :: U4 x1.Set [.slice uak x1.L.length uam, .i x1.Min, .i x1.Max]) 8 0) :: (some b3, .row 76 [(pt gx0 0)] 1 0) :: (some gx0, .row 78 [.slice (Gp uab) uaa.length uad] 1 0) :: (uab, .row 49 uae (uad * kT48.size) 0) :: Lr) := p6
 refine Goes.rn 1 [] Jhw ?_
 obtain ⟨S7, z7, p7, f11⟩ := p6.freezeBlk 2 rfl
 obtain ⟨S8, z8, p8, f12⟩ := p7.freezeBlk 1 rfl
 obtain rfl := Option.some.inj h
 exact Goes.ret (fn := Tryd.f54) (by kernel_rfl) (v := .agg #[.i y9, .func (.func 71) #[] #[(pt b3 0), (pt b5 0)]]) (results_n1 (fn := Tryd.f54) (a := .cell 4 100) (by kernel_rfl) (resV_cell ⟨b7, 0, none⟩ (by kernel_rfl) (run_loadN [.i y9, .func (.func 71) #[] #[(pt b3 0), (pt b5 0)]] (by kernel_rfl) (by kernel_rfl) (p8.pa 0 0)))) ⟨S8, .func (.func 71) #[] #[(pt b3 0), (pt b5 0)], rfl, ((((((((Ext.refl S0 w0).trans z2).trans z3).trans z4).trans z5).trans z6).trans z7).trans z8), p8.drop, (show Rp1 (kC98 gx0) S8 w6 (.func (.func 71) #[] #[(pt b3 0), (pt b5 0)]) ((Sum.inl x1) : T27 ⊕ T27 ⊕ (Int × T27)) from ⟨[(pt b3 0), (pt b5 0)], rfl, ⟨[(pt b3 0)], [(pt b5 0)], rfl, ⟨_, rfl, (f11.ext z8)⟩, ⟨_, _, rfl, List.cons_ne_nil _ _, f12, (kT27_close ⟨[.i x1.Kind], (U4 x1.Set [.slice uak x1.L.length uam, .i x1.Min, .i x1.Max]), rfl, rfl, ⟨(U4 x1.Set []), [.slice uak x1.L.length uam, .i x1.Min, .i x1.Max], rfl, ⟨uah, els_mk4 uah⟩, ⟨[.slice uak x1.L.length uam], [.i x1.Min, .i x1.Max], rfl, ⟨_, _, rfl, (uan.ext ((((((z2.trans z3).trans z4).trans z5).trans z6).trans z7).trans z8))⟩, ⟨[.i x1.Min], [.i x1.Max], rfl, rfl, rfl⟩⟩⟩⟩)⟩⟩⟩)⟩

def Qet := sub [1] B72
def Jhz : List Item := [.code Qet]
def Qeu := sub [0] B72
def Ji0 : List Item := .inRegion (opsOf Qeu) [0, 1, 2] :: Jhz
def Qev := sub [1, 1] B72
def Ji1 : List Item := [.code Qev]
def Qew := sub [1, 0] B72
def Ji2 : List Item := .inRegion (opsOf Qew) [0, 1, 2, 3, 4, 5] :: Ji1
def Ji3 : List Item := .inRegion (opsOf Qew) [5] :: Ji1

def Post.z26 (gx0 : Nat) (uab : Option Nat) (uac : Nat) (uad : Nat) (uae : List Value) (uaa : List T48) (r : T99) (v : Value) (w' : World) : Prop :=
 ∃ S' uaj, v = .agg #[.i r.n, uaj] ∧ Ext S0 w0 S' w' ∧ Hp nz wz S' w' ((some gx0, .row 78 [.slice (Gp uab) uac uad] 1 0) :: (uab, .row 49 uae (uad * kT48.size) 0) :: Lr) ∧ Rp1 (kC98 gx0) S' w' uaj r.code

theorem W.z26 (uaa : List T48) (x1 : T27) (r : T99) (h : M.prog_writer_loop uaa x1 = some r) {nz wz S0 w0 Lr} [Gw nz wz] (gx0 uab uac uad uae uak ual uam) (p0 : Hp nz wz S0 w0 ((some gx0, .row 78 [.slice (Gp uab) uac uad] 1 0) :: (uab, .row 49 uae (uad * kT48.size) 0) :: Lr)) (uaf : Els kT48 S0 w0 uae uaa) (uag : uaa.length = uac) (uah : x1.Set.length = 4) (uan : Rd kT27 S0 w0 uak uam x1.L) (uao : x1.L.length = ual) :
  Calls Tryd.prog 72 #[(pt gx0 0), (ag (.i x1.Kind :: U4 x1.Set [.slice uak ual uam, .i x1.Min, .i x1.Max]))] w0 (Rets (Post.z26 nz wz S0 w0 Lr gx0 uab uac uad uae uaa r)) := by
 subst uag
 subst uao
 refine calls_of_goes (fn := Tryd.f72) (c := B72) (by kernel_rfl) (by kernel_rfl) 8 (by kernel_rfl) ?_
 refine Goes.jp 10 [(0, (pt gx0 0)), (1, (ag (.i x1.Kind :: U4 x1.Set [.slice uak x1.L.length uam, .i x1.Min, .i x1.Max])))] (fun junk => ?_)
 delta M.prog_writer_loop at h
 refine Goes.rn 2 [] Ji0 ?_
 refine Op_.box 76 (.tmp 0) 2 0 ((pt gx0 0)) [(pt gx0 0)] p0 Goes.v (by kernel_rfl) (by kernel_rfl) ?_
 intro b3 w2 z2 p2
 refine Op_.box 28 (.tmp 1) 3 0 (ag (.i x1.Kind :: U4 x1.Set [.slice uak x1.L.length uam, .i x1.Min, .i x1.Max])) (.i x1.Kind :: U4 x1.Set [.slice uak x1.L.length uam, .i x1.Min, .i x1.Max]) p2 Goes.v (by kernel_rfl) (by kernel_rfl) ?_
 intro b5 w3 z3 p3
 refine Op_.alloc 100 4 0 (.agg #[.i 0, .nilFunc]) [.i 0, .nilFunc] p3 Goes.v (by kernel_rfl) (by kernel_rfl) ?_
 intro b7 w4 z4 p4
 refine Goes.rn 3 [] Ji2 ?_
 refine Goes.ldN 28 (.tmp 3) 5 28 ⟨b5, 0, none⟩ (.i x1.Kind :: U4 x1.Set [.slice uak x1.L.length uam, .i x1.Min, .i x1.Max]) (p4.pa 1 0) ?_
 refine bind_some' h fun y9 e10 h => ?_
 refine Goes.cal (kc 38 [5] #[28]) 6 3 38 _ (W.z20 x1 y9 e10 uak x1.L.length uam p4 uah (uan.ext ((z2.trans z3).trans z4)) rfl) ?_
 rintro _ w5 ⟨S5, rfl, z5, p5⟩
 refine Goes.rn 3 [(7, .i (wr .i64 (y9 + 1))), (8, .func (.func 85) #[] #[(pt b3 0), (pt b5 0)]), (9, .agg #[.i (wr .i64 (y9 + 1)), .func (.func 85) #[] #[(pt b3 0), (pt b5 0)]])] Ji3 ?_
 refine Op_.st 100 (.tmp 4) (.tmp 9) 0 0 b7 0 (.agg #[.i (wr .i64 (y9 + 1)), .func (.func 85) #[] #[(pt b3 0), (pt b5 0)]]) [.i (wr .i64 (y9 + 1)), .func (.func 85) #[] #[(pt b3 0), (pt b5 0)]] p5 rfl Goes.s (by kernel_rfl) (by kernel_rfl) (by kernel_rfl) (by kernel_rfl) (Nat.zero_le _) (by simp only [List.length_cons, List.length_nil]; omega) (by simp [Value.oneCell']) ?_
 intro w6 z6 p6
 have p6 : Hp nz wz S5 w6 ((some b7, .row 100 [.i (wr .i64 (y9 + 1)), .func (.func 85) #[] #[(pt b3 0), (pt b5 0)]] 2 0) :: (some b5, .row 28 (.i x1.Kind :: U4 x1.Set [.slice uak x1.L.length uam, .i x1.Min, .i x1.Max]) 8 0) :: (some b3, .row 76 [(pt gx0 0)] 1 0) :: (some gx0, .row 78 [.slice (Gp uab) uaa.length uad] 1 0) :: (uab, .row 49 uae (uad * kT48.size) 0) :: Lr) := p6
 refine Goes.rn 1 [] Ji1 ?_
 obtain ⟨S7, z7, p7, f11⟩ := p6.freezeBlk 2 rfl
 obtain ⟨S8, z8, p8, f12⟩ := p7.freezeBlk 1 rfl
 obtain rfl := Option.some.inj h
 exact Goes.ret (fn := Tryd.f72) (by kernel_rfl) (v := .agg #[.i (wr .i64 (y9 + 1)), .func (.func 85) #[] #[(pt b3 0), (pt b5 0)]]) (results_n1 (fn := Tryd.f72) (a := .cell 4 100) (by kernel_rfl) (resV_cell ⟨b7, 0, none⟩ (by kernel_rfl) (run_loadN [.i (wr .i64 (y9 + 1)), .func (.func 85) #[] #[(pt b3 0), (pt b5 0)]] (by kernel_rfl) (by kernel_rfl) (p8.pa 0 0)))) ⟨S8, .func (.func 85) #[] #[(pt b3 0), (pt b5 0)], rfl, ((((((((Ext.refl S0 w0).trans z2).trans z3).trans z4).trans z5).trans z6).trans z7).trans z8), p8.drop, (show Rp1 (kC98 gx0) S8 w6 (.func (.func 85) #[] #[(pt b3 0), (pt b5 0)]) ((Sum.inr (Sum.inl x1)) : T27 ⊕ T27 ⊕ (Int × T27)) from ⟨[(pt b3 0), (pt b5 0)], rfl, ⟨[(pt b3 0)], [(pt b5 0)], rfl, ⟨_, rfl, (f11.ext z8)⟩, ⟨_, _, rfl, List.cons_ne_nil _ _, f12, (kT27_close ⟨[.i x1.Kind], (U4 x1.Set [.slice uak x1.L.length uam, .i x1.Min, .i x1.Max]), rfl, rfl, ⟨(U4 x1.Set []), [.slice uak x1.L.length uam, .i x1.Min, .i x1.Max], rfl, ⟨uah, els_mk4 uah⟩, ⟨[.slice uak x1.L.length uam], [.i x1.Min, .i x1.Max], rfl, ⟨_, _, rfl, (uan.ext ((((((z2.trans z3).trans z4).trans z5).trans z6).trans z7).trans z8))⟩, ⟨[.i x1.Min], [.i x1.Max], rfl, rfl, rfl⟩⟩⟩⟩)⟩⟩⟩)⟩

def Qex := sub [1] B73
def Ji4 : List Item := [.code Qex]
def Qey := sub [0] B73
def Ji5 : List Item := .inRegion (opsOf Qey) [0, 1, 2, 3] :: Ji4
def Qez := sub [1, 1] B73
def Ji6 : List Item := [.code Qez]
def Qf0 := sub [1, 0] B73
def Ji7 : List Item := .inRegion (opsOf Qf0) [0, 1, 2, 3, 4, 5] :: Ji6
def Ji8 : List Item := .inRegion (opsOf Qf0) [5] :: Ji6

def Post.z27 (gx0 : Nat) (uab : Option Nat) (uac : Nat) (uad : Nat) (uae : List Value) (uaa : List T48) (r : T99) (v : Value) (w' : World) : Prop :=
 ∃ S' uaj, v = .agg #[.i r.n, uaj] ∧ Ext S0 w0 S' w' ∧ Hp nz wz S' w' ((some gx0, .row 78 [.slice (Gp uab) uac uad] 1 0) :: (uab, .row 49 uae (uad * kT48.size) 0) :: Lr) ∧ Rp1 (kC98 gx0) S' w' uaj r.code

theorem W.z27 (uaa : List T48) (x1 : T27) (x2 : Int) (r : T99) (h : M.prog_writer_perhaps uaa x1 x2 = some r) {nz wz S0 w0 Lr} [Gw nz wz] (gx0 uab uac uad uae uak ual uam) (p0 : Hp nz wz S0 w0 ((some gx0, .row 78 [.slice (Gp uab) uac uad] 1 0) :: (uab, .row 49 uae (uad * kT48.size) 0) :: Lr)) (uaf : Els kT48 S0 w0 uae uaa) (uag : uaa.length = uac) (uah : x1.Set.length = 4) (uan : Rd kT27 S0 w0 uak uam x1.L) (uao : x1.L.length = ual) :
  Calls Tryd.prog 73 #[(pt gx0 0), (ag (.i x1.Kind :: U4 x1.Set [.slice uak ual uam, .i x1.Min, .i x1.Max])), .i x2] w0 (Rets (Post.z27 nz wz S0 w0 Lr gx0 uab uac uad uae uaa r)) := by
 subst uag
 subst uao
 refine calls_of_goes (fn := Tryd.f73) (c := B73) (by kernel_rfl) (by kernel_rfl) 9 (by kernel_rfl) ?_
 refine Goes.jp 12 [(0, (pt gx0 0)), (1, (ag (.i x1.Kind :: U4 x1.Set [.slice uak x1.L.length uam, .i x1.Min, .i x1.Max]))), (2, .i x2)] (fun junk => ?_)
 delta M.prog_writer_perhaps at h
 refine Goes.rn 2 [] Ji5 ?_
 refine Op_.box 76 (.tmp 0) 3 0 ((pt gx0 0)) [(pt gx0 0)] p0 Goes.v (by kernel_rfl) (by kernel_rfl) ?_
 intro b3 w2 z2 p2
 refine Op_.box 28 (.tmp 1) 4 0 (ag (.i x1.Kind :: U4 x1.Set [.slice uak x1.L.length uam, .i x1.Min, .i x1.Max])) (.i x1.Kind :: U4 x1.Set [.slice uak x1.L.length uam, .i x1.Min, .i x1.Max]) p2 Goes.v (by kernel_rfl) (by kernel_rfl) ?_
 intro b5 w3 z3 p3
 refine Op_.box 3 (.tmp 2) 5 0 (.i x2) [.i x2] p3 Goes.v (by kernel_rfl) (by kernel_rfl) ?_
 intro b7 w4 z4 p4
 refine Op_.alloc 100 6 0 (.agg #[.i 0, .nilFunc]) [.i 0, .nilFunc] p4 Goes.v (by kernel_rfl) (by kernel_rfl) ?_
 intro b9 w5 z5 p5
 refine Goes.rn 3 [] Ji7 ?_
 refine Goes.ldN 28 (.tmp 4) 7 28 ⟨b5, 0, none⟩ (.i x1.Kind :: U4 x1.Set [.slice uak x1.L.length uam, .i x1.Min, .i x1.Max]) (p5.pa 2 0) ?_
 refine bind_some' h fun y11 e12 h => ?_
 refine Goes.cal (kc 38 [7] #[28]) 8 3 38 _ (W.z20 x1 y11 e12 uak x1.L.length uam p5 uah (uan.ext (((z2.trans z3).trans z4).trans z5)) rfl) ?_
 rintro _ w6 ⟨S6, rfl, z6, p6⟩
 refine Goes.rn 3 [(9, .i (wr .i64 (y11 + 1))), (10, .func (.func 86) #[] #[(pt b3 0), (pt b7 0), (pt b5 0)]), (11, .agg #[.i (wr .i64 (y11 + 1)), .func (.func 86) #[] #[(pt b3 0), (pt b7 0), (pt b5 0)]])] Ji8 ?_
 refine Op_.st 100 (.tmp 6) (.tmp 11) 0 0 b9 0 (.agg #[.i (wr .i64 (y11 + 1)), .func (.func 86) #[] #[(pt b3 0), (pt b7 0), (pt b5 0)]]) [.i (wr .i64 (y11 + 1)), .func (.func 86) #[] #[(pt b3 0), (pt b7 0), (pt b5 0)]] p6 rfl Goes.s (by kernel_rfl) (by kernel_rfl) (by kernel_rfl) (by kernel_rfl) (Nat.zero_le _) (by simp only [List.length_cons, List.length_nil]; omega) (by simp [Value.oneCell']) ?_
 intro w7 z7 p7
 have p7 : Hp nz wz S6 w7 ((some b9, .row 100 [.i (wr .i64 (y11 + 1)), .func (.func 86) #[] #[(pt b3 0), (pt b7 0), (pt b5 0)]] 2 0) :: (some b7, .row 3 [.i x2] 1 0) :: (some b5, .row 28 (.i x1.Kind :: U4 x1.Set [.slice uak x1.L.length uam, .i x1.Min, .i x1.Max]) 8 0) :: (some b3, .row 76 [(pt gx0 0)] 1 0) :: (some gx0, .row 78 [.slice (Gp uab) uaa.length uad] 1 0) :: (uab, .row 49 uae (uad * kT48.size) 0) :: Lr) := p7
 refine Goes.rn 1 [] Ji6 ?_
 obtain ⟨S8, z8, p8, f13⟩ := p7.freezeBlk 3 rfl
 obtain ⟨S9, z9, p9, f14⟩ := p8.freezeBlk 1 rfl
 obtain ⟨S10, z10, p10, f15⟩ := p9.freezeBlk 1 rfl
 obtain rfl := Option.some.inj h
 exact Goes.ret (fn := Tryd.f73) (by kernel_rfl) (v := .agg #[.i (wr .i64 (y11 + 1)), .func (.func 86) #[] #[(pt b3 0), (pt b7 0), (pt b5 0)]]) (results_n1 (fn := Tryd.f73) (a := .cell 6 100) (by kernel_rfl) (resV_cell ⟨b9, 0, none⟩ (by kernel_rfl) (run_loadN [.i (wr .i64 (y11 + 1)), .func (.func 86) #[] #[(pt b3 0), (pt b7 0), (pt b5 0)]] (by kernel_rfl) (by kernel_rfl) (p10.pa 0 0)))) ⟨S10, .func (.func 86) #[] #[(pt b3 0), (pt b7 0), (pt b5 0)], rfl, ((((((((((Ext.refl S0 w0).trans z2).trans z3).trans z4).trans z5).trans z6).trans z7).trans z8).trans z9).trans z10), p10.drop, (show Rp1 (kC98 gx0) S10 w7 (.func (.func 86) #[] #[(pt b3 0), (pt b7 0), (pt b5 0)]) ((Sum.inr (Sum.inr (x2, x1))) : T27 ⊕ T27 ⊕ (Int × T27)) from ⟨[(pt b3 0), (pt b7 0), (pt b5 0)], rfl, ⟨[(pt b3 0)], [(pt b7 0), (pt b5 0)], rfl, ⟨_, rfl, (f13.ext (z9.trans z10))⟩, ⟨[(pt b7 0)], [(pt b5 0)], rfl, ⟨_, _, rfl, List.cons_ne_nil _ _, (f14.ext z10), rfl⟩, ⟨_, _, rfl, List.cons_ne_nil _ _, f15, (kT27_close ⟨[.i x1.Kind], (U4 x1.Set [.slice uak x1.L.length uam, .i x1.Min, .i x1.Max]), rfl, rfl, ⟨(U4 x1.Set []), [.slice uak x1.L.length uam, .i x1.Min, .i x1.Max], rfl, ⟨uah, els_mk4 uah⟩, ⟨[.slice uak x1.L.length uam], [.i x1.Min, .i x1.Max], rfl, ⟨_, _, rfl, (uan.ext ((((((((z2.trans z3).trans z4).trans z5).trans z6).trans z7).trans z8).trans z9).trans z10))⟩, ⟨[.i x1.Min], [.i x1.Max], rfl, rfl, rfl⟩⟩⟩⟩)⟩⟩⟩⟩)⟩

def Qf1 := sub [1, 1, 1, 1, 1, 1] B55
def Ji9 : List Item := [.code Qf1]
def Jia : List Item := .inBlock 2 :: Ji9
def Qf2 := sub [1, 1, 1, 1, 1, 0, 1, 0, 0] B55
def Jib : List Item := .inLoop Qf2 :: Jia
def Jic : List Item := .code Qf2 :: Jib
def Qf3 := sub [1, 1, 1, 1, 1, 0, 1, 0, 0, 1, 1] B55
def Jid : List Item := .code Qf3 :: Jib
def Qf4 := sub [1, 1, 1, 1, 1, 0, 1, 0, 0, 1, 0] B55
def Jie : List Item := .code Qf4 :: Jid
def Qf5 := sub [1, 1, 1, 1, 1, 0, 1, 0, 0, 1, 1, 1] B55
def Jif : List Item := .code Qf5 :: Jib
def Jig : List Item := .inBlock 3 :: Jif
def Qf6 := sub [1, 1, 1, 1, 1, 0, 1, 0, 0, 1, 1, 0, 0] B55
def Jih : List Item := .inRegion (opsOf Qf6) [2, 3, 4, 5, 6, 7] :: Jig
def Jii : List Item := .inRegion (opsOf Qf6) [4, 5, 6, 7] :: Jig
def Qf7 := sub [1, 1, 1, 1, 1, 1, 1] B55
def Jij : List Item := [.code Qf7]

def Post.z28 (gx0 : Nat) (uab : Option Nat) (uac : Nat) (uad : Nat) (uae : List Value) (uaa : List T48) (r : List T99) (v : Value) (w' : World) : Prop :=
 ∃ S' Gq nq cq csq, v = .slice (Gp Gq) nq cq ∧ Ext S0 w0 S' w' ∧ Hp nz wz S' w' ((Gq, .row 100 csq (cq * (kT99 gx0).size) 0) :: (some gx0, .row 78 [.slice (Gp uab) uac uad] 1 0) :: (uab, .row 49 uae (uad * kT48.size) 0) :: Lr) ∧ Els (kT99 gx0) S' w' csq r ∧ r.length = nq

def L.z29 (gx0 : Nat) (uab : Option Nat) (uac : Nat) (uad : Nat) (uae : List Value) : Int × (List T99) × T27 × Int × Int × (List T48) → (List T99) → Prop := fun ⟨x2, x7, x8v, x37, x38, uaa⟩ r => ∀ S1 w1, Ext S0 w0 S1 w1 → ∀ Gx7 nx7 cx7 uap gx8 uaq uar uas (_ : Hp nz wz S1 w1 ((Gx7, .row 100 uap (cx7 * (kT99 gx0).size) 0) :: (some gx8, .row 28 (.i x8v.Kind :: U4 x8v.Set [.slice uaq uar uas, .i x8v.Min, .i x8v.Max]) 8 0) :: (some gx0, .row 78 [.slice (Gp uab) uac uad] 1 0) :: (uab, .row 49 uae (uad * kT48.size) 0) :: Lr)) (_ : Els (kT99 gx0) S1 w1 uap x7) (_ : x7.length = nx7) (_ : x8v.Set.length = 4) (_ : Rd kT27 S1 w1 uaq uas x8v.L) (_ : x8v.L.length = uar) (_ : Els kT48 S1 w1 uae uaa) (_ : uaa.length = uac) (junk : Nat → Value),
 Goes Tryd.prog (base 55) Jic ⟨lfr 49 [(0, (pt gx0 0)), (2, .i x2), (7, .slice (Gp Gx7) nx7 cx7), (8, (pt gx8 0)), (37, .i x37), (38, .i x38)] junk, []⟩ w1 (Done Tryd.prog 55 (Rets (Post.z28 nz wz S0 w0 Lr gx0 uab uac uad uae uaa r)))

theorem W.z29 {nz wz S0 w0 Lr} [Gw nz wz] (gx0 : Nat) (uab : Option Nat) (uac : Nat) (uad : Nat) (uae : List Value) : ∀ a r, M.prog_writer_times_l3 a = some r → (L.z29 nz wz S0 w0 Lr gx0 uab uac uad uae) a r := by
 refine M.prog_writer_times_l3.partial_correctness (motive := (L.z29 nz wz S0 w0 Lr gx0 uab uac uad uae)) ?_
 intro uat uau ⟨x2, x7, x8v, x37, x38, uaa⟩ r h S1 w1 hx Gx7 nx7 cx7 uap gx8 uaq uar uas p1 fx7 lx7 uav uaw uax fs5 ls5 junk
 try dsimp only at h
 subst lx7
 subst uax
 subst ls5
 refine Goes.rn 5 [(39, .bool (decide (x38 < x37)))] Jie ?_
 refine ite_some h (fun h99 h => ?_) (fun h99 h => ?_)
 ·
  rw [decide_eq_true h99]
  refine Goes.rn 7 [(40, .slice (Gp Gx7) x7.length cx7), (41, (pt gx0 0))] Jih ?_
  refine Goes.ldN 28 (.tmp 8) 42 28 ⟨gx8, 0, none⟩ (.i x8v.Kind :: U4 x8v.Set [.slice uaq x8v.L.length uas, .i x8v.Min, .i x8v.Max]) (p1.pa 1 0) ?_
  refine Goes.rn 1 [(43, .i x2)] Jii ?_
  have p1 := (p1.fr 3).fr 3
  refine bind_some' h fun uay uaz h => ?_
  refine Goes.cal (kc 73 [41, 42, 43] #[76, 28, 3]) 44 100 73 _ (W.z27 uaa x8v x2 uay uaz gx0 uab uaa.length uad uae uaq x8v.L.length uas p1 fs5 rfl uav uaw rfl) ?_
  rintro _ w20 ⟨S20, ub0, rfl, z20, p20, ub1⟩
  have ub2 : Els (kT99 gx0) S20 w20 ([.i uay.n, ub0] : List Value) [uay] := by exact (Els.cons (K := (kT99 gx0)) (vs := [.i uay.n, ub0]) (x := uay) ⟨[.i uay.n], [ub0], rfl, rfl, ub1⟩ Els.nil)
  refine Op_.made (.buildSlice 95 1 #[(0, (.tmp 44))]) 45 95 (fun b => .slice (Gp (some b)) 1 1) 100 ([.i uay.n, ub0] : List Value) p20 Goes.v (by kernel_rfl) ?_
  intro ub3 w21 z21 p21
  have p21 : Hp nz wz S20 w21 (((some ub3), .row 100 ([.i uay.n, ub0] : List Value) (1 * (kT99 gx0).size) 0) :: (some gx0, .row 78 [.slice (Gp uab) uaa.length uad] 1 0) :: (uab, .row 49 uae (uad * kT48.size) 0) :: (Gx7, .row 100 uap (cx7 * (kT99 gx0).size) 0) :: (some gx8, .row 28 (.i x8v.Kind :: U4 x8v.Set [.slice uaq x8v.L.length uas, .i x8v.Min, .i x8v.Max]) 8 0) :: Lr) := p21
  refine guard_some' h fun ub4 h => ?_
  refine Op_.ap_n (K := (kT99 gx0)) 95 (.tmp 40) (.tmp 45) 46 95 100 3 (.agg #[.i 0, .nilFunc]) 16 x7.length cx7 1 x7 [uay] (x7 ++ [uay]) (Gp (some ub3)) 1 rfl rfl rfl p21 rfl (fx7.ext (z20.trans z21)) Goes.v (by kernel_rfl) (by kernel_rfl) (by kernel_rfl) (by kernel_rfl) rfl (show (0 : Nat) < 2 by decide) (ub2.ext z21) (src_own p21 (q := 0) rfl) (by have := ub4; omega) (by have := ub4; omega) ?_
  intro w22 ub5 ub6 ub7 z22 p22 ub8
  refine Goes.rn 8 [(7, .slice (Gp ub5) ((x7 ++ [uay]).length) ub6), (47, .i (wr .i64 (x38 + 1))), (38, .i (wr .i64 (x38 + 1)))] Jic ?_
  have p22 := p22.dp 0
  have p22 := (((p22.fr 1).fr 1).fr 3).fr 3
  exact Goes.jp 49 [(0, (pt gx0 0)), (2, .i x2), (7, .slice (Gp ub5) ((x7 ++ [uay]).length) ub6), (8, (pt gx8 0)), (37, .i x37), (38, .i (wr .i64 (x38 + 1)))] (uau _ _ h _ _ (((hx.trans z20).trans z21).trans z22) ub5 ((x7 ++ [uay]).length) ub6 ub7 gx8 uaq x8v.L.length uas p22 ub8 rfl uav (uaw.ext ((z20.trans z21).trans z22)) rfl (fs5.ext ((z20.trans z21).trans z22)) rfl)
 ·
  rw [decide_eq_false h99]
  refine Goes.rn 7 [(48, .slice (Gp Gx7) x7.length cx7), (6, .slice (Gp Gx7) x7.length cx7)] Jij ?_
  obtain rfl := Option.some.inj h
  have p1 := p1.dp 1
  exact Goes.rt Tryd.f55 (.slice (Gp Gx7) x7.length cx7) ⟨S1, Gx7, x7.length, cx7, uap, rfl, hx, p1, fx7, rfl⟩

def Qf8 := sub [1, 1, 1, 1] B55
def Jik : List Item := [.code Qf8]
def Jil : List Item := .inBlock 0 :: Jik
def Qf9 := sub [1, 1, 1, 0, 1, 0, 0] B55
def Jim : List Item := .inLoop Qf9 :: Jil
def Jin : List Item := .code Qf9 :: Jim
def Qfa := sub [1, 1, 1, 0, 1, 0, 0, 1, 1] B55
def Jio : List Item := .code Qfa :: Jim
def Qfb := sub [1, 1, 1, 0, 1, 0, 0, 1, 0] B55
def Jip : List Item := .code Qfb :: Jio
def Qfc := sub [1, 1, 1, 0, 1, 0, 0, 1, 1, 1] B55
def Jiq : List Item := .code Qfc :: Jim
def Jir : List Item := .inBlock 1 :: Jiq
def Qfd := sub [1, 1, 1, 0, 1, 0, 0, 1, 1, 0, 0] B55
def Jis : List Item := .inRegion (opsOf Qfd) [2, 3, 4, 5, 6] :: Jir
def Qfe := sub [1, 1, 1, 1, 1] B55
def Jit : List Item := [.code Qfe]
def Qff := sub [1, 1, 1, 1, 0, 1] B55
def Jiu : List Item := .code Qff :: Jit
def Qfg := sub [1, 1, 1, 1, 0, 0] B55
def Jiv : List Item := .inRegion (opsOf Qfg) [1, 2] :: Jiu
def Qfh := sub [1, 1, 1, 1, 0, 1, 0, 1] B55
def Jiw : List Item := .code Qfh :: Jit
def Qfi := sub [1, 1, 1, 1, 0, 1, 0, 0] B55
def Jix : List Item := .inRegion (opsOf Qfi) [2, 3, 4, 5, 6] :: Jiw
def Qfj := sub [1, 1, 1, 1, 1, 0, 1] B55
def Jiy : List Item := .code Qfj :: Ji9
def Qfk := sub [1, 1, 1, 1, 1, 0, 0] B55
def Jiz : List Item := .inRegion (opsOf Qfk) [1, 2, 3, 4, 5] :: Jiy
def Jj0 : List Item := .inRegion (opsOf Qfk) [3, 4, 5] :: Jiy

def L.z2a (gx0 : Nat) (uab : Option Nat) (uac : Nat) (uad : Nat) (uae : List Value) : Int × T27 × (List T99) × T27 × Int × Int × (List T48) → (List T99) → Prop := fun ⟨x2, x4v, x7, x8v, x14, x15, uaa⟩ r => ∀ S1 w1, Ext S0 w0 S1 w1 → ∀ gx4 ub9 uba ubb Gx7 nx7 cx7 uap gx8 uaq uar uas (_ : Hp nz wz S1 w1 ((some gx4, .row 28 (.i x4v.Kind :: U4 x4v.Set [.slice ub9 uba ubb, .i x4v.Min, .i x4v.Max]) 8 0) :: (Gx7, .row 100 uap (cx7 * (kT99 gx0).size) 0) :: (some gx8, .row 28 (.i x8v.Kind :: U4 x8v.Set [.slice uaq uar uas, .i x8v.Min, .i x8v.Max]) 8 0) :: (some gx0, .row 78 [.slice (Gp uab) uac uad] 1 0) :: (uab, .row 49 uae (uad * kT48.size) 0) :: Lr)) (_ : x4v.Set.length = 4) (_ : Rd kT27 S1 w1 ub9 ubb x4v.L) (_ : x4v.L.length = uba) (_ : Els (kT99 gx0) S1 w1 uap x7) (_ : x7.length = nx7) (_ : x8v.Set.length = 4) (_ : Rd kT27 S1 w1 uaq uas x8v.L) (_ : x8v.L.length = uar) (_ : Els kT48 S1 w1 uae uaa) (_ : uaa.length = uac) (junk : Nat → Value),
 Goes Tryd.prog (base 55) Jin ⟨lfr 49 [(0, (pt gx0 0)), (2, .i x2), (4, (pt gx4 0)), (7, .slice (Gp Gx7) nx7 cx7), (8, (pt gx8 0)), (14, .i x14), (15, .i x15)] junk, []⟩ w1 (Done Tryd.prog 55 (Rets (Post.z28 nz wz S0 w0 Lr gx0 uab uac uad uae uaa r)))

theorem W.z2a {nz wz S0 w0 Lr} [Gw nz wz] (gx0 : Nat) (uab : Option Nat) (uac : Nat) (uad : Nat) (uae : List Value) : ∀ a r, M.prog_writer_times_l1 a = some r → (L.z2a nz wz S0 w0 Lr gx0 uab uac uad uae) a r := by
 refine M.prog_writer_times_l1.partial_correctness (motive := (L.z2a nz wz S0 w0 Lr gx0 uab uac uad uae)) ?_
 intro ubc ubd ⟨x2, x4v, x7, x8v, x14, x15, uaa⟩ r h S1 w1 hx gx4 ub9 uba ubb Gx7 nx7 cx7 uap gx8 uaq uar uas p1 ube ubf ubg fx7 lx7 uav uaw uax fs8 ls8 junk
 try dsimp only at h
 subst ubg
 subst lx7
 subst uax
 subst ls8
 refine Goes.rn 5 [(16, .bool (decide (x15 < x14)))] Jip ?_
 refine ite_some h (fun h53 h => ?_) (fun h53 h => ?_)
 ·
  rw [decide_eq_true h53]
  refine Goes.rn 7 [(17, .slice (Gp Gx7) x7.length cx7), (18, (pt gx0 0))] Jis ?_
  refine Goes.ldN 28 (.tmp 8) 19 28 ⟨gx8, 0, none⟩ (.i x8v.Kind :: U4 x8v.Set [.slice uaq x8v.L.length uas, .i x8v.Min, .i x8v.Max]) (p1.pa 2 0) ?_
  have p1 := (p1.fr 4).fr 4
  refine bind_some' h fun y54 e55 h => ?_
  refine Goes.cal (kc 54 [18, 19] #[76, 28]) 20 100 54 _ (W.z25 uaa x8v y54 e55 gx0 uab uaa.length uad uae uaq x8v.L.length uas p1 fs8 rfl uav uaw rfl) ?_
  rintro _ w11 ⟨S11, ubh, rfl, z11, p11, ubi⟩
  have f57 : Els (kT99 gx0) S11 w11 ([.i y54.n, ubh] : List Value) [y54] := by exact (Els.cons (K := (kT99 gx0)) (vs := [.i y54.n, ubh]) (x := y54) ⟨[.i y54.n], [ubh], rfl, rfl, ubi⟩ Els.nil)
  refine Op_.made (.buildSlice 95 1 #[(0, (.tmp 20))]) 21 95 (fun b => .slice (Gp (some b)) 1 1) 100 ([.i y54.n, ubh] : List Value) p11 Goes.v (by kernel_rfl) ?_
  intro b56 w12 z12 p12
  have p12 : Hp nz wz S11 w12 (((some b56), .row 100 ([.i y54.n, ubh] : List Value) (1 * (kT99 gx0).size) 0) :: (some gx0, .row 78 [.slice (Gp uab) uaa.length uad] 1 0) :: (uab, .row 49 uae (uad * kT48.size) 0) :: (some gx4, .row 28 (.i x4v.Kind :: U4 x4v.Set [.slice ub9 x4v.L.length ubb, .i x4v.Min, .i x4v.Max]) 8 0) :: (Gx7, .row 100 uap (cx7 * (kT99 gx0).size) 0) :: (some gx8, .row 28 (.i x8v.Kind :: U4 x8v.Set [.slice uaq x8v.L.length uas, .i x8v.Min, .i x8v.Max]) 8 0) :: Lr) := p12
  refine guard_some' h fun g62 h => ?_
  refine Op_.ap_n (K := (kT99 gx0)) 95 (.tmp 17) (.tmp 21) 22 95 100 4 (.agg #[.i 0, .nilFunc]) 16 x7.length cx7 1 x7 [y54] (x7 ++ [y54]) (Gp (some b56)) 1 rfl rfl rfl p12 rfl (fx7.ext (z11.trans z12)) Goes.v (by kernel_rfl) (by kernel_rfl) (by kernel_rfl) (by kernel_rfl) rfl (show (0 : Nat) < 2 by decide) (f57.ext z12) (src_own p12 (q := 0) rfl) (by have := g62; omega) (by have := g62; omega) ?_
  intro w13 G63 c64 ubj z13 p13 f66
  refine Goes.rn 8 [(7, .slice (Gp G63) ((x7 ++ [y54]).length) c64), (23, .i (wr .i64 (x15 + 1))), (15, .i (wr .i64 (x15 + 1)))] Jin ?_
  have p13 := p13.dp 0
  have p13 := ((((p13.fr 1).fr 1).fr 4).fr 4).fr 4
  exact Goes.jp 49 [(0, (pt gx0 0)), (2, .i x2), (4, (pt gx4 0)), (7, .slice (Gp G63) ((x7 ++ [y54]).length) c64), (8, (pt gx8 0)), (14, .i x14), (15, .i (wr .i64 (x15 + 1)))] (ubd _ _ h _ _ (((hx.trans z11).trans z12).trans z13) gx4 ub9 x4v.L.length ubb G63 ((x7 ++ [y54]).length) c64 ubj gx8 uaq x8v.L.length uas p13 ube (ubf.ext ((z11.trans z12).trans z13)) rfl f66 rfl uav (uaw.ext ((z11.trans z12).trans z13)) rfl (fs8.ext ((z11.trans z12).trans z13)) rfl)
 ·
  rw [decide_eq_false h53]
  refine Goes.rn 6 [(24, (pt gx4 7))] Jiv ?_
  refine Goes.ld 3 (.tmp 24) 25 3 ⟨gx4, 7, none⟩ (.i x4v.Max) (p1.c 0 7) ?_
  refine Goes.rn 2 [(26, .bool (decide (x4v.Max < 0)))] Jiu ?_
  refine ite_some h (fun h67 h => ?_) (fun h67 h => ?_)
  ·
   rw [decide_eq_true h67]
   refine Goes.rn 5 [(27, .slice (Gp Gx7) x7.length cx7), (28, (pt gx0 0))] Jix ?_
   refine Goes.ldN 28 (.tmp 8) 29 28 ⟨gx8, 0, none⟩ (.i x8v.Kind :: U4 x8v.Set [.slice uaq x8v.L.length uas, .i x8v.Min, .i x8v.Max]) (p1.pa 2 0) ?_
   have p1 := (p1.fr 4).fr 4
   refine bind_some' h fun y68 e69 h => ?_
   refine Goes.cal (kc 72 [28, 29] #[76, 28]) 30 100 72 _ (W.z26 uaa x8v y68 e69 gx0 uab uaa.length uad uae uaq x8v.L.length uas p1 fs8 rfl uav uaw rfl) ?_
   rintro _ w14 ⟨S14, ubk, rfl, z14, p14, ubl⟩
   have p14 := (p14.dp 2).dp 3
   have f71 : Els (kT99 gx0) S14 w14 ([.i y68.n, ubk] : List Value) [y68] := by exact (Els.cons (K := (kT99 gx0)) (vs := [.i y68.n, ubk]) (x := y68) ⟨[.i y68.n], [ubk], rfl, rfl, ubl⟩ Els.nil)
   refine Op_.made (.buildSlice 95 1 #[(0, (.tmp 30))]) 31 95 (fun b => .slice (Gp (some b)) 1 1) 100 ([.i y68.n, ubk] : List Value) p14 Goes.v (by kernel_rfl) ?_
   intro b70 w15 z15 p15
   have p15 : Hp nz wz S14 w15 (((some b70), .row 100 ([.i y68.n, ubk] : List Value) (1 * (kT99 gx0).size) 0) :: (some gx0, .row 78 [.slice (Gp uab) uaa.length uad] 1 0) :: (uab, .row 49 uae (uad * kT48.size) 0) :: (Gx7, .row 100 uap (cx7 * (kT99 gx0).size) 0) :: Lr) := p15
   refine guard_some' h fun g76 h => ?_
   refine Op_.ap_n (K := (kT99 gx0)) 95 (.tmp 27) (.tmp 31) 32 95 100 3 (.agg #[.i 0, .nilFunc]) 16 x7.length cx7 1 x7 [y68] (x7 ++ [y68]) (Gp (some b70)) 1 rfl rfl rfl p15 rfl (fx7.ext (z14.trans z15)) Goes.v (by kernel_rfl) (by kernel_rfl) (by kernel_rfl) (by kernel_rfl) rfl (show (0 : Nat) < 2 by decide) (f71.ext z15) (src_own p15 (q := 0) rfl) (by have := g76; omega) (by have := g76; omega) ?_
   intro w16 G77 c78 ubm z16 p16 f80
   refine Goes.rn 2 [(6, .slice (Gp G77) ((x7 ++ [y68]).length) c78)] Jiw ?_
   obtain rfl := Option.some.inj h
   have p16 := p16.dp 0
   have p16 := ((p16.fr 1).fr 1).fr 2
   exact Goes.rt Tryd.f55 (.slice (Gp G77) ((x7 ++ [y68]).length) c78) ⟨S14, G77, (x7 ++ [y68]).length, c78, ubm, rfl, (((hx.trans z14).trans z15).trans z16), p16, f80, rfl⟩
  ·
   rw [decide_eq_false h67]
   refine Goes.rn 6 [(33, (pt gx4 7))] Jiz ?_
   refine Goes.ld 3 (.tmp 33) 34 3 ⟨gx4, 7, none⟩ (.i x4v.Max) (p1.c 0 7) ?_
   refine Goes.rn 1 [(35, (pt gx4 6))] Jj0 ?_
   refine Goes.ld 3 (.tmp 35) 36 3 ⟨gx4, 6, none⟩ (.i x4v.Min) (p1.c 0 6) ?_
   refine Goes.rn 5 [(37, .i (wr .i64 (x4v.Max - x4v.Min))), (38, .i 0)] Jic ?_
   have p1 := p1.dp 0
   exact Goes.jp 49 [(0, (pt gx0 0)), (2, .i x2), (7, .slice (Gp Gx7) x7.length cx7), (8, (pt gx8 0)), (37, .i (wr .i64 (x4v.Max - x4v.Min))), (38, .i 0)] (W.z29 gx0 uab uaa.length uad uae _ _ h _ _ hx Gx7 x7.length cx7 uap gx8 uaq x8v.L.length uas p1 fx7 rfl uav uaw rfl fs8 rfl)

def L.z2b (gx0 : Nat) (uab : Option Nat) (uac : Nat) (uad : Nat) (uae : List Value) : Int × T27 × Int × Int × (List T48) → (List T99) → Prop := fun ⟨x2, x8v, x37, x38, uaa⟩ r => ∀ S1 w1, Ext S0 w0 S1 w1 → ∀ gx8 uaq uar uas (_ : Hp nz wz S1 w1 ((some gx8, .row 28 (.i x8v.Kind :: U4 x8v.Set [.slice uaq uar uas, .i x8v.Min, .i x8v.Max]) 8 0) :: (some gx0, .row 78 [.slice (Gp uab) uac uad] 1 0) :: (uab, .row 49 uae (uad * kT48.size) 0) :: Lr)) (_ : x8v.Set.length = 4) (_ : Rd kT27 S1 w1 uaq uas x8v.L) (_ : x8v.L.length = uar) (_ : Els kT48 S1 w1 uae uaa) (_ : uaa.length = uac) (junk : Nat → Value),
 Goes Tryd.prog (base 55) Jic ⟨lfr 49 [(0, (pt gx0 0)), (2, .i x2), (7, .slice none 0 0), (8, (pt gx8 0)), (37, .i x37), (38, .i x38)] junk, []⟩ w1 (Done Tryd.prog 55 (Rets (Post.z28 nz wz S0 w0 Lr gx0 uab uac uad uae uaa r)))

theorem W.z2b {nz wz S0 w0 Lr} [Gw nz wz] (gx0 : Nat) (uab : Option Nat) (uac : Nat) (uad : Nat) (uae : List Value) : ∀ a r, M.prog_writer_times_l2 a = some r → L.z2b nz wz S0 w0 Lr gx0 uab uac uad uae a r := by
 intro ⟨x2, x8v, x37, x38, uaa⟩ r h S1 w1 hx gx8 uaq uar uas p1 uav uaw uax fs3 ls3 junk
 rw [M.prog_writer_times_l2] at h
 try dsimp only at h
 subst uax
 subst ls3
 refine Goes.rn 5 [(39, .bool (decide (x38 < x37)))] Jie ?_
 refine ite_some h (fun h83 h => ?_) (fun h83 h => ?_)
 ·
  rw [decide_eq_true h83]
  refine Goes.rn 7 [(40, .slice none 0 0), (41, (pt gx0 0))] Jih ?_
  refine Goes.ldN 28 (.tmp 8) 42 28 ⟨gx8, 0, none⟩ (.i x8v.Kind :: U4 x8v.Set [.slice uaq x8v.L.length uas, .i x8v.Min, .i x8v.Max]) (p1.pa 0 0) ?_
  refine Goes.rn 1 [(43, .i x2)] Jii ?_
  have p1 := (p1.fr 2).fr 2
  refine bind_some' h fun y84 e85 h => ?_
  refine Goes.cal (kc 73 [41, 42, 43] #[76, 28, 3]) 44 100 73 _ (W.z27 uaa x8v x2 y84 e85 gx0 uab uaa.length uad uae uaq x8v.L.length uas p1 fs3 rfl uav uaw rfl) ?_
  rintro _ w17 ⟨S17, ubn, rfl, z17, p17, ubo⟩
  have f87 : Els (kT99 gx0) S17 w17 ([.i y84.n, ubn] : List Value) [y84] := by exact (Els.cons (K := (kT99 gx0)) (vs := [.i y84.n, ubn]) (x := y84) ⟨[.i y84.n], [ubn], rfl, rfl, ubo⟩ Els.nil)
  refine Op_.made (.buildSlice 95 1 #[(0, (.tmp 44))]) 45 95 (fun b => .slice (Gp (some b)) 1 1) 100 ([.i y84.n, ubn] : List Value) p17 Goes.v (by kernel_rfl) ?_
  intro b86 w18 z18 p18
  have p18 : Hp nz wz S17 w18 (((some b86), .row 100 ([.i y84.n, ubn] : List Value) (1 * (kT99 gx0).size) 0) :: (some gx0, .row 78 [.slice (Gp uab) uaa.length uad] 1 0) :: (uab, .row 49 uae (uad * kT48.size) 0) :: (some gx8, .row 28 (.i x8v.Kind :: U4 x8v.Set [.slice uaq x8v.L.length uas, .i x8v.Min, .i x8v.Max]) 8 0) :: Lr) := p18
  have p18 : Hp nz wz S17 w18 ((none, .row 100 [] (0 * (kT99 gx0).size) 0) :: ((some b86), .row 100 ([.i y84.n, ubn] : List Value) (1 * (kT99 gx0).size) 0) :: (some gx0, .row 78 [.slice (Gp uab) uaa.length uad] 1 0) :: (uab, .row 49 uae (uad * kT48.size) 0) :: (some gx8, .row 28 (.i x8v.Kind :: U4 x8v.Set [.slice uaq x8v.L.length uas, .i x8v.Min, .i x8v.Max]) 8 0) :: Lr) := p18.nilRow' 100
  refine guard_some' h fun g93 h => ?_
  refine Op_.ap_n (K := (kT99 gx0)) 95 (.tmp 40) (.tmp 45) 46 95 100 0 (.agg #[.i 0, .nilFunc]) 16 0 0 1 ([] : List T99) [y84] [y84] (Gp (some b86)) 1 rfl rfl (List.nil_append _) p18 rfl (Els.nil (K := (kT99 gx0))) Goes.v (by kernel_rfl) (by kernel_rfl) (by kernel_rfl) (by kernel_rfl) rfl (show (0 : Nat) < 2 by decide) (f87.ext z18) (src_own p18 (q := 1) rfl) (by have := g93; omega) (by have := g93; omega) ?_
  intro w19 G94 c95 ubp z19 p19 f97
  refine Goes.rn 8 [(7, .slice (Gp G94) ([y84].length) c95), (47, .i (wr .i64 (x38 + 1))), (38, .i (wr .i64 (x38 + 1)))] Jic ?_
  have p19 := p19.dp 1
  have p19 := (((p19.fr 2).fr 2).fr 3).fr 3
  exact Goes.jp 49 [(0, (pt gx0 0)), (2, .i x2), (7, .slice (Gp G94) ([y84].length) c95), (8, (pt gx8 0)), (37, .i x37), (38, .i (wr .i64 (x38 + 1)))] (W.z29 gx0 uab uaa.length uad uae _ _ h _ _ (((hx.trans z17).trans z18).trans z19) G94 ([y84].length) c95 ubp gx8 uaq x8v.L.length uas p19 f97 rfl uav (uaw.ext ((z17.trans z18).trans z19)) rfl (fs3.ext ((z17.trans z18).trans z19)) rfl)
 ·
  rw [decide_eq_false h83]
  refine Goes.rn 7 [(48, .slice none 0 0), (6, .slice none 0 0)] Jij ?_
  have p1 : Hp nz wz S1 w1 ((none, .row 100 [] (0 * (kT99 gx0).size) 0) :: (some gx8, .row 28 (.i x8v.Kind :: U4 x8v.Set [.slice uaq x8v.L.length uas, .i x8v.Min, .i x8v.Max]) 8 0) :: (some gx0, .row 78 [.slice (Gp uab) uaa.length uad] 1 0) :: (uab, .row 49 uae (uad * kT48.size) 0) :: Lr) := p1.nilRow' 100
  obtain rfl := Option.some.inj h
  have p1 := p1.dp 1
  exact Goes.rt Tryd.f55 (.slice (Gp none) 0 0) ⟨S1, none, 0, 0, [], rfl, hx, p1, (Els.nil (K := (kT99 gx0))), rfl⟩

def L.z2c (gx0 : Nat) (uab : Option Nat) (uac : Nat) (uad : Nat) (uae : List Value) : Int × T27 × T27 × Int × Int × (List T48) → (List T99) → Prop := fun ⟨x2, x4v, x8v, x14, x15, uaa⟩ r => ∀ S1 w1, Ext S0 w0 S1 w1 → ∀ gx4 ub9 uba ubb gx8 uaq uar uas (_ : Hp nz wz S1 w1 ((some gx4, .row 28 (.i x4v.Kind :: U4 x4v.Set [.slice ub9 uba ubb, .i x4v.Min, .i x4v.Max]) 8 0) :: (some gx8, .row 28 (.i x8v.Kind :: U4 x8v.Set [.slice uaq uar uas, .i x8v.Min, .i x8v.Max]) 8 0) :: (some gx0, .row 78 [.slice (Gp uab) uac uad] 1 0) :: (uab, .row 49 uae (uad * kT48.size) 0) :: Lr)) (_ : x4v.Set.length = 4) (_ : Rd kT27 S1 w1 ub9 ubb x4v.L) (_ : x4v.L.length = uba) (_ : x8v.Set.length = 4) (_ : Rd kT27 S1 w1 uaq uas x8v.L) (_ : x8v.L.length = uar) (_ : Els kT48 S1 w1 uae uaa) (_ : uaa.length = uac) (junk : Nat → Value),
 Goes Tryd.prog (base 55) Jin ⟨lfr 49 [(0, (pt gx0 0)), (2, .i x2), (4, (pt gx4 0)), (7, .slice none 0 0), (8, (pt gx8 0)), (14, .i x14), (15, .i x15)] junk, []⟩ w1 (Done Tryd.prog 55 (Rets (Post.z28 nz wz S0 w0 Lr gx0 uab uac uad uae uaa r)))

theorem W.z2c {nz wz S0 w0 Lr} [Gw nz wz] (gx0 : Nat) (uab : Option Nat) (uac : Nat) (uad : Nat) (uae : List Value) : ∀ a r, M.prog_writer_times_l0 a = some r → L.z2c nz wz S0 w0 Lr gx0 uab uac uad uae a r := by
 intro ⟨x2, x4v, x8v, x14, x15, uaa⟩ r h S1 w1 hx gx4 ub9 uba ubb gx8 uaq uar uas p1 ube ubf ubg uav uaw uax fs6 ls6 junk
 rw [M.prog_writer_times_l0] at h
 try dsimp only at h
 subst ubg
 subst uax
 subst ls6
 refine Goes.rn 5 [(16, .bool (decide (x15 < x14)))] Jip ?_
 refine ite_some h (fun h19 h => ?_) (fun h19 h => ?_)
 ·
  rw [decide_eq_true h19]
  refine Goes.rn 7 [(17, .slice none 0 0), (18, (pt gx0 0))] Jis ?_
  refine Goes.ldN 28 (.tmp 8) 19 28 ⟨gx8, 0, none⟩ (.i x8v.Kind :: U4 x8v.Set [.slice uaq x8v.L.length uas, .i x8v.Min, .i x8v.Max]) (p1.pa 1 0) ?_
  have p1 := (p1.fr 3).fr 3
  refine bind_some' h fun y20 e21 h => ?_
  refine Goes.cal (kc 54 [18, 19] #[76, 28]) 20 100 54 _ (W.z25 uaa x8v y20 e21 gx0 uab uaa.length uad uae uaq x8v.L.length uas p1 fs6 rfl uav uaw rfl) ?_
  rintro _ w5 ⟨S5, ubq, rfl, z5, p5, ubr⟩
  have f23 : Els (kT99 gx0) S5 w5 ([.i y20.n, ubq] : List Value) [y20] := by exact (Els.cons (K := (kT99 gx0)) (vs := [.i y20.n, ubq]) (x := y20) ⟨[.i y20.n], [ubq], rfl, rfl, ubr⟩ Els.nil)
  refine Op_.made (.buildSlice 95 1 #[(0, (.tmp 20))]) 21 95 (fun b => .slice (Gp (some b)) 1 1) 100 ([.i y20.n, ubq] : List Value) p5 Goes.v (by kernel_rfl) ?_
  intro b22 w6 z6 p6
  have p6 : Hp nz wz S5 w6 (((some b22), .row 100 ([.i y20.n, ubq] : List Value) (1 * (kT99 gx0).size) 0) :: (some gx0, .row 78 [.slice (Gp uab) uaa.length uad] 1 0) :: (uab, .row 49 uae (uad * kT48.size) 0) :: (some gx4, .row 28 (.i x4v.Kind :: U4 x4v.Set [.slice ub9 x4v.L.length ubb, .i x4v.Min, .i x4v.Max]) 8 0) :: (some gx8, .row 28 (.i x8v.Kind :: U4 x8v.Set [.slice uaq x8v.L.length uas, .i x8v.Min, .i x8v.Max]) 8 0) :: Lr) := p6
  have p6 : Hp nz wz S5 w6 ((none, .row 100 [] (0 * (kT99 gx0).size) 0) :: ((some b22), .row 100 ([.i y20.n, ubq] : List Value) (1 * (kT99 gx0).size) 0) :: (some gx0, .row 78 [.slice (Gp uab) uaa.length uad] 1 0) :: (uab, .row 49 uae (uad * kT48.size) 0) :: (some gx4, .row 28 (.i x4v.Kind :: U4 x4v.Set [.slice ub9 x4v.L.length ubb, .i x4v.Min, .i x4v.Max]) 8 0) :: (some gx8, .row 28 (.i x8v.Kind :: U4 x8v.Set [.slice uaq x8v.L.length uas, .i x8v.Min, .i x8v.Max]) 8 0) :: Lr) := p6.nilRow' 100
  refine guard_some' h fun g29 h => ?_
  refine Op_.ap_n (K := (kT99 gx0)) 95 (.tmp 17) (.tmp 21) 22 95 100 0 (.agg #[.i 0, .nilFunc]) 16 0 0 1 ([] : List T99) [y20] [y20] (Gp (some b22)) 1 rfl rfl (List.nil_append _) p6 rfl (Els.nil (K := (kT99 gx0))) Goes.v (by kernel_rfl) (by kernel_rfl) (by kernel_rfl) (by kernel_rfl) rfl (show (0 : Nat) < 2 by decide) (f23.ext z6) (src_own p6 (q := 1) rfl) (by have := g29; omega) (by have := g29; omega) ?_
  intro w7 G30 c31 ubs z7 p7 f33
  refine Goes.rn 8 [(7, .slice (Gp G30) ([y20].length) c31), (23, .i (wr .i64 (x15 + 1))), (15, .i (wr .i64 (x15 + 1)))] Jin ?_
  have p7 := p7.dp 1
  have p7 := ((((p7.fr 2).fr 2).fr 4).fr 3).fr 4
  exact Goes.jp 49 [(0, (pt gx0 0)), (2, .i x2), (4, (pt gx4 0)), (7, .slice (Gp G30) ([y20].length) c31), (8, (pt gx8 0)), (14, .i x14), (15, .i (wr .i64 (x15 + 1)))] (W.z2a gx0 uab uaa.length uad uae _ _ h _ _ (((hx.trans z5).trans z6).trans z7) gx4 ub9 x4v.L.length ubb G30 ([y20].length) c31 ubs gx8 uaq x8v.L.length uas p7 ube (ubf.ext ((z5.trans z6).trans z7)) rfl f33 rfl uav (uaw.ext ((z5.trans z6).trans z7)) rfl (fs6.ext ((z5.trans z6).trans z7)) rfl)
 ·
  rw [decide_eq_false h19]
  refine Goes.rn 6 [(24, (pt gx4 7))] Jiv ?_
  refine Goes.ld 3 (.tmp 24) 25 3 ⟨gx4, 7, none⟩ (.i x4v.Max) (p1.c 0 7) ?_
  refine Goes.rn 2 [(26, .bool (decide (x4v.Max < 0)))] Jiu ?_
  refine ite_some h (fun h37 h => ?_) (fun h37 h => ?_)
  ·
   rw [decide_eq_true h37]
   refine Goes.rn 5 [(27, .slice none 0 0), (28, (pt gx0 0))] Jix ?_
   refine Goes.ldN 28 (.tmp 8) 29 28 ⟨gx8, 0, none⟩ (.i x8v.Kind :: U4 x8v.Set [.slice uaq x8v.L.length uas, .i x8v.Min, .i x8v.Max]) (p1.pa 1 0) ?_
   have p1 := (p1.fr 3).fr 3
   refine bind_some' h fun y38 e39 h => ?_
   refine Goes.cal (kc 72 [28, 29] #[76, 28]) 30 100 72 _ (W.z26 uaa x8v y38 e39 gx0 uab uaa.length uad uae uaq x8v.L.length uas p1 fs6 rfl uav uaw rfl) ?_
   rintro _ w8 ⟨S8, ubt, rfl, z8, p8, ubu⟩
   have p8 := (p8.dp 2).dp 2
   have f41 : Els (kT99 gx0) S8 w8 ([.i y38.n, ubt] : List Value) [y38] := by exact (Els.cons (K := (kT99 gx0)) (vs := [.i y38.n, ubt]) (x := y38) ⟨[.i y38.n], [ubt], rfl, rfl, ubu⟩ Els.nil)
   refine Op_.made (.buildSlice 95 1 #[(0, (.tmp 30))]) 31 95 (fun b => .slice (Gp (some b)) 1 1) 100 ([.i y38.n, ubt] : List Value) p8 Goes.v (by kernel_rfl) ?_
   intro b40 w9 z9 p9
   have p9 : Hp nz wz S8 w9 (((some b40), .row 100 ([.i y38.n, ubt] : List Value) (1 * (kT99 gx0).size) 0) :: (some gx0, .row 78 [.slice (Gp uab) uaa.length uad] 1 0) :: (uab, .row 49 uae (uad * kT48.size) 0) :: Lr) := p9
   have p9 : Hp nz wz S8 w9 ((none, .row 100 [] (0 * (kT99 gx0).size) 0) :: ((some b40), .row 100 ([.i y38.n, ubt] : List Value) (1 * (kT99 gx0).size) 0) :: (some gx0, .row 78 [.slice (Gp uab) uaa.length uad] 1 0) :: (uab, .row 49 uae (uad * kT48.size) 0) :: Lr) := p9.nilRow' 100
   refine guard_some' h fun g47 h => ?_
   refine Op_.ap_n (K := (kT99 gx0)) 95 (.tmp 27) (.tmp 31) 32 95 100 0 (.agg #[.i 0, .nilFunc]) 16 0 0 1 ([] : List T99) [y38] [y38] (Gp (some b40)) 1 rfl rfl (List.nil_append _) p9 rfl (Els.nil (K := (kT99 gx0))) Goes.v (by kernel_rfl) (by kernel_rfl) (by kernel_rfl) (by kernel_rfl) rfl (show (0 : Nat) < 2 by decide) (f41.ext z9) (src_own p9 (q := 1) rfl) (by have := g47; omega) (by have := g47; omega) ?_
   intro w10 G48 c49 ubv z10 p10 f51
   refine Goes.rn 2 [(6, .slice (Gp G48) ([y38].length) c49)] Jiw ?_
   obtain rfl := Option.some.inj h
   have p10 := p10.dp 1
   exact Goes.rt Tryd.f55 (.slice (Gp G48) ([y38].length) c49) ⟨S8, G48, [y38].length, c49, ubv, rfl, (((hx.trans z8).trans z9).trans z10), p10, f51, rfl⟩
  ·
   rw [decide_eq_false h37]
   refine Goes.rn 6 [(33, (pt gx4 7))] Jiz ?_
   refine Goes.ld 3 (.tmp 33) 34 3 ⟨gx4, 7, none⟩ (.i x4v.Max) (p1.c 0 7) ?_
   refine Goes.rn 1 [(35, (pt gx4 6))] Jj0 ?_
   refine Goes.ld 3 (.tmp 35) 36 3 ⟨gx4, 6, none⟩ (.i x4v.Min) (p1.c 0 6) ?_
   refine Goes.rn 5 [(37, .i (wr .i64 (x4v.Max - x4v.Min))), (38, .i 0)] Jic ?_
   have p1 := p1.dp 0
   exact Goes.jp 49 [(0, (pt gx0 0)), (2, .i x2), (7, .slice none 0 0), (8, (pt gx8 0)), (37, .i (wr .i64 (x4v.Max - x4v.Min))), (38, .i 0)] (W.z2b gx0 uab uaa.length uad uae _ _ h _ _ hx gx8 uaq x8v.L.length uas p1 uav uaw rfl fs6 rfl)

def Qfl := sub [1] B55
def Jj1 : List Item := [.code Qfl]
def Qfm := sub [0] B55
def Jj2 : List Item := .inRegion (opsOf Qfm) [0, 1] :: Jj1
def Qfn := sub [1, 1, 1] B55
def Jj3 : List Item := [.code Qfn]
def Qfo := sub [1, 1, 0] B55
def Jj4 : List Item := .inRegion (opsOf Qfo) [1, 2, 3, 4, 5] :: Jj3
def Qfp := sub [1, 1, 1, 0, 1] B55
def Jj5 : List Item := .code Qfp :: Jik
def Qfq := sub [1, 1, 1, 0, 0] B55
def Jj6 : List Item := .inRegion (opsOf Qfq) [1, 2] :: Jj5

theorem W.z28 (uaa : List T48) (x1 : T27) (x2 : Int) (r : List T99) (h : M.prog_writer_times uaa x1 x2 = some r) {nz wz S0 w0 Lr} [Gw nz wz] (gx0 uab uac uad uae uak ual uam) (p0 : Hp nz wz S0 w0 ((some gx0, .row 78 [.slice (Gp uab) uac uad] 1 0) :: (uab, .row 49 uae (uad * kT48.size) 0) :: Lr)) (uaf : Els kT48 S0 w0 uae uaa) (uag : uaa.length = uac) (uah : x1.Set.length = 4) (uan : Rd kT27 S0 w0 uak uam x1.L) (uao : x1.L.length = ual) :
  Calls Tryd.prog 55 #[(pt gx0 0), (ag (.i x1.Kind :: U4 x1.Set [.slice uak ual uam, .i x1.Min, .i x1.Max])), .i x2] w0 (Rets (Post.z28 nz wz S0 w0 Lr gx0 uab uac uad uae uaa r)) := by
 subst uag
 subst uao
 refine calls_of_goes (fn := Tryd.f55) (c := B55) (by kernel_rfl) (by kernel_rfl) 46 (by kernel_rfl) ?_
 refine Goes.jp 49 [(0, (pt gx0 0)), (1, (ag (.i x1.Kind :: U4 x1.Set [.slice uak x1.L.length uam, .i x1.Min, .i x1.Max]))), (2, .i x2)] (fun junk => ?_)
 delta M.prog_writer_times at h
 refine Goes.rn 2 [] Jj2 ?_
 refine Op_.box 28 (.tmp 1) 4 0 (ag (.i x1.Kind :: U4 x1.Set [.slice uak x1.L.length uam, .i x1.Min, .i x1.Max])) (.i x1.Kind :: U4 x1.Set [.slice uak x1.L.length uam, .i x1.Min, .i x1.Max]) p0 Goes.v (by kernel_rfl) (by kernel_rfl) ?_
 intro b3 w2 z2 p2
 refine Goes.rn 9 [(6, .slice none 0 0), (7, .slice none 0 0), (9, (pt b3 5))] Jj4 ?_
 refine Goes.ld 26 (.tmp 9) 10 26 ⟨b3, 5, none⟩ (.slice uak x1.L.length uam) (p2.c 0 5) ?_
 refine guard_some' h fun g5 h => ?_
 refine Op_.ixR_n 26 (.tmp 10) (.const (.int .i64 0)) 11 0 28 .i64 0 (gi x1.L 0) rfl rfl (uan.ext z2) Goes.v (by kernel_rfl) (by kernel_rfl) (by kernel_rfl) (by kernel_rfl) (by decide : (0 : Int) ≤ 0) g5 ?_
 intro a6 _ f7 q8
 have q9 := q8
 obtain ⟨_, _, rfl, rfl, ⟨_, _, rfl, ⟨l10, f11⟩, ⟨_, _, rfl, ⟨A12, c13, rfl, f14⟩, ⟨_, _, rfl, rfl, rfl⟩⟩⟩⟩ := kT27_open q9
 obtain rfl := els_lit4' f11 l10
 refine Goes.ldN 28 (.tmp 11) 12 28 a6 ([.i ((gi x1.L 0).Kind)] ++ ((U4 ((gi x1.L 0).Set) []) ++ ([.slice A12 (((gi x1.L 0).L).length) c13] ++ ([.i ((gi x1.L 0).Min)] ++ [.i ((gi x1.L 0).Max)])))) (f7.cell) ?_
 refine Op_.alloc 28 8 0 (.agg #[.i 0, .u 0, .u 0, .u 0, .u 0, .slice none 0 0, .i 0, .i 0]) [.i 0, .u 0, .u 0, .u 0, .u 0, .slice none 0 0, .i 0, .i 0] p2 Goes.v (by kernel_rfl) (by kernel_rfl) ?_
 intro b15 w3 z3 p3
 refine Op_.st 28 (.tmp 8) (.tmp 12) 0 0 b15 0 (ag (.i ((gi x1.L 0).Kind) :: U4 ((gi x1.L 0).Set) [.slice A12 (((gi x1.L 0).L).length) c13, .i ((gi x1.L 0).Min), .i ((gi x1.L 0).Max)])) (.i ((gi x1.L 0).Kind) :: U4 ((gi x1.L 0).Set) [.slice A12 (((gi x1.L 0).L).length) c13, .i ((gi x1.L 0).Min), .i ((gi x1.L 0).Max)]) p3 rfl Goes.s (by kernel_rfl) (by kernel_rfl) (by kernel_rfl) (by kernel_rfl) (Nat.zero_le _) (by simp only [List.length_cons, List.length_nil]; omega) (by simp [Value.oneCell']) ?_
 intro w4 z4 p4
 have p4 : Hp nz wz S0 w4 ((some b15, .row 28 (.i ((gi x1.L 0).Kind) :: U4 ((gi x1.L 0).Set) [.slice A12 (((gi x1.L 0).L).length) c13, .i ((gi x1.L 0).Min), .i ((gi x1.L 0).Max)]) 8 0) :: (some b3, .row 28 (.i x1.Kind :: U4 x1.Set [.slice uak x1.L.length uam, .i x1.Min, .i x1.Max]) 8 0) :: (some gx0, .row 78 [.slice (Gp uab) uaa.length uad] 1 0) :: (uab, .row 49 uae (uad * kT48.size) 0) :: Lr) := p4
 refine Goes.rn 5 [(13, (pt b3 6))] Jj6 ?_
 refine Goes.ld 3 (.tmp 13) 14 3 ⟨b3, 6, none⟩ (.i x1.Min) (p4.c 1 6) ?_
 refine Goes.rn 4 [(15, .i 0)] Jin ?_
 have p4 := (((p4.fr 3).fr 3).fr 2).fr 3
 exact Goes.jp 49 [(0, (pt gx0 0)), (2, .i x2), (4, (pt b3 0)), (7, .slice none 0 0), (8, (pt b15 0)), (14, .i x1.Min), (15, .i 0)] (W.z2c gx0 uab uaa.length uad uae _ _ h _ _ ((((Ext.refl S0 w0).trans z2).trans z3).trans z4) b3 uak x1.L.length uam b15 A12 (((gi x1.L 0).L).length) c13 p4 uah (uan.ext ((z2.trans z3).trans z4)) rfl l10 (f14.ext (z3.trans z4)) rfl (uaf.ext ((z2.trans z3).trans z4)) rfl)

def Qfr := sub [1] B53
def Jj7 : List Item := [.code Qfr]
def Jj8 : List Item := .inBlock 0 :: Jj7
def Qfs := sub [0, 1, 0, 0] B53
def Jj9 : List Item := .inLoop Qfs :: Jj8
def Jja : List Item := .code Qfs :: Jj9
def Qft := sub [0, 1, 0, 0, 1, 1, 1] B53
def Jjb : List Item := .code Qft :: Jj9
def Jjc : List Item := .inBlock 1 :: Jjb
def Qfu := sub [0, 1, 0, 0, 1, 1, 0, 0, 1, 1] B53
def Jjd : List Item := .code Qfu :: Jjc
def Qfv := sub [1, 1, 1] B35
def Jje : List Item := [.code Qfv]
def Jjf : List Item := .inBlock 0 :: Jje
def Jjg : List Item := .inBlock 1 :: Jjf
def Qfw := sub [1, 1, 0, 1, 0, 1, 1, 1, 1, 1, 0, 1, 0, 0] B35
def Jjh : List Item := .inLoop Qfw :: Jjg
def Jji : List Item := .code Qfw :: Jjh
def Qfx := sub [1, 0, 0] B56
def Jjj : List Item := .inLoop Qfx :: J7e
def Jjk : List Item := .code Qfx :: Jjj
def Qfy := sub [1, 0, 0, 1, 1, 1] B56
def Jjl : List Item := .code Qfy :: Jjj
def Jjm : List Item := .inBlock 1 :: Jjl
def Qfz := sub [1, 0, 0, 1, 1, 0, 0, 1, 1, 1] B56
def Jjn : List Item := .code Qfz :: Jjm
def Qg0 := sub [1] B35
def Jjo : List Item := [.code Qg0]
def Qg1 := sub [0] B35
def Jjp : List Item := .inRegion (opsOf Qg1) [0] :: Jjo
def Qg2 := sub [1, 1, 0, 1] B35
def Jjq : List Item := .code Qg2 :: Jje
def Qg3 := sub [1, 1, 0, 0] B35
def Jjr : List Item := .inRegion (opsOf Qg3) [1] :: Jjq
def Qg4 := sub [1, 1, 0, 1, 0, 1] B35
def Jjs : List Item := .code Qg4 :: Jjf
def Qg5 := sub [1, 1, 0, 1, 0, 1, 0, 1] B35
def Jjt : List Item := .code Qg5 :: Jjf
def Qg6 := sub [1, 1, 0, 1, 0, 1, 0, 0] B35
def Jju : List Item := .inRegion (opsOf Qg6) [2, 3, 4, 5] :: Jjt
def Jjv : List Item := .inRegion (opsOf Qg6) [5] :: Jjt
def Qg7 := sub [1, 1, 0, 1, 0, 1, 1, 1] B35
def Jjw : List Item := .code Qg7 :: Jjf
def Qg8 := sub [1, 1, 0, 1, 0, 1, 1, 1, 0, 1] B35
def Jjx : List Item := .code Qg8 :: Jjf
def Qg9 := sub [1, 1, 0, 1, 0, 1, 1, 1, 0, 0] B35
def Jjy : List Item := .inRegion (opsOf Qg9) [2, 3, 4] :: Jjx
def Jjz : List Item := .inRegion (opsOf Qg9) [4] :: Jjx
def Qga := sub [1, 1, 0, 1, 0, 1, 1, 1, 1, 1] B35
def Jk0 : List Item := .code Qga :: Jjf
def Qgb := sub [1, 1, 0, 1, 0, 1, 1, 1, 1, 1, 0, 1] B35
def Jk1 : List Item := .code Qgb :: Jjf
def Qgc := sub [1, 1, 0, 1, 0, 1, 1, 1, 1, 1, 0, 0] B35
def Jk2 : List Item := .inRegion (opsOf Qgc) [1, 2, 3] :: Jk1
def Qgd := sub [1, 1, 0, 1, 0, 1, 1, 1, 1, 1, 1, 1] B35
def Jk3 : List Item := .code Qgd :: Jjf
def Qge := sub [1, 1, 0, 1, 0, 1, 1, 1, 1, 1, 1, 1, 0] B35
def Jk4 : List Item := .inRegion (opsOf Qge) [1, 2, 3, 4] :: Jjf
def Jk5 : List Item := .inRegion (opsOf Qge) [3, 4] :: Jjf
def Qgf := sub [1, 1, 1, 1] B35
def Jk6 : List Item := [.code Qgf]
def Qgg := sub [1, 1, 1, 0, 1, 0] B35
def Jk7 : List Item := .inRegion (opsOf Qgg) [3] :: Jk6
def Jk8 : List Item := [.inRegion (opsOf Qgf) [3]]
def Qgh := sub [1, 0, 0, 1, 1] B56
def Jk9 : List Item := .code Qgh :: Jjj
def Qgi := sub [1, 0, 0, 1, 0] B56
def Jka : List Item := .code Qgi :: Jk9
def Qgj := sub [1, 0, 0, 1, 1, 0, 0, 1] B56
def Jkb : List Item := .code Qgj :: Jjm
def Qgk := sub [1, 0, 0, 1, 1, 0, 0, 0] B56
def Jkc : List Item := .inRegion (opsOf Qgk) [1, 2, 3, 4, 5] :: Jkb
def Jkd : List Item := .inRegion (opsOf Qgk) [5] :: Jkb
def Qgl := sub [1, 0, 0, 1, 1, 0, 0, 1, 1, 0, 1] B56
def Jke : List Item := .code Qgl :: Jjn
def Qgm := sub [1, 0, 0, 1, 1, 0, 0, 1, 1, 0, 0] B56
def Jkf : List Item := .inRegion (opsOf Qgm) [] :: Jke
def Qgn := sub [1, 0, 0, 1, 1, 0, 0, 1, 1, 0, 1, 0] B56
def Jkg : List Item := .code Qgn :: Jjn
def Jkh : List Item := .inRegion (opsOf Qfz) [1, 2, 3] :: Jjm
def Jki : List Item := .inRegion (opsOf Qfz) [3] :: Jjm
def Qgo := sub [1] B86
def Jkj : List Item := [.code Qgo]
def Qgp := sub [0] B86
def Jkk : List Item := .code Qgp :: Jkj
def Jkl : List Item := [.inRegion (opsOf Qgo) [0, 1, 2, 3]]
def Jkm : List Item := [.inRegion (opsOf Qgo) [3]]
def Qgq := sub [1] B85
def Jkn : List Item := [.code Qgq]
def Qgr := sub [0] B85
def Jko : List Item := .code Qgr :: Jkn
def Jkp : List Item := [.inRegion (opsOf Qgq) [0, 1, 2, 3]]
def Jkq : List Item := [.inRegion (opsOf Qgq) [3]]
def Qgs := sub [] B71
def Jkr : List Item := [.inRegion (opsOf Qgs) [0, 1, 2, 3]]
def Jks : List Item := [.inRegion (opsOf Qgs) [3]]
def Qgt := sub [1, 1, 1, 0, 1] B35
def Jkt : List Item := .code Qgt :: Jk6
def Qgu := sub [1, 1, 0, 1, 0, 1, 1, 1, 1, 1, 0, 1, 0, 0, 1, 1] B35
def Jku : List Item := .code Qgu :: Jjh
def Qgv := sub [1, 1, 0, 1, 0, 1, 1, 1, 1, 1, 0, 1, 0, 0, 1, 0] B35
def Jkv : List Item := .code Qgv :: Jku
def Qgw := sub [1, 1, 0, 1, 0, 1, 1, 1, 1, 1, 0, 1, 0, 0, 1, 1, 1] B35
def Jkw : List Item := .code Qgw :: Jjh
def Jkx : List Item := .inBlock 2 :: Jkw
def Qgx := sub [1, 1, 0, 1, 0, 1, 1, 1, 1, 1, 0, 1, 0, 0, 1, 1, 0, 0, 1] B35
def Jky : List Item := .code Qgx :: Jkx
def Qgy := sub [1, 1, 0, 1, 0, 1, 1, 1, 1, 1, 0, 1, 0, 0, 1, 1, 0, 0, 0] B35
def Jkz : List Item := .inRegion (opsOf Qgy) [0, 1, 2, 3] :: Jky
def Jl0 : List Item := .inRegion (opsOf Qgx) [2, 3, 4, 5, 6] :: Jkx
def Qgz := sub [0, 1, 0, 0, 1, 1] B53
def Jl1 : List Item := .code Qgz :: Jj9
def Qh0 := sub [0, 1, 0, 0, 1, 0] B53
def Jl2 : List Item := .code Qh0 :: Jl1
def Qh1 := sub [0, 1, 0, 0, 1, 1, 0, 0, 1] B53
def Jl3 : List Item := .code Qh1 :: Jjc
def Qh2 := sub [0, 1, 0, 0, 1, 1, 0, 0, 0] B53
def Jl4 : List Item := .inRegion (opsOf Qh2) [1, 2, 3, 4, 5] :: Jl3
def Jl5 : List Item := .inRegion (opsOf Qh2) [5] :: Jl3
def Qh3 := sub [0, 1, 0, 0, 1, 1, 0, 0, 1, 0, 1] B53
def Jl6 : List Item := .code Qh3 :: Jjd
def Qh4 := sub [0, 1, 0, 0, 1, 1, 0, 0, 1, 0, 1, 0, 1] B53
def Jl7 : List Item := .code Qh4 :: Jjd
def Qh5 := sub [0, 1, 0, 0, 1, 1, 0, 0, 1, 0, 1, 0, 0] B53
def Jl8 : List Item := .inRegion (opsOf Qh5) [3, 4, 5, 6] :: Jl7
def Jl9 : List Item := .inRegion (opsOf Qh4) [3, 4, 5, 6, 7] :: Jjd
def Jla : List Item := .inRegion (opsOf Qh4) [7] :: Jjd
def Qh6 := sub [1, 1] B53
def Jlb : List Item := [.code Qh6]
def Qh7 := sub [1, 1, 0] B53
def Jlc : List Item := [.inRegion (opsOf Qh7) [3]]
def Jld : List Item := .inRegion (opsOf Qfu) [1, 2, 3] :: Jjc
def Jle : List Item := .inRegion (opsOf Qfu) [3] :: Jjc

def Post.z2d (gx0 : Nat) (r : List T48) (v : Value) (w' : World) : Prop :=
 ∃ S' ua6 ua7 ua8 ua9, v = .tuple #[] ∧ Ext S0 w0 S' w' ∧ Hp nz wz S' w' ((some gx0, .row 78 [.slice (Gp ua6) ua7 ua8] 1 0) :: (ua6, .row 49 ua9 (ua8 * kT48.size) 0) :: Lr) ∧ Els kT48 S' w' ua9 r ∧ r.length = ua7

def Post.z2e (gx0 : Nat) (r : List T48) (v : Value) (w' : World) : Prop :=
 ∃ S' ua6 ua7 ua8 ua9, v = .tuple #[] ∧ Ext S0 w0 S' w' ∧ Hp nz wz S' w' ((some gx0, .row 78 [.slice (Gp ua6) ua7 ua8] 1 0) :: (ua6, .row 49 ua9 (ua8 * kT48.size) 0) :: Lr) ∧ Els kT48 S' w' ua9 r ∧ r.length = ua7

def Post.z2f (gx0 : Nat) (r : List T48) (v : Value) (w' : World) : Prop :=
 ∃ S' ua6 ua7 ua8 ua9, v = .tuple #[] ∧ Ext S0 w0 S' w' ∧ Hp nz wz S' w' ((some gx0, .row 78 [.slice (Gp ua6) ua7 ua8] 1 0) :: (ua6, .row 49 ua9 (ua8 * kT48.size) 0) :: Lr) ∧ Els kT48 S' w' ua9 r ∧ r.length = ua7

def Post.z2g (gx1 : Nat) (r : List T48) (v : Value) (w' : World) : Prop :=
 ∃ S' ua6 ua7 ua8 ua9, v = .tuple #[] ∧ Ext S0 w0 S' w' ∧ Hp nz wz S' w' ((some gx1, .row 78 [.slice (Gp ua6) ua7 ua8] 1 0) :: (ua6, .row 49 ua9 (ua8 * kT48.size) 0) :: Lr) ∧ Els kT48 S' w' ua9 r ∧ r.length = ua7

def Post.z2h (gx1 : Nat) (r : List T48) (v : Value) (w' : World) : Prop :=
 ∃ S' ua6 ua7 ua8 ua9, v = .tuple #[] ∧ Ext S0 w0 S' w' ∧ Hp nz wz S' w' ((some gx1, .row 78 [.slice (Gp ua6) ua7 ua8] 1 0) :: (ua6, .row 49 ua9 (ua8 * kT48.size) 0) :: Lr) ∧ Els kT48 S' w' ua9 r ∧ r.length = ua7

def Post.z2i (gx1 : Nat) (r : List T48) (v : Value) (w' : World) : Prop :=
 ∃ S' ua6 ua7 ua8 ua9, v = .tuple #[] ∧ Ext S0 w0 S' w' ∧ Hp nz wz S' w' ((some gx1, .row 78 [.slice (Gp ua6) ua7 ua8] 1 0) :: (ua6, .row 49 ua9 (ua8 * kT48.size) 0) :: Lr) ∧ Els kT48 S' w' ua9 r ∧ r.length = ua7

def LF.z2d : (List T48) × T27 × Int → (List T48) → Prop := fun ⟨uaa, x1, x2⟩ r => ∀ {nz wz S0 w0 Lr} [Gw nz wz] gx0 uab uac uad uae uak ual uam (_ : Hp nz wz S0 w0 ((some gx0, .row 78 [.slice (Gp uab) uac uad] 1 0) :: (uab, .row 49 uae (uad * kT48.size) 0) :: Lr)) (_ : Els kT48 S0 w0 uae uaa) (_ : uaa.length = uac) (_ : x1.Set.length = 4) (_ : Rd kT27 S0 w0 uak uam x1.L) (_ : x1.L.length = ual),
 Calls Tryd.prog 35 #[(pt gx0 0), (ag (.i x1.Kind :: U4 x1.Set [.slice uak ual uam, .i x1.Min, .i x1.Max])), .i x2] w0 (Rets (Post.z2d nz wz S0 w0 Lr gx0 r))

def LF.z2e : (List T48) × (List T27) × Int → (List T48) → Prop := fun ⟨uaa, x1, x2⟩ r => ∀ {nz wz S0 w0 Lr} [Gw nz wz] gx0 uab uac uad uae Ax1 nx1 cx1 (_ : Hp nz wz S0 w0 ((some gx0, .row 78 [.slice (Gp uab) uac uad] 1 0) :: (uab, .row 49 uae (uad * kT48.size) 0) :: Lr)) (_ : Els kT48 S0 w0 uae uaa) (_ : uaa.length = uac) (_ : Rd kT27 S0 w0 Ax1 cx1 x1) (_ : x1.length = nx1),
 Calls Tryd.prog 53 #[(pt gx0 0), .slice Ax1 nx1 cx1, .i x2] w0 (Rets (Post.z2e nz wz S0 w0 Lr gx0 r))

def L.z2j (gx0 : Nat) : (List T27) × Int × (List T27) × Int × Int × (List T48) → (List T48) → Prop := fun ⟨x1, x2, x9, x10, x11, u95⟩ r => ∀ S1 w1, Ext S0 w0 S1 w1 → ∀ Ax1 nx1 cx1 Ax9 nx9 cx9 ua6 ua7 ua8 ua9 (_ : Hp nz wz S1 w1 ((some gx0, .row 78 [.slice (Gp ua6) ua7 ua8] 1 0) :: (ua6, .row 49 ua9 (ua8 * kT48.size) 0) :: Lr)) (_ : Rd kT27 S1 w1 Ax1 cx1 x1) (_ : x1.length = nx1) (_ : Rd kT27 S1 w1 Ax9 cx9 x9) (_ : x9.length = nx9) (_ : Els kT48 S1 w1 ua9 u95) (_ : u95.length = ua7) (junk : Nat → Value),
 Goes Tryd.prog (base 53) Jja ⟨lfr 47 [(0, (pt gx0 0)), (1, .slice Ax1 nx1 cx1), (2, .i x2), (9, .slice Ax9 nx9 cx9), (10, .i x10), (11, .i x11)] junk, []⟩ w1 (Done Tryd.prog 53 (Rets (Post.z2e nz wz S0 w0 Lr gx0 r)))

def LL.z2j : (List T27) × Int × (List T27) × Int × Int × (List T48) → (List T48) → Prop := fun a r => ∀ {nz wz S0 w0 Lr} [Gw nz wz] (gx0 : Nat), L.z2j nz wz S0 w0 Lr gx0 a r

def L.z2k (gx0 : Nat) : (List T27) × Int × T27 × (List T27) × Int × Int × (List T48) → (List T48) → Prop := fun ⟨x1, x2, x7v, x9, x10, x11, u95⟩ r => ∀ S1 w1, Ext S0 w0 S1 w1 → ∀ Ax1 nx1 cx1 gx7 ubw ubx uby Ax9 nx9 cx9 ua6 ua7 ua8 ua9 (_ : Hp nz wz S1 w1 ((some gx7, .row 28 (.i x7v.Kind :: U4 x7v.Set [.slice ubw ubx uby, .i x7v.Min, .i x7v.Max]) 8 0) :: (some gx0, .row 78 [.slice (Gp ua6) ua7 ua8] 1 0) :: (ua6, .row 49 ua9 (ua8 * kT48.size) 0) :: Lr)) (_ : Rd kT27 S1 w1 Ax1 cx1 x1) (_ : x1.length = nx1) (_ : x7v.Set.length = 4) (_ : Rd kT27 S1 w1 ubw uby x7v.L) (_ : x7v.L.length = ubx) (_ : Rd kT27 S1 w1 Ax9 cx9 x9) (_ : x9.length = nx9) (_ : Els kT48 S1 w1 ua9 u95) (_ : u95.length = ua7) (junk : Nat → Value),
 Goes Tryd.prog (base 53) Jjd ⟨lfr 47 [(0, (pt gx0 0)), (1, .slice Ax1 nx1 cx1), (2, .i x2), (7, (pt gx7 0)), (9, .slice Ax9 nx9 cx9), (10, .i x10), (11, .i x11)] junk, []⟩ w1 (Done Tryd.prog 53 (Rets (Post.z2e nz wz S0 w0 Lr gx0 r)))

def LL.z2k : (List T27) × Int × T27 × (List T27) × Int × Int × (List T48) → (List T48) → Prop := fun a r => ∀ {nz wz S0 w0 Lr} [Gw nz wz] (gx0 : Nat), L.z2k nz wz S0 w0 Lr gx0 a r

def L.z2l (gx0 : Nat) : Int × (List T27) × Int × Int × (List T48) → (List T48) → Prop := fun ⟨x2, x29, x30, x31, u95⟩ r => ∀ S1 w1, Ext S0 w0 S1 w1 → ∀ ubz uc0 uc1 ua6 ua7 ua8 ua9 (_ : Hp nz wz S1 w1 ((some gx0, .row 78 [.slice (Gp ua6) ua7 ua8] 1 0) :: (ua6, .row 49 ua9 (ua8 * kT48.size) 0) :: Lr)) (_ : Rd kT27 S1 w1 ubz uc1 x29) (_ : x29.length = uc0) (_ : Els kT48 S1 w1 ua9 u95) (_ : u95.length = ua7) (junk : Nat → Value),
 Goes Tryd.prog (base 35) Jji ⟨lfr 59 [(0, (pt gx0 0)), (2, .i x2), (6, .slice none 0 0), (29, .slice ubz uc0 uc1), (30, .i x30), (31, .i x31)] junk, []⟩ w1 (Done Tryd.prog 35 (Rets (Post.z2d nz wz S0 w0 Lr gx0 r)))

def LL.z2l : Int × (List T27) × Int × Int × (List T48) → (List T48) → Prop := fun a r => ∀ {nz wz S0 w0 Lr} [Gw nz wz] (gx0 : Nat), L.z2l nz wz S0 w0 Lr gx0 a r

def L.z2m (gx0 : Nat) : Int × (List T99) × (List T27) × Int × Int × (List T48) → (List T48) → Prop := fun ⟨x2, x6, x29, x30, x31, u95⟩ r => ∀ S1 w1, Ext S0 w0 S1 w1 → ∀ Gx6 nx6 cx6 uc2 ubz uc0 uc1 ua6 ua7 ua8 ua9 (_ : Hp nz wz S1 w1 ((Gx6, .row 100 uc2 (cx6 * (kT99 gx0).size) 0) :: (some gx0, .row 78 [.slice (Gp ua6) ua7 ua8] 1 0) :: (ua6, .row 49 ua9 (ua8 * kT48.size) 0) :: Lr)) (_ : Els (kT99 gx0) S1 w1 uc2 x6) (_ : x6.length = nx6) (_ : Rd kT27 S1 w1 ubz uc1 x29) (_ : x29.length = uc0) (_ : Els kT48 S1 w1 ua9 u95) (_ : u95.length = ua7) (junk : Nat → Value),
 Goes Tryd.prog (base 35) Jji ⟨lfr 59 [(0, (pt gx0 0)), (2, .i x2), (6, .slice (Gp Gx6) nx6 cx6), (29, .slice ubz uc0 uc1), (30, .i x30), (31, .i x31)] junk, []⟩ w1 (Done Tryd.prog 35 (Rets (Post.z2d nz wz S0 w0 Lr gx0 r)))

def LL.z2m : Int × (List T99) × (List T27) × Int × Int × (List T48) → (List T48) → Prop := fun a r => ∀ {nz wz S0 w0 Lr} [Gw nz wz] (gx0 : Nat), L.z2m nz wz S0 w0 Lr gx0 a r

def L.z2n (gx0 : Nat) : Int × (List T99) × (List T48) → (List T48) → Prop := fun ⟨x2, x6, u95⟩ r => ∀ S1 w1, Ext S0 w0 S1 w1 → ∀ Gx6 nx6 cx6 uc2 ua6 ua7 ua8 ua9 (_ : Hp nz wz S1 w1 ((Gx6, .row 100 uc2 (cx6 * (kT99 gx0).size) 0) :: (some gx0, .row 78 [.slice (Gp ua6) ua7 ua8] 1 0) :: (ua6, .row 49 ua9 (ua8 * kT48.size) 0) :: Lr)) (_ : Els (kT99 gx0) S1 w1 uc2 x6) (_ : x6.length = nx6) (_ : Els kT48 S1 w1 ua9 u95) (_ : u95.length = ua7) (junk : Nat → Value),
 Goes Tryd.prog (base 35) Jjf ⟨lfr 59 [(0, (pt gx0 0)), (2, .i x2), (6, .slice (Gp Gx6) nx6 cx6)] junk, []⟩ w1 (Done Tryd.prog 35 (Rets (Post.z2d nz wz S0 w0 Lr gx0 r)))

def LL.z2n : Int × (List T99) × (List T48) → (List T48) → Prop := fun a r => ∀ {nz wz S0 w0 Lr} [Gw nz wz] (gx0 : Nat), L.z2n nz wz S0 w0 Lr gx0 a r

def LF.z2f : (List T48) × (List T99) × Int → (List T48) → Prop := fun ⟨uaa, x1, x2⟩ r => ∀ {nz wz S0 w0 Lr} [Gw nz wz] gx0 uab uac uad uae Ax1 nx1 cx1 (_ : Hp nz wz S0 w0 ((some gx0, .row 78 [.slice (Gp uab) uac uad] 1 0) :: (uab, .row 49 uae (uad * kT48.size) 0) :: Lr)) (_ : Els kT48 S0 w0 uae uaa) (_ : uaa.length = uac) (_ : Rd (kT99 gx0) S0 w0 Ax1 cx1 x1) (_ : x1.length = nx1),
 Calls Tryd.prog 56 #[(pt gx0 0), .slice Ax1 nx1 cx1, .i x2] w0 (Rets (Post.z2f nz wz S0 w0 Lr gx0 r))

def L.z2o (gx0 : Nat) : (List T99) × Int × (List T99) × Int × Int × (List T48) → (List T48) → Prop := fun ⟨x1, x2, x9, x10, x11, u95⟩ r => ∀ S1 w1, Ext S0 w0 S1 w1 → ∀ Ax1 nx1 cx1 Ax9 nx9 cx9 ua6 ua7 ua8 ua9 (_ : Hp nz wz S1 w1 ((some gx0, .row 78 [.slice (Gp ua6) ua7 ua8] 1 0) :: (ua6, .row 49 ua9 (ua8 * kT48.size) 0) :: Lr)) (_ : Rd (kT99 gx0) S1 w1 Ax1 cx1 x1) (_ : x1.length = nx1) (_ : Rd (kT99 gx0) S1 w1 Ax9 cx9 x9) (_ : x9.length = nx9) (_ : Els kT48 S1 w1 ua9 u95) (_ : u95.length = ua7) (junk : Nat → Value),
 Goes Tryd.prog (base 56) Jjk ⟨lfr 35 [(0, (pt gx0 0)), (1, .slice Ax1 nx1 cx1), (2, .i x2), (9, .slice Ax9 nx9 cx9), (10, .i x10), (11, .i x11)] junk, []⟩ w1 (Done Tryd.prog 56 (Rets (Post.z2f nz wz S0 w0 Lr gx0 r)))

def LL.z2o : (List T99) × Int × (List T99) × Int × Int × (List T48) → (List T48) → Prop := fun a r => ∀ {nz wz S0 w0 Lr} [Gw nz wz] (gx0 : Nat), L.z2o nz wz S0 w0 Lr gx0 a r

def L.z2p (gx0 : Nat) : (List T99) × Int × T99 × Int × (List T99) × Int × Int × (List T48) → (List T48) → Prop := fun ⟨x1, x2, x7v, x8, x9, x10, x11, u95⟩ r => ∀ S1 w1, Ext S0 w0 S1 w1 → ∀ Ax1 nx1 cx1 gx7 uc3 Ax9 nx9 cx9 ua6 ua7 ua8 ua9 (_ : Hp nz wz S1 w1 ((some gx7, .row 100 [.i x7v.n, uc3] 2 0) :: (some gx0, .row 78 [.slice (Gp ua6) ua7 ua8] 1 0) :: (ua6, .row 49 ua9 (ua8 * kT48.size) 0) :: Lr)) (_ : Rd (kT99 gx0) S1 w1 Ax1 cx1 x1) (_ : x1.length = nx1) (_ : Rp1 (kC98 gx0) S1 w1 uc3 x7v.code) (_ : Rd (kT99 gx0) S1 w1 Ax9 cx9 x9) (_ : x9.length = nx9) (_ : Els kT48 S1 w1 ua9 u95) (_ : u95.length = ua7) (junk : Nat → Value),
 Goes Tryd.prog (base 56) Jjn ⟨lfr 35 [(0, (pt gx0 0)), (1, .slice Ax1 nx1 cx1), (2, .i x2), (7, (pt gx7 0)), (8, .i x8), (9, .slice Ax9 nx9 cx9), (10, .i x10), (11, .i x11)] junk, []⟩ w1 (Done Tryd.prog 56 (Rets (Post.z2f nz wz S0 w0 Lr gx0 r)))

def LL.z2p : (List T99) × Int × T99 × Int × (List T99) × Int × Int × (List T48) → (List T48) → Prop := fun a r => ∀ {nz wz S0 w0 Lr} [Gw nz wz] (gx0 : Nat), L.z2p nz wz S0 w0 Lr gx0 a r

def LF.z2g : Int × (List T48) × T27 → (List T48) → Prop := fun ⟨x0, uc4, x2⟩ r => ∀ {nz wz S0 w0 Lr} [Gw nz wz] ax1 gx1 uc5 uc6 uc7 uc8 ax2 uc9 uca ucb (_ : Hp nz wz S0 w0 ((some gx1, .row 78 [.slice (Gp uc5) uc6 uc7] 1 0) :: (uc5, .row 49 uc8 (uc7 * kT48.size) 0) :: Lr)) (_ : Els kT48 S0 w0 uc8 uc4) (_ : uc4.length = uc6) (_ : Cs S0 w0 ax1 [(pt gx1 0)]) (_ : x2.Set.length = 4) (_ : Rd kT27 S0 w0 uc9 ucb x2.L) (_ : x2.L.length = uca) (_ : Cs S0 w0 ax2 (.i x2.Kind :: U4 x2.Set [.slice uc9 uca ucb, .i x2.Min, .i x2.Max])),
 Calls Tryd.prog 71 #[.i x0, .pointer (some ax1), .pointer (some ax2)] w0 (Rets (Post.z2g nz wz S0 w0 Lr gx1 r))

def L.z2q (gx0 : Nat) : (List T99) × Int × (List T99) × Int × Int × (List T48) → (List T48) → Prop := fun ⟨x1, x2, x9, x10, x11, u95⟩ r => ∀ S1 w1, Ext S0 w0 S1 w1 → ∀ Ax1 nx1 cx1 Ax9 nx9 cx9 ua6 ua7 ua8 ua9 (_ : Hp nz wz S1 w1 ((some gx0, .row 78 [.slice (Gp ua6) ua7 ua8] 1 0) :: (ua6, .row 49 ua9 (ua8 * kT48.size) 0) :: Lr)) (_ : Rd (kT99 gx0) S1 w1 Ax1 cx1 x1) (_ : x1.length = nx1) (_ : Rd (kT99 gx0) S1 w1 Ax9 cx9 x9) (_ : x9.length = nx9) (_ : Els kT48 S1 w1 ua9 u95) (_ : u95.length = ua7) (junk : Nat → Value),
 Goes Tryd.prog (base 56) Jjm ⟨lfr 35 [(0, (pt gx0 0)), (1, .slice Ax1 nx1 cx1), (2, .i x2), (9, .slice Ax9 nx9 cx9), (10, .i x10), (11, .i x11)] junk, []⟩ w1 (Done Tryd.prog 56 (Rets (Post.z2f nz wz S0 w0 Lr gx0 r)))

def LL.z2q : (List T99) × Int × (List T99) × Int × Int × (List T48) → (List T48) → Prop := fun a r => ∀ {nz wz S0 w0 Lr} [Gw nz wz] (gx0 : Nat), L.z2q nz wz S0 w0 Lr gx0 a r

def LF.z2h : Int × (List T48) × T27 → (List T48) → Prop := fun ⟨x0, uc4, x2⟩ r => ∀ {nz wz S0 w0 Lr} [Gw nz wz] ax1 gx1 uc5 uc6 uc7 uc8 ax2 uc9 uca ucb (_ : Hp nz wz S0 w0 ((some gx1, .row 78 [.slice (Gp uc5) uc6 uc7] 1 0) :: (uc5, .row 49 uc8 (uc7 * kT48.size) 0) :: Lr)) (_ : Els kT48 S0 w0 uc8 uc4) (_ : uc4.length = uc6) (_ : Cs S0 w0 ax1 [(pt gx1 0)]) (_ : x2.Set.length = 4) (_ : Rd kT27 S0 w0 uc9 ucb x2.L) (_ : x2.L.length = uca) (_ : Cs S0 w0 ax2 (.i x2.Kind :: U4 x2.Set [.slice uc9 uca ucb, .i x2.Min, .i x2.Max])),
 Calls Tryd.prog 85 #[.i x0, .pointer (some ax1), .pointer (some ax2)] w0 (Rets (Post.z2h nz wz S0 w0 Lr gx1 r))

def LF.z2i : Int × (List T48) × Int × T27 → (List T48) → Prop := fun ⟨x0, uc4, x2, x3⟩ r => ∀ {nz wz S0 w0 Lr} [Gw nz wz] ax1 gx1 uc5 uc6 uc7 uc8 ax2 ax3 ucc ucd uce (_ : Hp nz wz S0 w0 ((some gx1, .row 78 [.slice (Gp uc5) uc6 uc7] 1 0) :: (uc5, .row 49 uc8 (uc7 * kT48.size) 0) :: Lr)) (_ : Els kT48 S0 w0 uc8 uc4) (_ : uc4.length = uc6) (_ : Cs S0 w0 ax1 [(pt gx1 0)]) (_ : Cs S0 w0 ax2 [.i x2]) (_ : x3.Set.length = 4) (_ : Rd kT27 S0 w0 ucc uce x3.L) (_ : x3.L.length = ucd) (_ : Cs S0 w0 ax3 (.i x3.Kind :: U4 x3.Set [.slice ucc ucd uce, .i x3.Min, .i x3.Max])),
 Calls Tryd.prog 86 #[.i x0, .pointer (some ax1), .pointer (some ax2), .pointer (some ax3)] w0 (Rets (Post.z2i nz wz S0 w0 Lr gx1 r))

def L.z2r (gx0 : Nat) : Int × (List T48) → (List T48) → Prop := fun ⟨x2, u95⟩ r => ∀ S1 w1, Ext S0 w0 S1 w1 → ∀ ua6 ua7 ua8 ua9 (_ : Hp nz wz S1 w1 ((some gx0, .row 78 [.slice (Gp ua6) ua7 ua8] 1 0) :: (ua6, .row 49 ua9 (ua8 * kT48.size) 0) :: Lr)) (_ : Els kT48 S1 w1 ua9 u95) (_ : u95.length = ua7) (junk : Nat → Value),
 Goes Tryd.prog (base 35) Jjf ⟨lfr 59 [(0, (pt gx0 0)), (2, .i x2), (6, .slice none 0 0)] junk, []⟩ w1 (Done Tryd.prog 35 (Rets (Post.z2d nz wz S0 w0 Lr gx0 r)))

def LL.z2r : Int × (List T48) → (List T48) → Prop := fun a r => ∀ {nz wz S0 w0 Lr} [Gw nz wz] (gx0 : Nat), L.z2r nz wz S0 w0 Lr gx0 a r

theorem W.z2s : (∀ a r, M.prog_writer_code a = some r → LF.z2d a r) ∧ (∀ a r, M.prog_writer_code_l2 a = some r → LL.z2r a r) ∧ (∀ a r, M.prog_writer_row a = some r → LF.z2f a r) ∧ (∀ a r, M.prog_writer_row_l0 a = some r → LL.z2o a r) ∧ (∀ a r, M.prog_writer_row_l1 a = some r → LL.z2p a r) ∧ (∀ a r, M.prog_writer_perhaps_1 a = some r → LF.z2i a r) ∧ (∀ a r, M.prog_writer_loop_1 a = some r → LF.z2h a r) ∧ (∀ a r, M.prog_writer_row_l2 a = some r → LL.z2q a r) ∧ (∀ a r, M.prog_writer_of_1 a = some r → LF.z2g a r) ∧ (∀ a r, M.prog_writer_code_l1 a = some r → LL.z2n a r) ∧ (∀ a r, M.prog_writer_code_l0 a = some r → LL.z2l a r) ∧ (∀ a r, M.prog_writer_code_l3 a = some r → LL.z2m a r) ∧ (∀ a r, M.prog_writer_any a = some r → LF.z2e a r) ∧ (∀ a r, M.prog_writer_any_l0 a = some r → LL.z2j a r) ∧ (∀ a r, M.prog_writer_any_l1 a = some r → LL.z2k a r) := by
 refine M.prog_writer_code.mutual_partial_correctness LF.z2d LL.z2r LF.z2f LL.z2o LL.z2p LF.z2i LF.z2h LL.z2q LF.z2g LL.z2n LL.z2l LL.z2m LF.z2e LL.z2j LL.z2k ?_ ?_ ?_ ?_ ?_ ?_ ?_ ?_ ?_ ?_ ?_ ?_ ?_ ?_ ?_
 ·
  intro ucf ucg uch rec_prog_writer_any uci ucj uck ih_prog_writer_any ⟨uaa, x1, x2⟩ r h nz wz S0 w0 Lr iG gx0 uab uac uad uae uak ual uam p0 uaf uag uah uan uao
  try dsimp only at h
  subst uag
  subst uao
  refine calls_of_goes (fn := Tryd.f35) (c := B35) (by kernel_rfl) (by kernel_rfl) 56 (by kernel_rfl) ?_
  refine Goes.jp 59 [(0, (pt gx0 0)), (1, (ag (.i x1.Kind :: U4 x1.Set [.slice uak x1.L.length uam, .i x1.Min, .i x1.Max]))), (2, .i x2)] (fun junk => ?_)
  refine Goes.rn 2 [] Jjp ?_
  refine Op_.box 28 (.tmp 1) 4 0 (ag (.i x1.Kind :: U4 x1.Set [.slice uak x1.L.length uam, .i x1.Min, .i x1.Max])) (.i x1.Kind :: U4 x1.Set [.slice uak x1.L.length uam, .i x1.Min, .i x1.Max]) p0 Goes.v (by kernel_rfl) (by kernel_rfl) ?_
  intro b3 w2 z2 p2
  refine Goes.rn 9 [(6, .slice none 0 0), (9, (pt b3 0))] Jjr ?_
  refine Goes.ld 3 (.tmp 9) 10 3 ⟨b3, 0, none⟩ (.i x1.Kind) (p2.c 0 0) ?_
  refine Goes.rn 7 [(12, .bool (decide (x1.Kind = 1))), (11, .bool (decide (x1.Kind = 1)))] Jjs ?_
  refine ite_some h (fun h5 h => ?_) (fun h5 h => ?_)
  ·
   rw [decide_eq_true h5]
   refine Goes.rn 5 [(13, (pt gx0 0)), (14, (pt b3 1))] Jju ?_
   refine Goes.ldN 25 (.tmp 14) 15 25 ⟨b3, 1, none⟩ (U4 x1.Set []) (p2.pa 0 1) ?_
   refine Goes.rn 2 [(16, .i x2), (17, (ag (.i 1 :: U4 x1.Set [.i x2, .i 0])))] Jjv ?_
   have p2 := (p2.fr 2).fr 2
   refine bind_some' h fun y6 e7 h => ?_
   refine Goes.cal (kc 36 [13, 17] #[76, 49]) 18 3 36 _ (W.z24 uaa (⟨1, x1.Set, x2, 0⟩ : T48) y6 e7 gx0 uab uaa.length uad uae p2 (uaf.ext z2) rfl uah) ?_
   rintro _ w3 ⟨S3, ucl, ucm, ucn, uco, rfl, z3, p3, ucp, rfl⟩
   have p3 := p3.dp 2
   refine Goes.rn 1 [] Jjt ?_
   obtain rfl := Option.some.inj h
   exact Goes.rt Tryd.f35 (.tuple #[]) ⟨S3, ucl, y6.2.length, ucn, uco, rfl, (((Ext.refl S0 w0).trans z2).trans z3), p3, ucp, rfl⟩
  ·
   rw [decide_eq_false h5]
   refine Goes.rn 6 [(20, .bool (decide (x1.Kind = 3))), (19, .bool (decide (x1.Kind = 3)))] Jjw ?_
   refine ite_some h (fun h9 h => ?_) (fun h9 h => ?_)
   ·
    rw [decide_eq_true h9]
    refine Goes.rn 5 [(21, (pt gx0 0)), (22, (pt b3 5))] Jjy ?_
    refine Goes.ld 26 (.tmp 22) 23 26 ⟨b3, 5, none⟩ (.slice uak x1.L.length uam) (p2.c 0 5) ?_
    refine Goes.rn 1 [(24, .i x2)] Jjz ?_
    have p2 := (p2.fr 2).fr 2
    refine bind_some' h fun y10 e11 h => ?_
    refine Goes.cal (kc 53 [21, 23, 24] #[76, 26, 3]) 25 0 53 _ (ih_prog_writer_any (uaa, x1.L, x2) y10 e11 gx0 uab uaa.length uad uae uak x1.L.length uam p2 (uaf.ext z2) rfl (uan.ext z2) rfl) ?_
    rintro _ w4 ⟨S4, ucq, ucr, ucs, uct, rfl, z4, p4, ucu, rfl⟩
    have p4 := p4.dp 2
    refine Goes.rn 1 [] Jjx ?_
    obtain rfl := Option.some.inj h
    exact Goes.rt Tryd.f35 (.tuple #[]) ⟨S4, ucq, y10.length, ucs, uct, rfl, (((Ext.refl S0 w0).trans z2).trans z4), p4, ucu, rfl⟩
   ·
    rw [decide_eq_false h9]
    refine Goes.rn 6 [(27, .bool (decide (x1.Kind = 2))), (26, .bool (decide (x1.Kind = 2)))] Jk0 ?_
    refine ite_some h (fun h13 h => ?_) (fun h13 h => ?_)
    ·
     rw [decide_eq_true h13]
     refine Goes.rn 4 [(28, (pt b3 5))] Jk2 ?_
     refine Goes.ld 26 (.tmp 28) 29 26 ⟨b3, 5, none⟩ (.slice uak x1.L.length uam) (p2.c 0 5) ?_
     refine Goes.rn 5 [(30, .i (x1.L.length : Int)), (31, .i 0)] Jji ?_
     have p2 := p2.dp 0
     exact Goes.jp 59 [(0, (pt gx0 0)), (2, .i x2), (6, .slice none 0 0), (29, .slice uak x1.L.length uam), (30, .i (x1.L.length : Int)), (31, .i 0)] (uck _ _ h gx0 _ _ ((Ext.refl S0 w0).trans z2) uak x1.L.length uam uab uaa.length uad uae p2 (uan.ext z2) rfl (uaf.ext z2) rfl)
    ·
     rw [decide_eq_false h13]
     refine Goes.rn 6 [(43, .bool (decide (x1.Kind = 4))), (42, .bool (decide (x1.Kind = 4)))] Jk3 ?_
     refine ite_some h (fun h15 h => ?_) (fun h15 h => ?_)
     ·
      rw [decide_eq_true h15]
      refine Goes.rn 3 [(44, (pt gx0 0))] Jk4 ?_
      refine Goes.ldN 28 (.tmp 4) 45 28 ⟨b3, 0, none⟩ (.i x1.Kind :: U4 x1.Set [.slice uak x1.L.length uam, .i x1.Min, .i x1.Max]) (p2.pa 0 0) ?_
      refine Goes.rn 1 [(46, .i x2)] Jk5 ?_
      have p2 := (p2.fr 2).fr 2
      refine bind_some' h fun y16 e17 h => ?_
      refine Goes.cal (kc 55 [44, 45, 46] #[76, 28, 3]) 47 95 55 _ (W.z28 uaa x1 x2 y16 e17 gx0 uab uaa.length uad uae uak x1.L.length uam p2 (uaf.ext z2) rfl uah (uan.ext z2) rfl) ?_
      rintro _ w5 ⟨S5, ucv, ucw, ucx, ucy, rfl, z5, p5, ux, rfl⟩
      have p5 := p5.dp 3
      refine Goes.rn 2 [(6, .slice (Gp ucv) y16.length ucx)] Jjf ?_
      exact Goes.jp 59 [(0, (pt gx0 0)), (2, .i x2), (6, .slice (Gp ucv) y16.length ucx)] (ucj _ _ h gx0 _ _ (((Ext.refl S0 w0).trans z2).trans z5) ucv y16.length ucx ucy uab uaa.length uad uae p5 ux rfl (uaf.ext (z2.trans z5)) rfl)
     ·
      rw [decide_eq_false h15]
      refine Goes.rn 2 [] Jjf ?_
      have p2 := p2.dp 0
      exact Goes.jp 59 [(0, (pt gx0 0)), (2, .i x2), (6, .slice none 0 0)] (uci _ _ h gx0 _ _ ((Ext.refl S0 w0).trans z2) uab uaa.length uad uae p2 (uaf.ext z2) rfl)
 ·
  intro rec_prog_writer_row ih_prog_writer_row ⟨x2, u95⟩ r h nz wz S0 w0 Lr iG gx0 S1 w1 hx ua6 ua7 ua8 ua9 p1 ucz ud0 junk
  try dsimp only at h
  subst ud0
  refine Goes.rn 13 [(48, .slice none 0 0), (49, .i 0), (50, .bool true), (51, (pt gx0 0)), (52, .i x2), (53, .agg #[.i 4, .u 0, .u 0, .u 0, .u 0, .i x2, .i 0])] Jk7 ?_
  refine bind_some' h fun y64 e65 h => ?_
  refine Goes.cal (kc 36 [51, 53] #[76, 49]) 54 3 36 _ (W.z24 u95 (⟨4, [0, 0, 0, 0], x2, 0⟩ : T48) y64 e65 gx0 ua6 u95.length ua8 ua9 p1 ucz rfl rfl) ?_
  rintro _ w16 ⟨S16, ud1, ud2, ud3, ud4, rfl, z16, p16, ud5, rfl⟩
  refine Goes.rn 5 [(55, (pt gx0 0)), (56, .slice none 0 0), (57, .i x2)] Jk8 ?_
  refine bind_some' h fun y67 e68 h => ?_
  refine Goes.cal (kc 56 [55, 56, 57] #[76, 95, 3]) 58 0 56 _ (ih_prog_writer_row (y64.2, ([] : List T99), x2) y67 e68 gx0 ud1 y64.2.length ud3 ud4 none 0 0 p16 ud5 rfl Rd.none_ rfl) ?_
  rintro _ w17 ⟨S17, ud6, ud7, ud8, ud9, rfl, z17, p17, uda, rfl⟩
  refine Goes.rn 1 [] [] ?_
  obtain rfl := Option.some.inj h
  exact Goes.end_ (fn := Tryd.f35) (by kernel_rfl) (v := .tuple #[]) (by kernel_rfl) ⟨S17, ud6, y67.length, ud8, ud9, rfl, ((hx.trans z16).trans z17), p17, uda, rfl⟩
 ·
  intro udb udc ⟨uaa, x1, x2⟩ r h nz wz S0 w0 Lr iG gx0 uab uac uad uae Ax1 nx1 cx1 p0 uaf uag fx1 lx1
  try dsimp only at h
  subst uag
  subst lx1
  refine calls_of_goes (fn := Tryd.f56) (c := B56) (by kernel_rfl) (by kernel_rfl) 32 (by kernel_rfl) ?_
  refine Goes.jp 35 [(0, (pt gx0 0)), (1, .slice Ax1 x1.length cx1), (2, .i x2)] (fun junk => ?_)
  refine Goes.rn 8 [(9, .slice Ax1 x1.length cx1), (10, .i (x1.length : Int)), (11, .i 0)] Jjk ?_
  exact Goes.jp 35 [(0, (pt gx0 0)), (1, .slice Ax1 x1.length cx1), (2, .i x2), (9, .slice Ax1 x1.length cx1), (10, .i (x1.length : Int)), (11, .i 0)] (udc _ _ h gx0 _ _ (Ext.refl S0 w0) Ax1 x1.length cx1 Ax1 x1.length cx1 uab uaa.length uad uae p0 fx1 rfl fx1 rfl uaf rfl)
 ·
  intro udd ude ⟨x1, x2, x9, x10, x11, u95⟩ r h nz wz S0 w0 Lr iG gx0 S1 w1 hx Ax1 nx1 cx1 Ax9 nx9 cx9 ua6 ua7 ua8 ua9 p1 fx1 lx1 fx9 lx9 ucz ud0 junk
  try dsimp only at h
  subst lx1
  subst lx9
  subst ud0
  refine Goes.rn 5 [(12, .bool (decide (x11 < x10)))] Jka ?_
  refine ite_some h (fun h4 h => ?_) (fun h4 h => ?_)
  ·
   rw [decide_eq_true h4]
   refine Goes.rn 7 [(13, .i x11)] Jkc ?_
   refine guard_some' h fun g5 h => ?_
   refine guard_some' h fun g6 h => ?_
   refine Op_.ixR_n 95 (.tmp 9) (.tmp 11) 14 0 100 .i64 x11 (gi x9 x11) rfl rfl fx9 Goes.v (by kernel_rfl) (by kernel_rfl) (by kernel_rfl) (by kernel_rfl) g5 g6 ?_
   intro a7 _ f8 q9
   obtain ⟨_, _, rfl, rfl, q12⟩ := q9
   obtain ⟨v10, rfl, f11⟩ := rp1_one rfl q12
   refine Goes.ldN 100 (.tmp 14) 15 100 a7 ([.i ((gi x9 x11).n)] ++ [v10]) (f8.cell) ?_
   refine Op_.alloc 100 7 0 (.agg #[.i 0, .nilFunc]) [.i 0, .nilFunc] p1 Goes.v (by kernel_rfl) (by kernel_rfl) ?_
   intro b13 w2 z2 p2
   refine Goes.rn 1 [(6, .i x11)] Jkd ?_
   refine Op_.st 100 (.tmp 7) (.tmp 15) 0 0 b13 0 (.agg #[.i ((gi x9 x11).n), v10]) [.i ((gi x9 x11).n), v10] p2 rfl Goes.s (by kernel_rfl) (by kernel_rfl) (by kernel_rfl) (by kernel_rfl) (Nat.zero_le _) (by simp only [List.length_cons, List.length_nil]; omega) (by intro v hv; simp only [List.mem_cons, List.not_mem_nil, or_false] at hv; rcases hv with rfl | rfl <;> first | rfl | exact Rp1.one1 (f11.ext z2)) ?_
   intro w3 z3 p3
   have p3 : Hp nz wz S1 w3 ((some b13, .row 100 [.i ((gi x9 x11).n), v10] 2 0) :: (some gx0, .row 78 [.slice (Gp ua6) u95.length ua8] 1 0) :: (ua6, .row 49 ua9 (ua8 * kT48.size) 0) :: Lr) := p3
   refine Goes.rn 14 [(16, .i x2), (8, .i x2), (17, .i x11), (18, .slice Ax1 x1.length cx1), (19, .i (x1.length : Int)), (20, .i (wr .i64 ((x1.length : Int) - 1))), (21, .bool (decide (x11 < wr .i64 ((x1.length : Int) - 1))))] Jkf ?_
   refine Goes.rn 1 [] Jke ?_
   refine ite_some h (fun h15 h => ?_) (fun h15 h => ?_)
   ·
    rw [decide_eq_true h15]
    refine Goes.rn 1 [] Jkg ?_
    have z4 : Ext S1 w3 S1 (w3).drew := Ext.draw
    have p4 := p3.draw
    refine Goes.drawn (s := []) (F := Fc S1 (w3).drew [(⟨gx0, 0, none⟩, .slice (Gp ua6) u95.length ua8), (⟨b13, 0, none⟩, .i ((gi x9 x11).n))]) 5 9 (by kernel_rfl) (by kernel_rfl) (by kernel_rfl) (by kernel_rfl) ?_
    generalize (w3).drew = w4 at z4 p4 ⊢
    refine AnyG.pu 0 (.move (.tmp 0)) 22 76 ((pt gx0 0)) (Fc.here (p4.cs [(1, 0, 1), (0, 0, 1)])) ?_
    refine AnyG.pu 1 (.nilCheck (.tmp 22)) 23 0 ((pt gx0 0)) (Fc.here (p4.cs [(1, 0, 1), (0, 0, 1)])) ?_
    refine AnyG.pu 2 (.fieldAddr 78 (.tmp 23) 0) 24 0 ((pt gx0 0)) (Fc.here (p4.cs [(1, 0, 1), (0, 0, 1)])) ?_
    refine AnyG.ld1 (i := 3) 37 (.tmp 24) 25 37 ⟨gx0, 0, none⟩ (.slice (Gp ua6) u95.length ua8) (by kernel_rfl) (by kernel_rfl) (Fc.here (p4.cs [(1, 0, 1), (0, 0, 1)])) (by kernel_rfl) (by kernel_rfl) (fun _ h => h.2.at_ 0 rfl) ?_
    refine AnyG.pu 4 (.call { callee := .builtin .len, args := #[(.tmp 25)], argTypes := #[37] }) 26 3 (.i (u95.length : Int)) (Fc.here (p4.cs [(1, 0, 1), (0, 0, 1)])) ?_
    refine AnyG.pu 5 (.fieldAddr 100 (.tmp 7) 0) 27 0 ((pt b13 0)) (Fc.here (p4.cs [(1, 0, 1), (0, 0, 1)])) ?_
    refine AnyG.ld1 (i := 6) 3 (.tmp 27) 28 3 ⟨b13, 0, none⟩ (.i ((gi x9 x11).n)) (by kernel_rfl) (by kernel_rfl) (Fc.here (p4.cs [(1, 0, 1), (0, 0, 1)])) (by kernel_rfl) (by kernel_rfl) (fun _ h => h.2.at_ 1 rfl) ?_
    refine AnyG.pu 7 (.binOp .add 3 (.tmp 26) (.tmp 28) 3) 29 3 (.i (wr .i64 ((u95.length : Int) + ((gi x9 x11).n)))) (Fc.here (p4.cs [(1, 0, 1), (0, 0, 1)])) ?_
    refine AnyG.pu 8 (.assign (.tmp 29)) 8 3 (.i (wr .i64 ((u95.length : Int) + ((gi x9 x11).n)))) (Fc.here (p4.cs [(1, 0, 1), (0, 0, 1)])) ?_
    refine AnyG.done (by kernel_rfl) ?_ _
    exact Goes.jp 35 [(0, (pt gx0 0)), (1, .slice Ax1 x1.length cx1), (2, .i x2), (7, (pt b13 0)), (8, .i (wr .i64 ((u95.length : Int) + ((gi x9 x11).n)))), (9, .slice Ax9 x9.length cx9), (10, .i x10), (11, .i x11)] (ude _ _ h gx0 _ _ (((hx.trans z2).trans z3).trans z4) Ax1 x1.length cx1 b13 v10 Ax9 x9.length cx9 ua6 u95.length ua8 ua9 p4 (fx1.ext ((z2.trans z3).trans z4)) rfl (f11.ext ((z2.trans z3).trans z4)) (fx9.ext ((z2.trans z3).trans z4)) rfl (ucz.ext ((z2.trans z3).trans z4)) rfl)
   ·
    rw [decide_eq_false h15]
    refine Goes.rn 2 [] Jjn ?_
    exact Goes.jp 35 [(0, (pt gx0 0)), (1, .slice Ax1 x1.length cx1), (2, .i x2), (7, (pt b13 0)), (8, .i x2), (9, .slice Ax9 x9.length cx9), (10, .i x10), (11, .i x11)] (ude _ _ h gx0 _ _ ((hx.trans z2).trans z3) Ax1 x1.length cx1 b13 v10 Ax9 x9.length cx9 ua6 u95.length ua8 ua9 p3 (fx1.ext (z2.trans z3)) rfl (f11.ext (z2.trans z3)) (fx9.ext (z2.trans z3)) rfl (ucz.ext (z2.trans z3)) rfl)
  ·
   rw [decide_eq_false h4]
   refine Goes.rn 2 [] [] ?_
   obtain rfl := Option.some.inj h
   exact Goes.end_ (fn := Tryd.f56) (by kernel_rfl) (v := .tuple #[]) (by kernel_rfl) ⟨S1, ua6, u95.length, ua8, ua9, rfl, hx, p1, ucz, rfl⟩
 ·
  intro udf udg udh udi udj udk udl udm ⟨x1, x2, x7v, x8, x9, x10, x11, u95⟩ r h nz wz S0 w0 Lr iG gx0 S1 w1 hx Ax1 nx1 cx1 gx7 uc3 Ax9 nx9 cx9 ua6 ua7 ua8 ua9 p1 fx1 lx1 udn fx9 lx9 ucz ud0 junk
  try dsimp only at h
  subst lx1
  subst lx9
  subst ud0
  refine Goes.rn 2 [(30, (pt gx7 1))] Jkh ?_
  refine Goes.ld 98 (.tmp 30) 31 98 ⟨gx7, 1, none⟩ (uc3) (p1.c 0 1) ?_
  refine Goes.rn 1 [(32, .i x8)] Jki ?_
  refine let_some h fun v19 e20 h => ?_
  have f18 : Rp1 (kC98 gx0) S1 w1 uc3 v19 := by rw [← e20]; exact udn
  rcases v19 with y21 | y33 | y45
  ·
   try dsimp only at h
   obtain ⟨_, rfl, ⟨_, _, rfl, ⟨a22, rfl, f23⟩, ⟨a24, _, rfl, -, f25, q26⟩⟩⟩ := kFn_get (kSum_l f18)
   have q27 := q26
   obtain ⟨_, _, rfl, rfl, ⟨_, _, rfl, ⟨l28, f29⟩, ⟨_, _, rfl, ⟨A30, c31, rfl, f32⟩, ⟨_, _, rfl, rfl, rfl⟩⟩⟩⟩ := kT27_open q27
   obtain rfl := els_lit4' f29 l28
   have p1 := (p1.fr 2).fr 2
   refine bind_some' h fun y60 e61 h => ?_
   refine Goes.cal (.call { callee := .value (.tmp 31), args := #[(.tmp 32)], argTypes := #[3] }) 33 0 71 _ (udm (x8, u95, y21) y60 e61 a22 gx0 ua6 u95.length ua8 ua9 a24 A30 y21.L.length c31 p1 ucz rfl f23 l28 f32 rfl f25) ?_
   rintro _ w5 ⟨S5, udo, udp, udq, udr, rfl, z5, p5, uds, rfl⟩
   have p5 := p5.dp 2
   refine Goes.rn 1 [] Jjm ?_
   exact Goes.jp 35 [(0, (pt gx0 0)), (1, .slice Ax1 x1.length cx1), (2, .i x2), (9, .slice Ax9 x9.length cx9), (10, .i x10), (11, .i x11)] (udl _ _ h gx0 _ _ (hx.trans z5) Ax1 x1.length cx1 Ax9 x9.length cx9 udo y60.length udq udr p5 (fx1.ext z5) rfl (fx9.ext z5) rfl uds rfl)
  ·
   try dsimp only at h
   obtain ⟨_, rfl, ⟨_, _, rfl, ⟨a34, rfl, f35⟩, ⟨a36, _, rfl, -, f37, q38⟩⟩⟩ := kFn_get (kSum_l (kSum_r f18))
   have q39 := q38
   obtain ⟨_, _, rfl, rfl, ⟨_, _, rfl, ⟨l40, f41⟩, ⟨_, _, rfl, ⟨A42, c43, rfl, f44⟩, ⟨_, _, rfl, rfl, rfl⟩⟩⟩⟩ := kT27_open q39
   obtain rfl := els_lit4' f41 l40
   have p1 := (p1.fr 2).fr 2
   refine bind_some' h fun y64 e65 h => ?_
   refine Goes.cal (.call { callee := .value (.tmp 31), args := #[(.tmp 32)], argTypes := #[3] }) 33 0 85 _ (udk (x8, u95, y33) y64 e65 a34 gx0 ua6 u95.length ua8 ua9 a36 A42 y33.L.length c43 p1 ucz rfl f35 l40 f44 rfl f37) ?_
   rintro _ w6 ⟨S6, udt, udu, udv, udw, rfl, z6, p6, udx, rfl⟩
   have p6 := p6.dp 2
   refine Goes.rn 1 [] Jjm ?_
   exact Goes.jp 35 [(0, (pt gx0 0)), (1, .slice Ax1 x1.length cx1), (2, .i x2), (9, .slice Ax9 x9.length cx9), (10, .i x10), (11, .i x11)] (udl _ _ h gx0 _ _ (hx.trans z6) Ax1 x1.length cx1 Ax9 x9.length cx9 udt y64.length udv udw p6 (fx1.ext z6) rfl (fx9.ext z6) rfl udx rfl)
  ·
   try dsimp only at h
   obtain ⟨_, rfl, ⟨_, _, rfl, ⟨a46, rfl, f47⟩, ⟨_, _, rfl, ⟨a48, _, rfl, -, f49, q50⟩, ⟨a51, _, rfl, -, f52, q53⟩⟩⟩⟩ := kFn_get (kSum_r (kSum_r f18))
   obtain rfl := q50
   have q54 := q53
   obtain ⟨_, _, rfl, rfl, ⟨_, _, rfl, ⟨l55, f56⟩, ⟨_, _, rfl, ⟨A57, c58, rfl, f59⟩, ⟨_, _, rfl, rfl, rfl⟩⟩⟩⟩ := kT27_open q54
   obtain rfl := els_lit4' f56 l55
   have p1 := (p1.fr 2).fr 2
   refine bind_some' h fun y67 e68 h => ?_
   refine Goes.cal (.call { callee := .value (.tmp 31), args := #[(.tmp 32)], argTypes := #[3] }) 33 0 86 _ (udj (x8, u95, y45.1, y45.2) y67 e68 a46 gx0 ua6 u95.length ua8 ua9 a48 a51 A57 y45.2.L.length c58 p1 ucz rfl f47 f49 l55 f59 rfl f52) ?_
   rintro _ w7 ⟨S7, udy, udz, ue0, ue1, rfl, z7, p7, ue2, rfl⟩
   have p7 := p7.dp 2
   refine Goes.rn 1 [] Jjm ?_
   exact Goes.jp 35 [(0, (pt gx0 0)), (1, .slice Ax1 x1.length cx1), (2, .i x2), (9, .slice Ax9 x9.length cx9), (10, .i x10), (11, .i x11)] (udl _ _ h gx0 _ _ (hx.trans z7) Ax1 x1.length cx1 Ax9 x9.length cx9 udy y67.length ue0 ue1 p7 (fx1.ext z7) rfl (fx9.ext z7) rfl ue2 rfl)
 ·
  intro rec_prog_writer_code ih_prog_writer_code ⟨x0, uc4, x2, x3⟩ r h nz wz S0 w0 Lr iG ax1 gx1 uc5 uc6 uc7 uc8 ax2 ax3 ucc ucd uce p0 ue3 ue4 ue5 ue6 ue7 ue8 ue9 uea
  try dsimp only at h
  subst ue4
  subst ue9
  refine calls_of_goes (fn := Tryd.f86) (c := B86) (by kernel_rfl) (by kernel_rfl) 15 (by kernel_rfl) ?_
  refine Goes.jp 19 [(0, .i x0), (1, .pointer (some ax1)), (2, .pointer (some ax2)), (3, .pointer (some ax3))] (fun junk => ?_)
  refine Goes.rn 1 [] Jkk ?_
  have z2 : Ext S0 w0 S0 (w0).drew := Ext.draw
  have p2 := p0.draw
  refine Goes.drawn (s := [9]) (F := Fc S0 (w0).drew []) 0 10 (by kernel_rfl) (by kernel_rfl) (by kernel_rfl) (by kernel_rfl) ?_
  generalize (w0).drew = w2 at z2 p2 ⊢
  refine AnyG.ld1 (i := 0) 76 (.tmp 1) 5 76 ax1 ((pt gx1 0)) (by kernel_rfl) (by kernel_rfl) (Fc.here trivial) (by kernel_rfl) (by kernel_rfl) (fun _ h => (ue5.ext z2).fc h 0 _ rfl) ?_
  refine AnyG.ld1 (i := 1) 76 (.tmp 1) 6 76 ax1 ((pt gx1 0)) (by kernel_rfl) (by kernel_rfl) (Fc.here trivial) (by kernel_rfl) (by kernel_rfl) (fun _ h => (ue5.ext z2).fc h 0 _ rfl) ?_
  refine AnyG.pu 2 (.nilCheck (.tmp 6)) 7 0 ((pt gx1 0)) (Fc.here trivial) ?_
  refine AnyG.pu 3 (.fieldAddr 78 (.tmp 7) 0) 8 0 ((pt gx1 0)) (Fc.here trivial) ?_
  refine AnyG.ld1 (i := 7) 3 (.tmp 2) 12 3 ax2 (.i x2) (by kernel_rfl) (by kernel_rfl) (Fc.here trivial) (by kernel_rfl) (by kernel_rfl) (fun _ h => (ue6.ext z2).fc h 0 _ rfl) ?_
  refine Op_.ld1 37 (.tmp 8) 9 37 ⟨gx1, 0, none⟩ (.slice (Gp uc5) uc4.length uc7) (AnyG.vs (i := 4) (by kernel_rfl) (by kernel_rfl)) (by kernel_rfl) (by kernel_rfl) (p2.c 0 0) ?_
  refine AnyG.next (Ext.refl _ _) trivial ?_
  refine AnyG.pu 5 (.call { callee := .builtin .len, args := #[(.tmp 9)], argTypes := #[37] }) 10 3 (.i (uc4.length : Int)) (Fc.here trivial) ?_
  refine AnyG.pu 6 (.binOp .add 3 (.tmp 10) (.const (.int .i64 1)) 3) 11 3 (.i (wr .i64 ((uc4.length : Int) + 1))) (Fc.here trivial) ?_
  refine AnyG.pu 8 (.build 49 #[(0, (.const (.int .i64 2))), (2, (.tmp 11)), (3, (.tmp 12))]) 13 49 (.agg #[.i 2, .u 0, .u 0, .u 0, .u 0, .i (wr .i64 ((uc4.length : Int) + 1)), .i x2]) (Fc.here trivial) ?_
  refine bind_some' h fun y3 e4 h => ?_
  refine Op_.call (kc 36 [5, 13] #[76, 49]) 14 3 36 #[(pt gx1 0), .agg #[.i 2, .u 0, .u 0, .u 0, .u 0, .i (wr .i64 ((uc4.length : Int) + 1)), .i x2]] (AnyG.cs (i := 9) (by kernel_rfl) (by kernel_rfl)) (by kernel_rfl) (W.z24 uc4 (⟨2, [0, 0, 0, 0], wr .i64 ((uc4.length : Int) + 1), x2⟩ : T48) y3 e4 gx1 uc5 uc4.length uc7 uc8 p2 (ue3.ext z2) rfl rfl) ?_
  rintro _ w3 ⟨S3, ucl, ucm, ucn, uco, rfl, z3, p3, ucp, rfl⟩
  refine AnyG.last [] (Fc S3 w3 []) (by decide) ?_
  refine AnyG.done (by kernel_rfl) ?_ _
  refine Goes.rn 1 [] Jkl ?_
  refine Goes.ld 76 (.tmp 1) 15 76 ax1 ((pt gx1 0)) ((ue5.ext (z2.trans z3)).cell 0 _ rfl) ?_
  refine Goes.ldN 28 (.tmp 3) 16 28 ax3 (.i x3.Kind :: U4 x3.Set [.slice ucc x3.L.length uce, .i x3.Min, .i x3.Max]) ((uea.ext (z2.trans z3)).cell) ?_
  refine Goes.rn 1 [(17, .i x0)] Jkm ?_
  refine bind_some' h fun y6 e7 h => ?_
  refine Goes.cal (kc 35 [15, 16, 17] #[76, 28, 3]) 18 0 35 _ (ih_prog_writer_code (y3.2, x3, x0) y6 e7 gx1 ucl y3.2.length ucn uco ucc x3.L.length uce p3 ucp rfl ue7 (ue8.ext (z2.trans z3)) rfl) ?_
  rintro _ w4 ⟨S4, ucq, ucr, ucs, uct, rfl, z4, p4, ucu, rfl⟩
  refine Goes.rn 1 [] [] ?_
  obtain rfl := Option.some.inj h
  exact Goes.end_ (fn := Tryd.f86) (by kernel_rfl) (v := .tuple #[]) (by kernel_rfl) ⟨S4, ucq, y6.length, ucs, uct, rfl, ((((Ext.refl S0 w0).trans z2).trans z3).trans z4), p4, ucu, rfl⟩
 ·
  intro rec_prog_writer_code ih_prog_writer_code ⟨x0, uc4, x2⟩ r h nz wz S0 w0 Lr iG ax1 gx1 uc5 uc6 uc7 uc8 ax2 uc9 uca ucb p0 ue3 ue4 ue5 ueb uec ued ue6
  try dsimp only at h
  subst ue4
  subst ued
  refine calls_of_goes (fn := Tryd.f85) (c := B85) (by kernel_rfl) (by kernel_rfl) 16 (by kernel_rfl) ?_
  refine Goes.jp 19 [(0, .i x0), (1, .pointer (some ax1)), (2, .pointer (some ax2))] (fun junk => ?_)
  refine Goes.rn 1 [] Jko ?_
  have z2 : Ext S0 w0 S0 (w0).drew := Ext.draw
  have p2 := p0.draw
  refine Goes.drawn (s := [9]) (F := Fc S0 (w0).drew []) 0 11 (by kernel_rfl) (by kernel_rfl) (by kernel_rfl) (by kernel_rfl) ?_
  generalize (w0).drew = w2 at z2 p2 ⊢
  refine AnyG.ld1 (i := 0) 76 (.tmp 1) 5 76 ax1 ((pt gx1 0)) (by kernel_rfl) (by kernel_rfl) (Fc.here trivial) (by kernel_rfl) (by kernel_rfl) (fun _ h => (ue5.ext z2).fc h 0 _ rfl) ?_
  refine AnyG.ld1 (i := 1) 76 (.tmp 1) 6 76 ax1 ((pt gx1 0)) (by kernel_rfl) (by kernel_rfl) (Fc.here trivial) (by kernel_rfl) (by kernel_rfl) (fun _ h => (ue5.ext z2).fc h 0 _ rfl) ?_
  refine AnyG.pu 2 (.nilCheck (.tmp 6)) 7 0 ((pt gx1 0)) (Fc.here trivial) ?_
  refine AnyG.pu 3 (.fieldAddr 78 (.tmp 7) 0) 8 0 ((pt gx1 0)) (Fc.here trivial) ?_
  refine AnyG.pu 7 (.move (.tmp 0)) 12 3 (.i x0) (Fc.here trivial) ?_
  refine Op_.ld1 37 (.tmp 8) 9 37 ⟨gx1, 0, none⟩ (.slice (Gp uc5) uc4.length uc7) (AnyG.vs (i := 4) (by kernel_rfl) (by kernel_rfl)) (by kernel_rfl) (by kernel_rfl) (p2.c 0 0) ?_
  refine AnyG.next (Ext.refl _ _) trivial ?_
  refine AnyG.pu 5 (.call { callee := .builtin .len, args := #[(.tmp 9)], argTypes := #[37] }) 10 3 (.i (uc4.length : Int)) (Fc.here trivial) ?_
  refine AnyG.pu 6 (.binOp .add 3 (.tmp 10) (.const (.int .i64 1)) 3) 11 3 (.i (wr .i64 ((uc4.length : Int) + 1))) (Fc.here trivial) ?_
  refine AnyG.pu 8 (.build 49 #[(0, (.const (.int .i64 2))), (2, (.tmp 11)), (3, (.tmp 12))]) 13 49 (.agg #[.i 2, .u 0, .u 0, .u 0, .u 0, .i (wr .i64 ((uc4.length : Int) + 1)), .i x0]) (Fc.here trivial) ?_
  refine bind_some' h fun y3 e4 h => ?_
  refine Op_.call (kc 36 [5, 13] #[76, 49]) 14 3 36 #[(pt gx1 0), .agg #[.i 2, .u 0, .u 0, .u 0, .u 0, .i (wr .i64 ((uc4.length : Int) + 1)), .i x0]] (AnyG.cs (i := 9) (by kernel_rfl) (by kernel_rfl)) (by kernel_rfl) (W.z24 uc4 (⟨2, [0, 0, 0, 0], wr .i64 ((uc4.length : Int) + 1), x0⟩ : T48) y3 e4 gx1 uc5 uc4.length uc7 uc8 p2 (ue3.ext z2) rfl rfl) ?_
  rintro _ w3 ⟨S3, ucl, ucm, ucn, uco, rfl, z3, p3, ucp, rfl⟩
  refine AnyG.last [] (Fc S3 w3 []) (by decide) ?_
  refine AnyG.pu 10 (.assign (.tmp 14)) 4 3 (.i y3.1) (Fc.here trivial) ?_
  refine AnyG.done (by kernel_rfl) ?_ _
  refine Goes.rn 1 [] Jkp ?_
  refine Goes.ld 76 (.tmp 1) 15 76 ax1 ((pt gx1 0)) ((ue5.ext (z2.trans z3)).cell 0 _ rfl) ?_
  refine Goes.ldN 28 (.tmp 2) 16 28 ax2 (.i x2.Kind :: U4 x2.Set [.slice uc9 x2.L.length ucb, .i x2.Min, .i x2.Max]) ((ue6.ext (z2.trans z3)).cell) ?_
  refine Goes.rn 1 [(17, .i y3.1)] Jkq ?_
  refine bind_some' h fun y6 e7 h => ?_
  refine Goes.cal (kc 35 [15, 16, 17] #[76, 28, 3]) 18 0 35 _ (ih_prog_writer_code (y3.2, x2, y3.1) y6 e7 gx1 ucl y3.2.length ucn uco uc9 x2.L.length ucb p3 ucp rfl ueb (uec.ext (z2.trans z3)) rfl) ?_
  rintro _ w4 ⟨S4, ucq, ucr, ucs, uct, rfl, z4, p4, ucu, rfl⟩
  refine Goes.rn 1 [] [] ?_
  obtain rfl := Option.some.inj h
  exact Goes.end_ (fn := Tryd.f85) (by kernel_rfl) (v := .tuple #[]) (by kernel_rfl) ⟨S4, ucq, y6.length, ucs, uct, rfl, ((((Ext.refl S0 w0).trans z2).trans z3).trans z4), p4, ucu, rfl⟩
 ·
  intro udb udc ⟨x1, x2, x9, x10, x11, u95⟩ r h nz wz S0 w0 Lr iG gx0 S1 w1 hx Ax1 nx1 cx1 Ax9 nx9 cx9 ua6 ua7 ua8 ua9 p1 fx1 lx1 fx9 lx9 ucz ud0 junk
  try dsimp only at h
  subst lx1
  subst lx9
  subst ud0
  refine Goes.rn 6 [(34, .i (wr .i64 (x11 + 1))), (11, .i (wr .i64 (x11 + 1)))] Jjk ?_
  exact Goes.jp 35 [(0, (pt gx0 0)), (1, .slice Ax1 x1.length cx1), (2, .i x2), (9, .slice Ax9 x9.length cx9), (10, .i x10), (11, .i (wr .i64 (x11 + 1)))] (udc _ _ h gx0 _ _ hx Ax1 x1.length cx1 Ax9 x9.length cx9 ua6 u95.length ua8 ua9 p1 fx1 rfl fx9 rfl ucz rfl)
 ·
  intro rec_prog_writer_code ih_prog_writer_code ⟨x0, uc4, x2⟩ r h nz wz S0 w0 Lr iG ax1 gx1 uc5 uc6 uc7 uc8 ax2 uc9 uca ucb p0 ue3 ue4 ue5 ueb uec ued ue6
  try dsimp only at h
  subst ue4
  subst ued
  refine calls_of_goes (fn := Tryd.f71) (c := B71) (by kernel_rfl) (by kernel_rfl) 5 (by kernel_rfl) ?_
  refine Goes.jp 8 [(0, .i x0), (1, .pointer (some ax1)), (2, .pointer (some ax2))] (fun junk => ?_)
  refine Goes.rn 1 [] Jkr ?_
  refine Goes.ld 76 (.tmp 1) 4 76 ax1 ((pt gx1 0)) (ue5.cell 0 _ rfl) ?_
  refine Goes.ldN 28 (.tmp 2) 5 28 ax2 (.i x2.Kind :: U4 x2.Set [.slice uc9 x2.L.length ucb, .i x2.Min, .i x2.Max]) (ue6.cell) ?_
  refine Goes.rn 1 [(6, .i x0)] Jks ?_
  refine bind_some' h fun y3 e4 h => ?_
  refine Goes.cal (kc 35 [4, 5, 6] #[76, 28, 3]) 7 0 35 _ (ih_prog_writer_code (uc4, x2, x0) y3 e4 gx1 uc5 uc4.length uc7 uc8 uc9 x2.L.length ucb p0 ue3 rfl ueb uec rfl) ?_
  rintro _ w2 ⟨S2, uee, uef, ueg, ueh, rfl, z2, p2, uei, rfl⟩
  refine Goes.rn 1 [] [] ?_
  obtain rfl := Option.some.inj h
  exact Goes.end_ (fn := Tryd.f71) (by kernel_rfl) (v := .tuple #[]) (by kernel_rfl) ⟨S2, uee, y3.length, ueg, ueh, rfl, ((Ext.refl S0 w0).trans z2), p2, uei, rfl⟩
 ·
  intro rec_prog_writer_row ih_prog_writer_row ⟨x2, x6, u95⟩ r h nz wz S0 w0 Lr iG gx0 S1 w1 hx Gx6 nx6 cx6 uc2 ua6 ua7 ua8 ua9 p1 fx6 lx6 ucz ud0 junk
  try dsimp only at h
  subst lx6
  subst ud0
  refine Goes.rn 8 [(48, .slice (Gp Gx6) x6.length cx6), (49, .i (x6.length : Int)), (50, .bool (decide ((x6.length : Int) = 0)))] Jkt ?_
  refine ite_some h (fun h52 h => ?_) (fun h52 h => ?_)
  ·
   rw [decide_eq_true h52]
   refine Goes.rn 5 [(51, (pt gx0 0)), (52, .i x2), (53, .agg #[.i 4, .u 0, .u 0, .u 0, .u 0, .i x2, .i 0])] Jk7 ?_
   have p1 := (p1.fr 2).fr 2
   refine bind_some' h fun y53 e54 h => ?_
   refine Goes.cal (kc 36 [51, 53] #[76, 49]) 54 3 36 _ (W.z24 u95 (⟨4, [0, 0, 0, 0], x2, 0⟩ : T48) y53 e54 gx0 ua6 u95.length ua8 ua9 p1 ucz rfl rfl) ?_
   rintro _ w11 ⟨S11, uej, uek, uel, uem, rfl, z11, p11, uen, rfl⟩
   refine Goes.rn 5 [(55, (pt gx0 0)), (56, .slice (Gp Gx6) x6.length cx6), (57, .i x2)] Jk8 ?_
   obtain ⟨S12, z12, p12, f56⟩ := p11.freezeRd 2 rfl (fx6.ext z11) (show (0 : Nat) < 2 by decide)
   refine bind_some' h fun y57 e58 h => ?_
   refine Goes.cal (kc 56 [55, 56, 57] #[76, 95, 3]) 58 0 56 _ (ih_prog_writer_row (y53.2, x6, x2) y57 e58 gx0 uej y53.2.length uel uem (Gp Gx6) x6.length cx6 p12 (uen.ext z12) rfl f56 rfl) ?_
   rintro _ w13 ⟨S13, ueo, uep, ueq, uer, rfl, z13, p13, ues, rfl⟩
   have p13 := p13.dp 2
   refine Goes.rn 1 [] [] ?_
   obtain rfl := Option.some.inj h
   exact Goes.end_ (fn := Tryd.f35) (by kernel_rfl) (v := .tuple #[]) (by kernel_rfl) ⟨S13, ueo, y57.length, ueq, uer, rfl, (((hx.trans z11).trans z12).trans z13), p13, ues, rfl⟩
  ·
   rw [decide_eq_false h52]
   refine Goes.rn 6 [(55, (pt gx0 0)), (56, .slice (Gp Gx6) x6.length cx6), (57, .i x2)] Jk8 ?_
   obtain ⟨S14, z14, p14, f60⟩ := p1.freezeRd 0 rfl fx6 (show (0 : Nat) < 2 by decide)
   have p14 := (p14.fr 2).fr 2
   refine bind_some' h fun y61 e62 h => ?_
   refine Goes.cal (kc 56 [55, 56, 57] #[76, 95, 3]) 58 0 56 _ (ih_prog_writer_row (u95, x6, x2) y61 e62 gx0 ua6 u95.length ua8 ua9 (Gp Gx6) x6.length cx6 p14 (ucz.ext z14) rfl f60 rfl) ?_
   rintro _ w15 ⟨S15, uet, ueu, uev, uew, rfl, z15, p15, uex, rfl⟩
   have p15 := p15.dp 2
   refine Goes.rn 1 [] [] ?_
   obtain rfl := Option.some.inj h
   exact Goes.end_ (fn := Tryd.f35) (by kernel_rfl) (v := .tuple #[]) (by kernel_rfl) ⟨S15, uet, y61.length, uev, uew, rfl, ((hx.trans z14).trans z15), p15, uex, rfl⟩
 ·
  intro ucf uey uci uez ⟨x2, x29, x30, x31, u95⟩ r h nz wz S0 w0 Lr iG gx0 S1 w1 hx ubz uc0 uc1 ua6 ua7 ua8 ua9 p1 uf0 uf1 ucz ud0 junk
  try dsimp only at h
  subst uf1
  subst ud0
  refine Goes.rn 5 [(32, .bool (decide (x31 < x30)))] Jkv ?_
  refine ite_some h (fun h22 h => ?_) (fun h22 h => ?_)
  ·
   rw [decide_eq_true h22]
   refine Goes.rn 6 [] Jkz ?_
   refine guard_some' h fun g23 h => ?_
   refine guard_some' h fun g24 h => ?_
   refine Op_.ixR_n 26 (.tmp 29) (.tmp 31) 33 0 28 .i64 x31 (gi x29 x31) rfl rfl uf0 Goes.v (by kernel_rfl) (by kernel_rfl) (by kernel_rfl) (by kernel_rfl) g23 g24 ?_
   intro a25 _ f26 q27
   have q28 := q27
   obtain ⟨_, _, rfl, rfl, ⟨_, _, rfl, ⟨l29, f30⟩, ⟨_, _, rfl, ⟨A31, c32, rfl, f33⟩, ⟨_, _, rfl, rfl, rfl⟩⟩⟩⟩ := kT27_open q28
   obtain rfl := els_lit4' f30 l29
   refine Goes.ldN 28 (.tmp 33) 34 28 a25 ([.i ((gi x29 x31).Kind)] ++ ((U4 ((gi x29 x31).Set) []) ++ ([.slice A31 (((gi x29 x31).L).length) c32] ++ ([.i ((gi x29 x31).Min)] ++ [.i ((gi x29 x31).Max)])))) (f26.cell) ?_
   refine Op_.alloc 28 8 0 (.agg #[.i 0, .u 0, .u 0, .u 0, .u 0, .slice none 0 0, .i 0, .i 0]) [.i 0, .u 0, .u 0, .u 0, .u 0, .slice none 0 0, .i 0, .i 0] p1 Goes.v (by kernel_rfl) (by kernel_rfl) ?_
   intro b34 w6 z6 p6
   refine Op_.st 28 (.tmp 8) (.tmp 34) 0 0 b34 0 (ag (.i ((gi x29 x31).Kind) :: U4 ((gi x29 x31).Set) [.slice A31 (((gi x29 x31).L).length) c32, .i ((gi x29 x31).Min), .i ((gi x29 x31).Max)])) (.i ((gi x29 x31).Kind) :: U4 ((gi x29 x31).Set) [.slice A31 (((gi x29 x31).L).length) c32, .i ((gi x29 x31).Min), .i ((gi x29 x31).Max)]) p6 rfl Goes.s (by kernel_rfl) (by kernel_rfl) (by kernel_rfl) (by kernel_rfl) (Nat.zero_le _) (by simp only [List.length_cons, List.length_nil]; omega) (by simp [Value.oneCell']) ?_
   intro w7 z7 p7
   have p7 : Hp nz wz S1 w7 ((some b34, .row 28 (.i ((gi x29 x31).Kind) :: U4 ((gi x29 x31).Set) [.slice A31 (((gi x29 x31).L).length) c32, .i ((gi x29 x31).Min), .i ((gi x29 x31).Max)]) 8 0) :: (some gx0, .row 78 [.slice (Gp ua6) u95.length ua8] 1 0) :: (ua6, .row 49 ua9 (ua8 * kT48.size) 0) :: Lr) := p7
   refine Goes.rn 4 [(35, .slice none 0 0), (36, (pt gx0 0))] Jl0 ?_
   refine Goes.ldN 28 (.tmp 8) 37 28 ⟨b34, 0, none⟩ (.i ((gi x29 x31).Kind) :: U4 ((gi x29 x31).Set) [.slice A31 (((gi x29 x31).L).length) c32, .i ((gi x29 x31).Min), .i ((gi x29 x31).Max)]) (p7.pa 0 0) ?_
   have p7 := (p7.fr 2).fr 2
   refine bind_some' h fun y36 e37 h => ?_
   refine Goes.cal (kc 54 [36, 37] #[76, 28]) 38 100 54 _ (W.z25 u95 (⟨(gi x29 x31).Kind, ((gi x29 x31).Set), (gi x29 x31).L, (gi x29 x31).Min, (gi x29 x31).Max⟩ : T27) y36 e37 gx0 ua6 u95.length ua8 ua9 A31 (((gi x29 x31).L).length) c32 p7 (ucz.ext (z6.trans z7)) rfl l29 (f33.ext (z6.trans z7)) rfl) ?_
   rintro _ w8 ⟨S8, ubt, rfl, z8, p8, ubu⟩
   have p8 := p8.dp 2
   have f39 : Els (kT99 gx0) S8 w8 ([.i y36.n, ubt] : List Value) [y36] := by exact (Els.cons (K := (kT99 gx0)) (vs := [.i y36.n, ubt]) (x := y36) ⟨[.i y36.n], [ubt], rfl, rfl, ubu⟩ Els.nil)
   refine Op_.made (.buildSlice 95 1 #[(0, (.tmp 38))]) 39 95 (fun b => .slice (Gp (some b)) 1 1) 100 ([.i y36.n, ubt] : List Value) p8 Goes.v (by kernel_rfl) ?_
   intro b38 w9 z9 p9
   have p9 : Hp nz wz S8 w9 (((some b38), .row 100 ([.i y36.n, ubt] : List Value) (1 * (kT99 gx0).size) 0) :: (some gx0, .row 78 [.slice (Gp ua6) u95.length ua8] 1 0) :: (ua6, .row 49 ua9 (ua8 * kT48.size) 0) :: Lr) := p9
   have p9 : Hp nz wz S8 w9 ((none, .row 100 [] (0 * (kT99 gx0).size) 0) :: ((some b38), .row 100 ([.i y36.n, ubt] : List Value) (1 * (kT99 gx0).size) 0) :: (some gx0, .row 78 [.slice (Gp ua6) u95.length ua8] 1 0) :: (ua6, .row 49 ua9 (ua8 * kT48.size) 0) :: Lr) := p9.nilRow' 100
   refine guard_some' h fun g45 h => ?_
   refine Op_.ap_n (K := (kT99 gx0)) 95 (.tmp 35) (.tmp 39) 40 95 100 0 (.agg #[.i 0, .nilFunc]) 16 0 0 1 ([] : List T99) [y36] [y36] (Gp (some b38)) 1 rfl rfl (List.nil_append _) p9 rfl (Els.nil (K := (kT99 gx0))) Goes.v (by kernel_rfl) (by kernel_rfl) (by kernel_rfl) (by kernel_rfl) rfl (show (0 : Nat) < 2 by decide) (f39.ext z9) (src_own p9 (q := 1) rfl) (by have := g45; omega) (by have := g45; omega) ?_
   intro w10 G46 c47 uf2 z10 p10 f49
   refine Goes.rn 8 [(6, .slice (Gp G46) ([y36].length) c47), (41, .i (wr .i64 (x31 + 1))), (31, .i (wr .i64 (x31 + 1)))] Jji ?_
   have p10 := p10.dp 1
   exact Goes.jp 59 [(0, (pt gx0 0)), (2, .i x2), (6, .slice (Gp G46) ([y36].length) c47), (29, .slice ubz x29.length uc1), (30, .i x30), (31, .i (wr .i64 (x31 + 1)))] (uez _ _ h gx0 _ _ (((((hx.trans z6).trans z7).trans z8).trans z9).trans z10) G46 ([y36].length) c47 uf2 ubz x29.length uc1 ua6 u95.length ua8 ua9 p10 f49 rfl (uf0.ext ((((z6.trans z7).trans z8).trans z9).trans z10)) rfl (ucz.ext ((((z6.trans z7).trans z8).trans z9).trans z10)) rfl)
  ·
   rw [decide_eq_false h22]
   refine Goes.rn 2 [] Jjf ?_
   exact Goes.jp 59 [(0, (pt gx0 0)), (2, .i x2), (6, .slice none 0 0)] (uci _ _ h gx0 _ _ hx ua6 u95.length ua8 ua9 p1 ucz rfl)
 ·
  intro ucg uey ucj uez ⟨x2, x6, x29, x30, x31, u95⟩ r h nz wz S0 w0 Lr iG gx0 S1 w1 hx Gx6 nx6 cx6 uc2 ubz uc0 uc1 ua6 ua7 ua8 ua9 p1 fx6 lx6 uf0 uf1 ucz ud0 junk
  try dsimp only at h
  subst lx6
  subst uf1
  subst ud0
  refine Goes.rn 5 [(32, .bool (decide (x31 < x30)))] Jkv ?_
  refine ite_some h (fun h70 h => ?_) (fun h70 h => ?_)
  ·
   rw [decide_eq_true h70]
   refine Goes.rn 6 [] Jkz ?_
   refine guard_some' h fun g71 h => ?_
   refine guard_some' h fun g72 h => ?_
   refine Op_.ixR_n 26 (.tmp 29) (.tmp 31) 33 0 28 .i64 x31 (gi x29 x31) rfl rfl uf0 Goes.v (by kernel_rfl) (by kernel_rfl) (by kernel_rfl) (by kernel_rfl) g71 g72 ?_
   intro a73 _ f74 q75
   have q76 := q75
   obtain ⟨_, _, rfl, rfl, ⟨_, _, rfl, ⟨l77, f78⟩, ⟨_, _, rfl, ⟨A79, c80, rfl, f81⟩, ⟨_, _, rfl, rfl, rfl⟩⟩⟩⟩ := kT27_open q76
   obtain rfl := els_lit4' f78 l77
   refine Goes.ldN 28 (.tmp 33) 34 28 a73 ([.i ((gi x29 x31).Kind)] ++ ((U4 ((gi x29 x31).Set) []) ++ ([.slice A79 (((gi x29 x31).L).length) c80] ++ ([.i ((gi x29 x31).Min)] ++ [.i ((gi x29 x31).Max)])))) (f74.cell) ?_
   refine Op_.alloc 28 8 0 (.agg #[.i 0, .u 0, .u 0, .u 0, .u 0, .slice none 0 0, .i 0, .i 0]) [.i 0, .u 0, .u 0, .u 0, .u 0, .slice none 0 0, .i 0, .i 0] p1 Goes.v (by kernel_rfl) (by kernel_rfl) ?_
   intro b82 w18 z18 p18
   refine Op_.st 28 (.tmp 8) (.tmp 34) 0 0 b82 0 (ag (.i ((gi x29 x31).Kind) :: U4 ((gi x29 x31).Set) [.slice A79 (((gi x29 x31).L).length) c80, .i ((gi x29 x31).Min), .i ((gi x29 x31).Max)])) (.i ((gi x29 x31).Kind) :: U4 ((gi x29 x31).Set) [.slice A79 (((gi x29 x31).L).length) c80, .i ((gi x29 x31).Min), .i ((gi x29 x31).Max)]) p18 rfl Goes.s (by kernel_rfl) (by kernel_rfl) (by kernel_rfl) (by kernel_rfl) (Nat.zero_le _) (by simp only [List.length_cons, List.length_nil]; omega) (by simp [Value.oneCell']) ?_
   intro w19 z19 p19
   have p19 : Hp nz wz S1 w19 ((some b82, .row 28 (.i ((gi x29 x31).Kind) :: U4 ((gi x29 x31).Set) [.slice A79 (((gi x29 x31).L).length) c80, .i ((gi x29 x31).Min), .i ((gi x29 x31).Max)]) 8 0) :: (Gx6, .row 100 uc2 (cx6 * (kT99 gx0).size) 0) :: (some gx0, .row 78 [.slice (Gp ua6) u95.length ua8] 1 0) :: (ua6, .row 49 ua9 (ua8 * kT48.size) 0) :: Lr) := p19
   refine Goes.rn 4 [(35, .slice (Gp Gx6) x6.length cx6), (36, (pt gx0 0))] Jl0 ?_
   refine Goes.ldN 28 (.tmp 8) 37 28 ⟨b82, 0, none⟩ (.i ((gi x29 x31).Kind) :: U4 ((gi x29 x31).Set) [.slice A79 (((gi x29 x31).L).length) c80, .i ((gi x29 x31).Min), .i ((gi x29 x31).Max)]) (p19.pa 0 0) ?_
   have p19 := (p19.fr 3).fr 3
   refine bind_some' h fun y84 e85 h => ?_
   refine Goes.cal (kc 54 [36, 37] #[76, 28]) 38 100 54 _ (W.z25 u95 (⟨(gi x29 x31).Kind, ((gi x29 x31).Set), (gi x29 x31).L, (gi x29 x31).Min, (gi x29 x31).Max⟩ : T27) y84 e85 gx0 ua6 u95.length ua8 ua9 A79 (((gi x29 x31).L).length) c80 p19 (ucz.ext (z18.trans z19)) rfl l77 (f81.ext (z18.trans z19)) rfl) ?_
   rintro _ w20 ⟨S20, ub0, rfl, z20, p20, ub1⟩
   have p20 := p20.dp 2
   have f87 : Els (kT99 gx0) S20 w20 ([.i y84.n, ub0] : List Value) [y84] := by exact (Els.cons (K := (kT99 gx0)) (vs := [.i y84.n, ub0]) (x := y84) ⟨[.i y84.n], [ub0], rfl, rfl, ub1⟩ Els.nil)
   refine Op_.made (.buildSlice 95 1 #[(0, (.tmp 38))]) 39 95 (fun b => .slice (Gp (some b)) 1 1) 100 ([.i y84.n, ub0] : List Value) p20 Goes.v (by kernel_rfl) ?_
   intro b86 w21 z21 p21
   have p21 : Hp nz wz S20 w21 (((some b86), .row 100 ([.i y84.n, ub0] : List Value) (1 * (kT99 gx0).size) 0) :: (some gx0, .row 78 [.slice (Gp ua6) u95.length ua8] 1 0) :: (ua6, .row 49 ua9 (ua8 * kT48.size) 0) :: (Gx6, .row 100 uc2 (cx6 * (kT99 gx0).size) 0) :: Lr) := p21
   refine guard_some' h fun g92 h => ?_
   refine Op_.ap_n (K := (kT99 gx0)) 95 (.tmp 35) (.tmp 39) 40 95 100 3 (.agg #[.i 0, .nilFunc]) 16 x6.length cx6 1 x6 [y84] (x6 ++ [y84]) (Gp (some b86)) 1 rfl rfl rfl p21 rfl (fx6.ext (((z18.trans z19).trans z20).trans z21)) Goes.v (by kernel_rfl) (by kernel_rfl) (by kernel_rfl) (by kernel_rfl) rfl (show (0 : Nat) < 2 by decide) (f87.ext z21) (src_own p21 (q := 0) rfl) (by have := g92; omega) (by have := g92; omega) ?_
   intro w22 G93 c94 uf3 z22 p22 f96
   refine Goes.rn 8 [(6, .slice (Gp G93) ((x6 ++ [y84]).length) c94), (41, .i (wr .i64 (x31 + 1))), (31, .i (wr .i64 (x31 + 1)))] Jji ?_
   have p22 := p22.dp 0
   have p22 := ((p22.fr 1).fr 1).fr 2
   exact Goes.jp 59 [(0, (pt gx0 0)), (2, .i x2), (6, .slice (Gp G93) ((x6 ++ [y84]).length) c94), (29, .slice ubz x29.length uc1), (30, .i x30), (31, .i (wr .i64 (x31 + 1)))] (uez _ _ h gx0 _ _ (((((hx.trans z18).trans z19).trans z20).trans z21).trans z22) G93 ((x6 ++ [y84]).length) c94 uf3 ubz x29.length uc1 ua6 u95.length ua8 ua9 p22 f96 rfl (uf0.ext ((((z18.trans z19).trans z20).trans z21).trans z22)) rfl (ucz.ext ((((z18.trans z19).trans z20).trans z21).trans z22)) rfl)
  ·
   rw [decide_eq_false h70]
   refine Goes.rn 2 [] Jjf ?_
   exact Goes.jp 59 [(0, (pt gx0 0)), (2, .i x2), (6, .slice (Gp Gx6) x6.length cx6)] (ucj _ _ h gx0 _ _ hx Gx6 x6.length cx6 uc2 ua6 u95.length ua8 ua9 p1 fx6 rfl ucz rfl)
 ·
  intro uf4 uf5 ⟨uaa, x1, x2⟩ r h nz wz S0 w0 Lr iG gx0 uab uac uad uae Ax1 nx1 cx1 p0 uaf uag fx1 lx1
  try dsimp only at h
  subst uag
  subst lx1
  refine calls_of_goes (fn := Tryd.f53) (c := B53) (by kernel_rfl) (by kernel_rfl) 44 (by kernel_rfl) ?_
  refine Goes.jp 47 [(0, (pt gx0 0)), (1, .slice Ax1 x1.length cx1), (2, .i x2)] (fun junk => ?_)
  refine Goes.rn 9 [(9, .slice Ax1 x1.length cx1), (10, .i (x1.length : Int)), (11, .i 0)] Jja ?_
  exact Goes.jp 47 [(0, (pt gx0 0)), (1, .slice Ax1 x1.length cx1), (2, .i x2), (9, .slice Ax1 x1.length cx1), (10, .i (x1.length : Int)), (11, .i 0)] (uf5 _ _ h gx0 _ _ (Ext.refl S0 w0) Ax1 x1.length cx1 Ax1 x1.length cx1 uab uaa.length uad uae p0 fx1 rfl fx1 rfl uaf rfl)
 ·
  intro uf6 uf7 ⟨x1, x2, x9, x10, x11, u95⟩ r h nz wz S0 w0 Lr iG gx0 S1 w1 hx Ax1 nx1 cx1 Ax9 nx9 cx9 ua6 ua7 ua8 ua9 p1 fx1 lx1 fx9 lx9 ucz ud0 junk
  try dsimp only at h
  subst lx1
  subst lx9
  subst ud0
  refine Goes.rn 5 [(12, .bool (decide (x11 < x10)))] Jl2 ?_
  refine ite_some h (fun h4 h => ?_) (fun h4 h => ?_)
  ·
   rw [decide_eq_true h4]
   refine Goes.rn 7 [(13, .i x11)] Jl4 ?_
   refine guard_some' h fun g5 h => ?_
   refine guard_some' h fun g6 h => ?_
   refine Op_.ixR_n 26 (.tmp 9) (.tmp 11) 14 0 28 .i64 x11 (gi x9 x11) rfl rfl fx9 Goes.v (by kernel_rfl) (by kernel_rfl) (by kernel_rfl) (by kernel_rfl) g5 g6 ?_
   intro a7 _ f8 q9
   have q10 := q9
   obtain ⟨_, _, rfl, rfl, ⟨_, _, rfl, ⟨l11, f12⟩, ⟨_, _, rfl, ⟨A13, c14, rfl, f15⟩, ⟨_, _, rfl, rfl, rfl⟩⟩⟩⟩ := kT27_open q10
   obtain rfl := els_lit4' f12 l11
   refine Goes.ldN 28 (.tmp 14) 15 28 a7 ([.i ((gi x9 x11).Kind)] ++ ((U4 ((gi x9 x11).Set) []) ++ ([.slice A13 (((gi x9 x11).L).length) c14] ++ ([.i ((gi x9 x11).Min)] ++ [.i ((gi x9 x11).Max)])))) (f8.cell) ?_
   refine Op_.alloc 28 7 0 (.agg #[.i 0, .u 0, .u 0, .u 0, .u 0, .slice none 0 0, .i 0, .i 0]) [.i 0, .u 0, .u 0, .u 0, .u 0, .slice none 0 0, .i 0, .i 0] p1 Goes.v (by kernel_rfl) (by kernel_rfl) ?_
   intro b16 w2 z2 p2
   refine Goes.rn 1 [(6, .i x11)] Jl5 ?_
   refine Op_.st 28 (.tmp 7) (.tmp 15) 0 0 b16 0 (ag (.i ((gi x9 x11).Kind) :: U4 ((gi x9 x11).Set) [.slice A13 (((gi x9 x11).L).length) c14, .i ((gi x9 x11).Min), .i ((gi x9 x11).Max)])) (.i ((gi x9 x11).Kind) :: U4 ((gi x9 x11).Set) [.slice A13 (((gi x9 x11).L).length) c14, .i ((gi x9 x11).Min), .i ((gi x9 x11).Max)]) p2 rfl Goes.s (by kernel_rfl) (by kernel_rfl) (by kernel_rfl) (by kernel_rfl) (Nat.zero_le _) (by simp only [List.length_cons, List.length_nil]; omega) (by simp [Value.oneCell']) ?_
   intro w3 z3 p3
   have p3 : Hp nz wz S1 w3 ((some b16, .row 28 (.i ((gi x9 x11).Kind) :: U4 ((gi x9 x11).Set) [.slice A13 (((gi x9 x11).L).length) c14, .i ((gi x9 x11).Min), .i ((gi x9 x11).Max)]) 8 0) :: (some gx0, .row 78 [.slice (Gp ua6) u95.length ua8] 1 0) :: (ua6, .row 49 ua9 (ua8 * kT48.size) 0) :: Lr) := p3
   refine Goes.rn 10 [(16, .i x11), (17, .slice Ax1 x1.length cx1), (18, .i (x1.length : Int)), (19, .i (wr .i64 ((x1.length : Int) - 1))), (20, .bool (decide (x11 < wr .i64 ((x1.length : Int) - 1))))] Jl6 ?_
   refine ite_some h (fun h18 h => ?_) (fun h18 h => ?_)
   ·
    rw [decide_eq_true h18]
    refine Goes.rn 6 [(21, (pt gx0 0)), (22, (pt gx0 0)), (23, (pt gx0 0))] Jl8 ?_
    refine Goes.ld 37 (.tmp 23) 24 37 ⟨gx0, 0, none⟩ (.slice (Gp ua6) u95.length ua8) (p3.c 1 0) ?_
    refine Goes.rn 8 [(25, .i (u95.length : Int)), (26, .i (wr .i64 ((u95.length : Int) + 1))), (8, .i (wr .i64 ((u95.length : Int) + 1))), (27, (pt gx0 0)), (28, .i (wr .i64 ((u95.length : Int) + 1))), (29, .i (wr .i64 ((u95.length : Int) + 1)))] Jl9 ?_
    refine Goes.ldN 28 (.tmp 7) 30 28 ⟨b16, 0, none⟩ (.i ((gi x9 x11).Kind) :: U4 ((gi x9 x11).Set) [.slice A13 (((gi x9 x11).L).length) c14, .i ((gi x9 x11).Min), .i ((gi x9 x11).Max)]) (p3.pa 0 0) ?_
    refine bind_some' h fun y19 e20 h => ?_
    refine Goes.cal (kc 38 [30] #[28]) 31 3 38 _ (W.z20 (⟨(gi x9 x11).Kind, ((gi x9 x11).Set), (gi x9 x11).L, (gi x9 x11).Min, (gi x9 x11).Max⟩ : T27) y19 e20 A13 (((gi x9 x11).L).length) c14 p3 l11 (f15.ext (z2.trans z3)) rfl) ?_
    rintro _ w4 ⟨S4, rfl, z4, p4⟩
    refine Goes.rn 2 [(32, .i (wr .i64 ((wr .i64 ((u95.length : Int) + 1)) + y19))), (33, .agg #[.i 2, .u 0, .u 0, .u 0, .u 0, .i (wr .i64 ((u95.length : Int) + 1)), .i (wr .i64 ((wr .i64 ((u95.length : Int) + 1)) + y19))])] Jla ?_
    have p4 := (p4.fr 2).fr 2
    refine bind_some' h fun y21 e22 h => ?_
    refine Goes.cal (kc 36 [27, 33] #[76, 49]) 34 3 36 _ (W.z24 u95 (⟨2, [0, 0, 0, 0], wr .i64 ((u95.length : Int) + 1), wr .i64 ((wr .i64 ((u95.length : Int) + 1)) + y19)⟩ : T48) y21 e22 gx0 ua6 u95.length ua8 ua9 p4 (ucz.ext ((z2.trans z3).trans z4)) rfl rfl) ?_
    rintro _ w5 ⟨S5, udo, udp, udq, udr, rfl, z5, p5, uds, rfl⟩
    refine Goes.rn 1 [] Jjd ?_
    have p5 := ((p5.fr 1).fr 1).fr 2
    exact Goes.jp 47 [(0, (pt gx0 0)), (1, .slice Ax1 x1.length cx1), (2, .i x2), (7, (pt b16 0)), (9, .slice Ax9 x9.length cx9), (10, .i x10), (11, .i x11)] (uf7 _ _ h gx0 _ _ ((((hx.trans z2).trans z3).trans z4).trans z5) Ax1 x1.length cx1 b16 A13 (((gi x9 x11).L).length) c14 Ax9 x9.length cx9 udo y21.2.length udq udr p5 (fx1.ext (((z2.trans z3).trans z4).trans z5)) rfl l11 (f15.ext (((z2.trans z3).trans z4).trans z5)) rfl (fx9.ext (((z2.trans z3).trans z4).trans z5)) rfl uds rfl)
   ·
    rw [decide_eq_false h18]
    refine Goes.rn 2 [] Jjd ?_
    exact Goes.jp 47 [(0, (pt gx0 0)), (1, .slice Ax1 x1.length cx1), (2, .i x2), (7, (pt b16 0)), (9, .slice Ax9 x9.length cx9), (10, .i x10), (11, .i x11)] (uf7 _ _ h gx0 _ _ ((hx.trans z2).trans z3) Ax1 x1.length cx1 b16 A13 (((gi x9 x11).L).length) c14 Ax9 x9.length cx9 ua6 u95.length ua8 ua9 p3 (fx1.ext (z2.trans z3)) rfl l11 (f15.ext (z2.trans z3)) rfl (fx9.ext (z2.trans z3)) rfl (ucz.ext (z2.trans z3)) rfl)
  ·
   rw [decide_eq_false h4]
   refine Goes.rn 8 [(40, .slice Ax1 x1.length cx1), (41, .i (x1.length : Int)), (42, .bool (decide ((x1.length : Int) = 0)))] Jlb ?_
   refine ite_some h (fun h26 h => ?_) (fun h26 h => ?_)
   ·
    rw [decide_eq_true h26]
    refine Goes.rn 5 [(43, (pt gx0 0)), (44, .i x2), (45, .agg #[.i 1, .u 0, .u 0, .u 0, .u 0, .i x2, .i 0])] Jlc ?_
    refine bind_some' h fun y27 e28 h => ?_
    refine Goes.cal (kc 36 [43, 45] #[76, 49]) 46 3 36 _ (W.z24 u95 (⟨1, [0, 0, 0, 0], x2, 0⟩ : T48) y27 e28 gx0 ua6 u95.length ua8 ua9 p1 ucz rfl rfl) ?_
    rintro _ w6 ⟨S6, udt, udu, udv, udw, rfl, z6, p6, udx, rfl⟩
    refine Goes.rn 1 [] [] ?_
    obtain rfl := Option.some.inj h
    exact Goes.end_ (fn := Tryd.f53) (by kernel_rfl) (v := .tuple #[]) (by kernel_rfl) ⟨S6, udt, y27.2.length, udv, udw, rfl, (hx.trans z6), p6, udx, rfl⟩
   ·
    rw [decide_eq_false h26]
    refine Goes.rn 2 [] [] ?_
    obtain rfl := Option.some.inj h
    exact Goes.end_ (fn := Tryd.f53) (by kernel_rfl) (v := .tuple #[]) (by kernel_rfl) ⟨S1, ua6, u95.length, ua8, ua9, rfl, hx, p1, ucz, rfl⟩
 ·
  intro rec_prog_writer_code uf4 ih_prog_writer_code uf5 ⟨x1, x2, x7v, x9, x10, x11, u95⟩ r h nz wz S0 w0 Lr iG gx0 S1 w1 hx Ax1 nx1 cx1 gx7 ubw ubx uby Ax9 nx9 cx9 ua6 ua7 ua8 ua9 p1 fx1 lx1 uf8 uf9 ufa fx9 lx9 ucz ud0 junk
  try dsimp only at h
  subst lx1
  subst ufa
  subst lx9
  subst ud0
  refine Goes.rn 2 [(35, (pt gx0 0))] Jld ?_
  refine Goes.ldN 28 (.tmp 7) 36 28 ⟨gx7, 0, none⟩ (.i x7v.Kind :: U4 x7v.Set [.slice ubw x7v.L.length uby, .i x7v.Min, .i x7v.Max]) (p1.pa 0 0) ?_
  refine Goes.rn 1 [(37, .i x2)] Jle ?_
  have p1 := (p1.fr 2).fr 2
  refine bind_some' h fun y30 e31 h => ?_
  refine Goes.cal (kc 35 [35, 36, 37] #[76, 28, 3]) 38 0 35 _ (ih_prog_writer_code (u95, x7v, x2) y30 e31 gx0 ua6 u95.length ua8 ua9 ubw x7v.L.length uby p1 ucz rfl uf8 uf9 rfl) ?_
  rintro _ w7 ⟨S7, udy, udz, ue0, ue1, rfl, z7, p7, ue2, rfl⟩
  have p7 := p7.dp 2
  refine Goes.rn 7 [(39, .i (wr .i64 (x11 + 1))), (11, .i (wr .i64 (x11 + 1)))] Jja ?_
  exact Goes.jp 47 [(0, (pt gx0 0)), (1, .slice Ax1 x1.length cx1), (2, .i x2), (9, .slice Ax9 x9.length cx9), (10, .i x10), (11, .i (wr .i64 (x11 + 1)))] (uf5 _ _ h gx0 _ _ (hx.trans z7) Ax1 x1.length cx1 Ax9 x9.length cx9 udy y30.length ue0 ue1 p7 (fx1.ext z7) rfl (fx9.ext z7) rfl ue2 rfl)

theorem W.z2d : ∀ a r, M.prog_writer_code a = some r → LF.z2d a r := (W.z2s).1

theorem W.z2r : ∀ a r, M.prog_writer_code_l2 a = some r → LL.z2r a r := (W.z2s).2.1

theorem W.z2f : ∀ a r, M.prog_writer_row a = some r → LF.z2f a r := (W.z2s).2.2.1

theorem W.z2o : ∀ a r, M.prog_writer_row_l0 a = some r → LL.z2o a r := (W.z2s).2.2.2.1

theorem W.z2p : ∀ a r, M.prog_writer_row_l1 a = some r → LL.z2p a r := (W.z2s).2.2.2.2.1

theorem W.z2i : ∀ a r, M.prog_writer_perhaps_1 a = some r → LF.z2i a r := (W.z2s).2.2.2.2.2.1

theorem W.z2h : ∀ a r, M.prog_writer_loop_1 a = some r → LF.z2h a r := (W.z2s).2.2.2.2.2.2.1

theorem W.z2q : ∀ a r, M.prog_writer_row_l2 a = some r → LL.z2q a r := (W.z2s).2.2.2.2.2.2.2.1

theorem W.z2g : ∀ a r, M.prog_writer_of_1 a = some r → LF.z2g a r := (W.z2s).2.2.2.2.2.2.2.2.1

theorem W.z2n : ∀ a r, M.prog_writer_code_l1 a = some r → LL.z2n a r := (W.z2s).2.2.2.2.2.2.2.2.2.1

theorem W.z2l : ∀ a r, M.prog_writer_code_l0 a = some r → LL.z2l a r := (W.z2s).2.2.2.2.2.2.2.2.2.2.1

theorem W.z2m : ∀ a r, M.prog_writer_code_l3 a = some r → LL.z2m a r := (W.z2s).2.2.2.2.2.2.2.2.2.2.2.1

theorem W.z2e : ∀ a r, M.prog_writer_any a = some r → LF.z2e a r := (W.z2s).2.2.2.2.2.2.2.2.2.2.2.2.1

theorem W.z2j : ∀ a r, M.prog_writer_any_l0 a = some r → LL.z2j a r := (W.z2s).2.2.2.2.2.2.2.2.2.2.2.2.2.1

theorem W.z2k : ∀ a r, M.prog_writer_any_l1 a = some r → LL.z2k a r := (W.z2s).2.2.2.2.2.2.2.2.2.2.2.2.2.2

def Qh8 := sub [1] B15
def Jlf : List Item := [.code Qh8]
def Qh9 := sub [0] B15
def Jlg : List Item := .inRegion (opsOf Qh9) [0, 1, 2] :: Jlf
def Qha := sub [1, 1] B15
def Jlh : List Item := [.code Qha]
def Qhb := sub [1, 0] B15
def Jli : List Item := .inRegion (opsOf Qhb) [0, 1, 2, 3, 4, 5, 6] :: Jlh
def Qhc := sub [1, 1, 1] B15
def Jlj : List Item := [.code Qhc]
def Jlk : List Item := .inBlock 0 :: Jlj
def Qhd := sub [1, 1, 0, 0, 1] B15
def Jll : List Item := .code Qhd :: Jlk
def Qhe := sub [1, 1, 0, 0, 1, 1, 1] B15
def Jlm : List Item := .code Qhe :: Jlk
def Qhf := sub [1, 1, 0, 0, 1, 1, 1, 0, 1] B15
def Jln : List Item := .code Qhf :: Jlk
def Qhg := sub [1, 1, 1, 1] B15
def Jlo : List Item := [.code Qhg]
def Qhh := sub [1, 1, 1, 0] B15
def Jlp : List Item := .inRegion (opsOf Qhh) [1, 2] :: Jlo
def Qhi := sub [1, 1, 1, 1, 1] B15
def Jlq : List Item := [.code Qhi]
def Qhj := sub [1, 1, 1, 1, 0] B15
def Jlr : List Item := .inRegion (opsOf Qhj) [1, 2, 3, 4] :: Jlq
def Jls : List Item := .inRegion (opsOf Qhj) [4] :: Jlq
def Qhk := sub [1, 1, 1, 1, 1, 1] B15
def Jlt : List Item := [.code Qhk]
def Qhl := sub [1, 1, 1, 1, 1, 0] B15
def Jlu : List Item := .inRegion (opsOf Qhl) [2] :: Jlt
def Qhm := sub [1, 1, 1, 1, 1, 1, 1] B15
def Jlv : List Item := [.code Qhm]
def Qhn := sub [1, 1, 1, 1, 1, 1, 0] B15
def Jlw : List Item := .inRegion (opsOf Qhn) [3, 4, 5, 6] :: Jlv
def Qho := sub [1, 1, 0, 0, 1, 0, 1] B15
def Jlx : List Item := .code Qho :: Jlk

def Post.z2t (r : (List T48) × Int) (v : Value) (w' : World) : Prop :=
 ∃ S' ufb ufc ufd ufe, v = .tuple #[.slice (Gp ufb) ufc ufd, .i r.2] ∧ Ext S0 w0 S' w' ∧ Hp nz wz S' w' ((ufb, .row 49 ufe (ufd * kT48.size) 0) :: Lr) ∧ Els kT48 S' w' ufe r.1 ∧ r.1.length = ufc

theorem W.z2t (x0 : T27) (r : (List T48) × Int) (h : M.prog_Make x0 = some r) {nz wz S0 w0 Lr} [Gw nz wz] (u92 u93 u94) (p0 : Hp nz wz S0 w0 (Lr)) (u9e : x0.Set.length = 4) (u9f : Rd kT27 S0 w0 u92 u94 x0.L) (u9g : x0.L.length = u93) :
  Calls Tryd.prog 15 #[(ag (.i x0.Kind :: U4 x0.Set [.slice u92 u93 u94, .i x0.Min, .i x0.Max]))] w0 (Rets (Post.z2t nz wz S0 w0 Lr r)) := by
 subst u9g
 refine calls_of_goes (fn := Tryd.f15) (c := B15) (by kernel_rfl) (by kernel_rfl) 33 (by kernel_rfl) ?_
 refine Goes.jp 34 [(0, (ag (.i x0.Kind :: U4 x0.Set [.slice u92 x0.L.length u94, .i x0.Min, .i x0.Max])))] (fun junk => ?_)
 delta M.prog_Make at h
 refine Goes.rn 2 [] Jlg ?_
 refine Op_.box 28 (.tmp 0) 1 0 (ag (.i x0.Kind :: U4 x0.Set [.slice u92 x0.L.length u94, .i x0.Min, .i x0.Max])) (.i x0.Kind :: U4 x0.Set [.slice u92 x0.L.length u94, .i x0.Min, .i x0.Max]) p0 Goes.v (by kernel_rfl) (by kernel_rfl) ?_
 intro b1 w2 z2 p2
 refine Goes.rn 5 [(2, .slice none 0 0), (3, .i 0)] Jli ?_
 refine Goes.ldN 28 (.tmp 1) 8 28 ⟨b1, 0, none⟩ (.i x0.Kind :: U4 x0.Set [.slice u92 x0.L.length u94, .i x0.Min, .i x0.Max]) (p2.pa 0 0) ?_
 refine bind_some' h fun y3 e4 h => ?_
 refine Goes.cal (kc 17 [8] #[28]) 9 40 17 _ (W.z23 x0 y3 e4 u92 x0.L.length u94 p2 u9e (u9f.ext z2) rfl) ?_
 rintro _ w3 ⟨S3, rfl, z3, p3⟩
 refine Goes.rn 14 [(7, .tuple #[.i y3.1, .i y3.2]), (10, .i y3.1), (11, .i y3.2), (4, .i y3.1), (5, .i y3.2), (13, .i y3.2), (14, .bool (!(decide (y3.2 = 0)))), (12, .bool (!(decide (y3.2 = 0))))] Jll ?_
 refine ite_some h (fun h5 h => ?_) (fun h5 h => ?_)
 ·
  rw [decide_eq_true h5]
  refine Goes.rn 7 [(17, .i y3.1), (18, .bool (decide (y3.1 > 2048))), (16, .bool (decide (y3.1 > 2048)))] Jlm ?_
  refine ite_some h (fun h6 h => ?_) (fun h6 h => ?_)
  ·
   rw [decide_eq_true h6]
   refine Goes.rn 6 [(2, .slice none 0 0), (3, .i 110)] Jln ?_
   have p3 : Hp nz wz S3 w3 ((none, .row 49 [] (0 * kT48.size) 0) :: (some b1, .row 28 (.i x0.Kind :: U4 x0.Set [.slice u92 x0.L.length u94, .i x0.Min, .i x0.Max]) 8 0) :: Lr) := p3.nilRow' 49
   obtain rfl := Option.some.inj h
   have p3 := p3.dp 1
   exact Goes.rt Tryd.f15 (.tuple #[.slice (Gp none) 0 0, .i 110]) ⟨S3, none, 0, 0, [], rfl, (((Ext.refl S0 w0).trans z2).trans z3), p3, (Els.nil (K := kT48)), rfl⟩
  ·
   rw [decide_eq_false h6]
   refine Goes.rn 6 [(19, .agg #[.slice none 0 0])] Jlp ?_
   refine Op_.box 78 (.tmp 19) 20 76 (.agg #[.slice none 0 0]) [.slice none 0 0] p3 Goes.v (by kernel_rfl) (by kernel_rfl) ?_
   intro b8 w4 z4 p4
   refine Goes.rn 5 [(6, (pt b8 0)), (21, (pt b8 0))] Jlr ?_
   refine Goes.ldN 28 (.tmp 1) 22 28 ⟨b1, 0, none⟩ (.i x0.Kind :: U4 x0.Set [.slice u92 x0.L.length u94, .i x0.Min, .i x0.Max]) (p4.pa 1 0) ?_
   refine Goes.rn 2 [(23, .i y3.1), (24, .i (wr .i64 (y3.1 - 1)))] Jls ?_
   have p4 : Hp nz wz S3 w4 ((none, .row 49 [] (0 * kT48.size) 0) :: (some b8, .row 78 [.slice none 0 0] 1 0) :: (some b1, .row 28 (.i x0.Kind :: U4 x0.Set [.slice u92 x0.L.length u94, .i x0.Min, .i x0.Max]) 8 0) :: Lr) := p4.nilRow' 49
   have p4 := (p4.fr 0).fr 1
   refine bind_some' h fun y11 e12 h => ?_
   refine Goes.cal (kc 35 [21, 22, 24] #[76, 28, 3]) 25 0 35 _ (W.z2d (([] : List T48), x0, wr .i64 (y3.1 - 1)) y11 e12 b8 none 0 0 [] u92 x0.L.length u94 p4 (Els.nil (K := kT48)) rfl u9e (u9f.ext ((z2.trans z3).trans z4)) rfl) ?_
   rintro _ w5 ⟨S5, udo, udp, udq, udr, rfl, z5, p5, uds, rfl⟩
   have p5 := p5.dp 2
   refine Goes.rn 5 [(26, (pt b8 0)), (27, .agg #[.i 3, .u 0, .u 0, .u 0, .u 0, .i 0, .i 0])] Jlu ?_
   refine bind_some' h fun y14 e15 h => ?_
   refine Goes.cal (kc 36 [26, 27] #[76, 49]) 28 3 36 _ (W.z24 y11 (⟨3, [0, 0, 0, 0], 0, 0⟩ : T48) y14 e15 b8 udo y11.length udq udr p5 uds rfl rfl) ?_
   rintro _ w6 ⟨S6, udt, udu, udv, udw, rfl, z6, p6, udx, rfl⟩
   refine Goes.rn 6 [(29, (pt b8 0)), (30, (pt b8 0)), (31, (pt b8 0))] Jlw ?_
   refine Goes.ld 37 (.tmp 31) 32 37 ⟨b8, 0, none⟩ (.slice (Gp udt) y14.2.length udv) (p6.c 0 0) ?_
   refine Goes.rn 4 [(33, .i y3.2), (2, .slice (Gp udt) y14.2.length udv), (3, .i y3.2)] Jlv ?_
   obtain rfl := Option.some.inj h
   have p6 := p6.dp 0
   exact Goes.rt Tryd.f15 (.tuple #[.slice (Gp udt) y14.2.length udv, .i y3.2]) ⟨S6, udt, y14.2.length, udv, udw, rfl, ((((((Ext.refl S0 w0).trans z2).trans z3).trans z4).trans z5).trans z6), p6, udx, rfl⟩
 ·
  rw [decide_eq_false h5]
  refine Goes.rn 7 [(15, .i y3.2), (2, .slice none 0 0), (3, .i y3.2)] Jlx ?_
  have p3 : Hp nz wz S3 w3 ((none, .row 49 [] (0 * kT48.size) 0) :: (some b1, .row 28 (.i x0.Kind :: U4 x0.Set [.slice u92 x0.L.length u94, .i x0.Min, .i x0.Max]) 8 0) :: Lr) := p3.nilRow' 49
  obtain rfl := Option.some.inj h
  have p3 := p3.dp 1
  exact Goes.rt Tryd.f15 (.tuple #[.slice (Gp none) 0 0, .i y3.2]) ⟨S3, none, 0, 0, [], rfl, (((Ext.refl S0 w0).trans z2).trans z3), p3, (Els.nil (K := kT48)), rfl⟩

def Qhp := sub [1, 1] B62
def Jly : List Item := [.code Qhp]
def Qhq := sub [1, 0] B62
def Jlz : List Item := .inRegion (opsOf Qhq) [3, 4, 5, 6, 7] :: Jly
def Jm0 : List Item := .inRegion (opsOf Qhq) [4, 5, 6, 7] :: Jly

def Post.z2u (gx1 : Nat) (uc4 : Int) (r : Bool) (v : Value) (w' : World) : Prop :=
 ∃ S', v = .bool r ∧ Ext S0 w0 S' w' ∧ Hp nz wz S' w' ((some gx1, .row 3 [.i uc4] 1 0) :: Lr)

theorem W.z2u (x0 : Int) (uc4 : Int) (r : Bool) (h : M.prog_right_1 x0 uc4 = some r) {nz wz S0 w0 Lr} [Gw nz wz] (gx1) (p0 : Hp nz wz S0 w0 ((some gx1, .row 3 [.i uc4] 1 0) :: Lr)) :
  Calls Tryd.prog 62 #[.i x0, (pt gx1 0)] w0 (Rets (Post.z2u nz wz S0 w0 Lr gx1 uc4 r)) := by
 refine calls_of_goes (fn := Tryd.f62) (c := B62) (by kernel_rfl) (by kernel_rfl) 9 (by kernel_rfl) ?_
 refine Goes.jp 11 [(0, .i x0), (1, (pt gx1 0))] (fun junk => ?_)
 delta M.prog_right_1 at h
 refine Goes.rn 9 [(3, .bool false), (4, .i x0), (5, .bool (decide (x0 ≥ 0))), (6, .bool (decide (x0 ≥ 0)))] Jlz ?_
 refine ite_some h (fun h2 h => ?_) (fun h2 h => ?_)
 ·
  rw [decide_eq_true h2]
  refine Goes.rn 1 [(7, .i x0)] Jm0 ?_
  refine Goes.ld 3 (.tmp 1) 8 3 ⟨gx1, 0, none⟩ (.i uc4) (p0.c 0 0) ?_
  refine Goes.rn 4 [(9, .bool (decide (x0 < uc4))), (10, .bool (decide (x0 < uc4))), (3, .bool (decide (x0 < uc4)))] Jly ?_
  obtain rfl := Option.some.inj h
  exact Goes.rt Tryd.f62 (.bool (decide (x0 < uc4))) ⟨S0, rfl, (Ext.refl S0 w0), p0⟩
 ·
  rw [decide_eq_false h2]
  refine Goes.rn 6 [(7, undef), (8, undef), (9, undef), (10, .bool false), (3, .bool false)] Jly ?_
  obtain rfl := Option.some.inj h
  exact Goes.rt Tryd.f62 (.bool false) ⟨S0, rfl, (Ext.refl S0 w0), p0⟩

def Qhr := sub [1] B44
def Jm1 : List Item := [.code Qhr]
def Qhs := sub [0] B44
def Jm2 : List Item := .inRegion (opsOf Qhs) [0, 1, 2] :: Jm1
def Qht := sub [1, 1, 1] B44
def Jm3 : List Item := [.code Qht]
def Qhu := sub [1, 1, 0] B44
def Jm4 : List Item := .inRegion (opsOf Qhu) [1, 2, 3, 4] :: Jm3
def Jm5 : List Item := .inRegion (opsOf Qhu) [3, 4] :: Jm3
def Qhv := sub [1, 1, 1, 1] B44
def Jm6 : List Item := [.code Qhv]
def Qhw := sub [1, 1, 1, 0, 1] B44
def Jm7 : List Item := .code Qhw :: Jm6
def Qhx := sub [1, 1, 1, 0, 0] B44
def Jm8 : List Item := .inRegion (opsOf Qhx) [1] :: Jm7
def Jm9 : List Item := .inBlock 0 :: Jm6
def Qhy := sub [1, 1, 1, 0, 1, 0, 1] B44
def Jma : List Item := .code Qhy :: Jm9
def Qhz := sub [1, 1, 1, 0, 1, 0, 1, 0, 1] B44
def Jmb : List Item := .code Qhz :: Jm9
def Qi0 := sub [1, 1, 1, 0, 1, 0, 1, 0, 0] B44
def Jmc : List Item := .inRegion (opsOf Qi0) [2, 3, 4, 5, 6, 7, 8, 9] :: Jmb
def Jmd : List Item := .inRegion (opsOf Qi0) [5, 6, 7, 8, 9] :: Jmb
def Jme : List Item := .inRegion (opsOf Qi0) [6, 7, 8, 9] :: Jmb
def Qi1 := sub [1, 1, 1, 0, 1, 0, 1, 1, 1] B44
def Jmf : List Item := .code Qi1 :: Jm9
def Qi2 := sub [1, 1, 1, 0, 1, 0, 1, 1, 1, 0, 1] B44
def Jmg : List Item := .code Qi2 :: Jm9
def Qi3 := sub [1, 1, 1, 0, 1, 0, 1, 1, 1, 0, 0] B44
def Jmh : List Item := .inRegion (opsOf Qi3) [2, 3, 4, 5, 6, 7, 8, 9, 10, 11, 12, 13] :: Jmg
def Jmi : List Item := .inRegion (opsOf Qi3) [4, 5, 6, 7, 8, 9, 10, 11, 12, 13] :: Jmg
def Jmj : List Item := .inRegion (opsOf Qi3) [8, 9, 10, 11, 12, 13] :: Jmg
def Jmk : List Item := .inRegion (opsOf Qi3) [10, 11, 12, 13] :: Jmg
def Qi4 := sub [1, 1, 1, 0, 1, 0, 1, 1, 1, 1, 1] B44
def Jml : List Item := .code Qi4 :: Jm9
def Qi5 := sub [1, 1, 1, 0, 1, 0, 1, 1, 1, 1, 1, 0, 1] B44
def Jmm : List Item := .code Qi5 :: Jm9
def Qi6 := sub [1, 1, 1, 0, 1, 0, 1, 1, 1, 1, 1, 0, 0] B44
def Jmn : List Item := .inRegion (opsOf Qi6) [2, 3, 4, 5, 6, 7, 8, 9, 10, 11, 12] :: Jmm
def Jmo : List Item := .inRegion (opsOf Qi6) [4, 5, 6, 7, 8, 9, 10, 11, 12] :: Jmm
def Jmp : List Item := .inRegion (opsOf Qi6) [8, 9, 10, 11, 12] :: Jmm
def Jmq : List Item := .inRegion (opsOf Qi6) [9, 10, 11, 12] :: Jmm
def Qi7 := sub [1, 1, 1, 0, 1, 0, 1, 1, 1, 1, 1, 1, 1] B44
def Jmr : List Item := .code Qi7 :: Jm9
def Qi8 := sub [1, 1, 1, 0, 1, 0, 1, 1, 1, 1, 1, 1, 1, 0, 1] B44
def Jms : List Item := .code Qi8 :: Jm9
def Qi9 := sub [1, 1, 1, 0, 1, 0, 1, 1, 1, 1, 1, 1, 1, 0, 0] B44
def Jmt : List Item := .inRegion (opsOf Qi9) [2, 3, 4, 5, 6, 7, 8, 9, 10, 11] :: Jms
def Jmu : List Item := .inRegion (opsOf Qi9) [3, 4, 5, 6, 7, 8, 9, 10, 11] :: Jms
def Jmv : List Item := .inRegion (opsOf Qi9) [7, 8, 9, 10, 11] :: Jms
def Jmw : List Item := .inRegion (opsOf Qi9) [8, 9, 10, 11] :: Jms
def Qia := sub [1, 1, 1, 1, 1] B44
def Jmx : List Item := [.code Qia]

def Post.z2v (r : Bool) (v : Value) (w' : World) : Prop :=
 ∃ S', v = .bool r ∧ Ext S0 w0 S' w' ∧ Hp nz wz S' w' (Lr)

theorem W.z2v (x0 : T48) (x1 : Int) (r : Bool) (h : M.prog_right x0 x1 = some r) {nz wz S0 w0 Lr} [Gw nz wz] (p0 : Hp nz wz S0 w0 (Lr)) (u9e : x0.Set.length = 4) :
  Calls Tryd.prog 44 #[(ag (.i x0.Op :: U4 x0.Set [.i x0.X, .i x0.Y])), .i x1] w0 (Rets (Post.z2v nz wz S0 w0 Lr r)) := by
 refine calls_of_goes (fn := Tryd.f44) (c := B44) (by kernel_rfl) (by kernel_rfl) 65 (by kernel_rfl) ?_
 refine Goes.jp 67 [(0, (ag (.i x0.Op :: U4 x0.Set [.i x0.X, .i x0.Y]))), (1, .i x1)] (fun junk => ?_)
 delta M.prog_right at h
 refine Goes.rn 2 [] Jm2 ?_
 refine Op_.box 49 (.tmp 0) 2 0 (ag (.i x0.Op :: U4 x0.Set [.i x0.X, .i x0.Y])) (.i x0.Op :: U4 x0.Set [.i x0.X, .i x0.Y]) p0 Goes.v (by kernel_rfl) (by kernel_rfl) ?_
 intro b1 w2 z2 p2
 refine Op_.box 3 (.tmp 1) 3 0 (.i x1) [.i x1] p2 Goes.v (by kernel_rfl) (by kernel_rfl) ?_
 intro b3 w3 z3 p3
 refine Goes.rn 10 [(4, .bool false), (7, .func (.func 62) #[] #[(pt b3 0)]), (5, .func (.func 62) #[] #[(pt b3 0)]), (8, (pt b1 1))] Jm4 ?_
 refine Goes.ldN 25 (.tmp 8) 9 25 ⟨b1, 1, none⟩ (U4 x0.Set []) (p3.pa 1 1) ?_
 refine Goes.rn 1 [(10, .agg #[.u 0, .u 0, .u 0, .u 0])] Jm5 ?_
 refine Op_.eqA 25 (.tmp 9) (.tmp 10) 25 11 4 23 4 .u64 (us := ((U4 x0.Set []) : List Value)) (vs := ([.u 0, .u 0, .u 0, .u 0] : List Value)) Goes.v (by kernel_rfl) (by kernel_rfl) (by kernel_rfl) (by kernel_rfl) (by kernel_rfl) (by kernel_rfl) (by kernel_rfl) (els_mk4 (S := S0) (w := w3) (k := .u64) u9e) (show Els (kInt .u64) S0 w3 ([.u 0, .u 0, .u 0, .u 0] : List Value) _ from (Els.cons (K := (kInt .u64)) (vs := [.u 0]) (x := 0) rfl (Els.cons (K := (kInt .u64)) (vs := [.u 0]) (x := 0) rfl (Els.cons (K := (kInt .u64)) (vs := [.u 0]) (x := 0) rfl (Els.cons (K := (kInt .u64)) (vs := [.u 0]) (x := 0) rfl Els.nil))))) (Els.len1 (els_mk4 (S := S0) (w := w3) (k := .u64) u9e) rfl rfl) (Els.len1 (show Els (kInt .u64) S0 w3 ([.u 0, .u 0, .u 0, .u 0] : List Value) _ from (Els.cons (K := (kInt .u64)) (vs := [.u 0]) (x := 0) rfl (Els.cons (K := (kInt .u64)) (vs := [.u 0]) (x := 0) rfl (Els.cons (K := (kInt .u64)) (vs := [.u 0]) (x := 0) rfl (Els.cons (K := (kInt .u64)) (vs := [.u 0]) (x := 0) rfl Els.nil))))) rfl rfl) ?_
 refine Goes.rn 6 [(6, .bool (decide (x0.Set = [0, 0, 0, 0]))), (12, (pt b1 0))] Jm8 ?_
 refine Goes.ld 3 (.tmp 12) 13 3 ⟨b1, 0, none⟩ (.i x0.Op) (p3.c 1 0) ?_
 refine Goes.rn 7 [(15, .bool (decide (x0.Op = 1))), (14, .bool (decide (x0.Op = 1)))] Jma ?_
 refine ite_some h (fun h5 h => ?_) (fun h5 h => ?_)
 ·
  rw [decide_eq_true h5]
  refine Goes.rn 5 [(16, .func (.func 62) #[] #[(pt b3 0)]), (17, (pt b1 5))] Jmc ?_
  refine Goes.ld 3 (.tmp 17) 18 3 ⟨b1, 5, none⟩ (.i x0.X) (p3.c 1 5) ?_
  refine bind_some' h fun y6 e7 h => ?_
  refine Goes.cal (.call { callee := .value (.tmp 16), args := #[(.tmp 18)], argTypes := #[3] }) 19 4 62 _ (W.z2u x0.X x1 y6 e7 b3 p3 ) ?_
  rintro _ w4 ⟨S4, rfl, z4, p4⟩
  have p4 := p4.dp 0
  refine Goes.rn 1 [(20, .bool y6)] Jmd ?_
  refine ite_some h (fun h8 h => ?_) (fun h8 h => ?_)
  ·
   rw [h8]
   refine Goes.rn 1 [(21, (pt b1 6))] Jme ?_
   refine Goes.ld 3 (.tmp 21) 22 3 ⟨b1, 6, none⟩ (.i x0.Y) (p4.c 0 6) ?_
   refine Goes.rn 4 [(23, .bool (decide (x0.Y = 0))), (24, .bool (decide (x0.Y = 0))), (4, .bool (decide (x0.Y = 0)))] Jmb ?_
   obtain rfl := Option.some.inj h
   have p4 := p4.dp 0
   exact Goes.rt Tryd.f44 (.bool (decide (x0.Y = 0))) ⟨S4, rfl, ((((Ext.refl S0 w0).trans z2).trans z3).trans z4), p4⟩
  ·
   have h8' : y6 = false := by simpa using h8
   rw [h8']
   refine Goes.rn 6 [(21, undef), (22, undef), (23, undef), (24, .bool false), (4, .bool false)] Jmb ?_
   obtain rfl := Option.some.inj h
   have p4 := p4.dp 0
   exact Goes.rt Tryd.f44 (.bool false) ⟨S4, rfl, ((((Ext.refl S0 w0).trans z2).trans z3).trans z4), p4⟩
 ·
  rw [decide_eq_false h5]
  refine Goes.rn 6 [(26, .bool (decide (x0.Op = 2))), (25, .bool (decide (x0.Op = 2)))] Jmf ?_
  refine ite_some h (fun h9 h => ?_) (fun h9 h => ?_)
  ·
   rw [decide_eq_true h9]
   refine Goes.rn 5 [(27, .bool (decide (x0.Set = [0, 0, 0, 0]))), (28, .bool (decide (x0.Set = [0, 0, 0, 0])))] Jmh ?_
   refine ite_some h (fun h10 h => ?_) (fun h10 h => ?_)
   ·
    rw [decide_eq_true h10]
    refine Goes.rn 2 [(29, .func (.func 62) #[] #[(pt b3 0)]), (30, (pt b1 5))] Jmi ?_
    refine Goes.ld 3 (.tmp 30) 31 3 ⟨b1, 5, none⟩ (.i x0.X) (p3.c 1 5) ?_
    refine bind_some' h fun y11 e12 h => ?_
    refine Goes.cal (.call { callee := .value (.tmp 29), args := #[(.tmp 31)], argTypes := #[3] }) 32 4 62 _ (W.z2u x0.X x1 y11 e12 b3 p3 ) ?_
    rintro _ w5 ⟨S5, rfl, z5, p5⟩
    refine Goes.rn 2 [(33, .bool y11), (34, .bool y11)] Jmj ?_
    refine ite_some h (fun h13 h => ?_) (fun h13 h => ?_)
    ·
     rw [h13]
     refine Goes.rn 2 [(35, .func (.func 62) #[] #[(pt b3 0)]), (36, (pt b1 6))] Jmk ?_
     refine Goes.ld 3 (.tmp 36) 37 3 ⟨b1, 6, none⟩ (.i x0.Y) (p5.c 1 6) ?_
     refine bind_some' h fun y14 e15 h => ?_
     refine Goes.cal (.call { callee := .value (.tmp 35), args := #[(.tmp 37)], argTypes := #[3] }) 38 4 62 _ (W.z2u x0.Y x1 y14 e15 b3 p5 ) ?_
     rintro _ w6 ⟨S6, rfl, z6, p6⟩
     have p6 := (p6.dp 0).dp 0
     refine Goes.rn 3 [(39, .bool y14), (4, .bool y14)] Jmg ?_
     obtain rfl := Option.some.inj h
     exact Goes.rt Tryd.f44 (.bool y14) ⟨S6, rfl, (((((Ext.refl S0 w0).trans z2).trans z3).trans z5).trans z6), p6⟩
    ·
     have u67 : y11 = false := by simpa using h13
     rw [u67]
     refine Goes.rn 7 [(35, undef), (36, undef), (37, undef), (38, undef), (39, .bool false), (4, .bool false)] Jmg ?_
     obtain rfl := Option.some.inj h
     have p5 := (p5.dp 0).dp 0
     exact Goes.rt Tryd.f44 (.bool false) ⟨S5, rfl, ((((Ext.refl S0 w0).trans z2).trans z3).trans z5), p5⟩
   ·
    rw [decide_eq_false h10]
    refine Goes.rn 13 [(29, undef), (30, undef), (31, undef), (32, undef), (33, .bool false), (34, .bool false), (35, undef), (36, undef), (37, undef), (38, undef), (39, .bool false), (4, .bool false)] Jmg ?_
    obtain rfl := Option.some.inj h
    have p3 := (p3.dp 0).dp 0
    exact Goes.rt Tryd.f44 (.bool false) ⟨S0, rfl, (((Ext.refl S0 w0).trans z2).trans z3), p3⟩
  ·
   rw [decide_eq_false h9]
   refine Goes.rn 6 [(41, .bool (decide (x0.Op = 4))), (40, .bool (decide (x0.Op = 4)))] Jml ?_
   refine ite_some h (fun h16 h => ?_) (fun h16 h => ?_)
   ·
    rw [decide_eq_true h16]
    refine Goes.rn 5 [(42, .bool (decide (x0.Set = [0, 0, 0, 0]))), (43, .bool (decide (x0.Set = [0, 0, 0, 0])))] Jmn ?_
    refine ite_some h (fun h17 h => ?_) (fun h17 h => ?_)
    ·
     rw [decide_eq_true h17]
     refine Goes.rn 2 [(44, .func (.func 62) #[] #[(pt b3 0)]), (45, (pt b1 5))] Jmo ?_
     refine Goes.ld 3 (.tmp 45) 46 3 ⟨b1, 5, none⟩ (.i x0.X) (p3.c 1 5) ?_
     refine bind_some' h fun y18 e19 h => ?_
     refine Goes.cal (.call { callee := .value (.tmp 44), args := #[(.tmp 46)], argTypes := #[3] }) 47 4 62 _ (W.z2u x0.X x1 y18 e19 b3 p3 ) ?_
     rintro _ w7 ⟨S7, rfl, z7, p7⟩
     have p7 := p7.dp 0
     refine Goes.rn 2 [(48, .bool y18), (49, .bool y18)] Jmp ?_
     refine ite_some h (fun h20 h => ?_) (fun h20 h => ?_)
     ·
      rw [h20]
      refine Goes.rn 1 [(50, (pt b1 6))] Jmq ?_
      refine Goes.ld 3 (.tmp 50) 51 3 ⟨b1, 6, none⟩ (.i x0.Y) (p7.c 0 6) ?_
      refine Goes.rn 4 [(52, .bool (decide (x0.Y = 0))), (53, .bool (decide (x0.Y = 0))), (4, .bool (decide (x0.Y = 0)))] Jmm ?_
      obtain rfl := Option.some.inj h
      have p7 := p7.dp 0
      exact Goes.rt Tryd.f44 (.bool (decide (x0.Y = 0))) ⟨S7, rfl, ((((Ext.refl S0 w0).trans z2).trans z3).trans z7), p7⟩
     ·
      have u9y : y18 = false := by simpa using h20
      rw [u9y]
      refine Goes.rn 6 [(50, undef), (51, undef), (52, undef), (53, .bool false), (4, .bool false)] Jmm ?_
      obtain rfl := Option.some.inj h
      have p7 := p7.dp 0
      exact Goes.rt Tryd.f44 (.bool false) ⟨S7, rfl, ((((Ext.refl S0 w0).trans z2).trans z3).trans z7), p7⟩
    ·
     rw [decide_eq_false h17]
     refine Goes.rn 12 [(44, undef), (45, undef), (46, undef), (47, undef), (48, .bool false), (49, .bool false), (50, undef), (51, undef), (52, undef), (53, .bool false), (4, .bool false)] Jmm ?_
     obtain rfl := Option.some.inj h
     have p3 := (p3.dp 0).dp 0
     exact Goes.rt Tryd.f44 (.bool false) ⟨S0, rfl, (((Ext.refl S0 w0).trans z2).trans z3), p3⟩
   ·
    rw [decide_eq_false h16]
    refine Goes.rn 6 [(55, .bool (decide (x0.Op = 3))), (54, .bool (decide (x0.Op = 3)))] Jmr ?_
    refine ite_some h (fun h21 h => ?_) (fun h21 h => ?_)
    ·
     rw [decide_eq_true h21]
     refine Goes.rn 5 [(56, .bool (decide (x0.Set = [0, 0, 0, 0]))), (57, .bool (decide (x0.Set = [0, 0, 0, 0])))] Jmt ?_
     refine ite_some h (fun h22 h => ?_) (fun h22 h => ?_)
     ·
      rw [decide_eq_true h22]
      refine Goes.rn 1 [(58, (pt b1 5))] Jmu ?_
      refine Goes.ld 3 (.tmp 58) 59 3 ⟨b1, 5, none⟩ (.i x0.X) (p3.c 1 5) ?_
      refine Goes.rn 3 [(60, .bool (decide (x0.X = 0))), (61, .bool (decide (x0.X = 0))), (62, .bool (decide (x0.X = 0)))] Jmv ?_
      refine ite_some h (fun h23 h => ?_) (fun h23 h => ?_)
      ·
       rw [decide_eq_true h23]
       refine Goes.rn 1 [(63, (pt b1 6))] Jmw ?_
       refine Goes.ld 3 (.tmp 63) 64 3 ⟨b1, 6, none⟩ (.i x0.Y) (p3.c 1 6) ?_
       refine Goes.rn 4 [(65, .bool (decide (x0.Y = 0))), (66, .bool (decide (x0.Y = 0))), (4, .bool (decide (x0.Y = 0)))] Jms ?_
       obtain rfl := Option.some.inj h
       have p3 := (p3.dp 0).dp 0
       exact Goes.rt Tryd.f44 (.bool (decide (x0.Y = 0))) ⟨S0, rfl, (((Ext.refl S0 w0).trans z2).trans z3), p3⟩
      ·
       rw [decide_eq_false h23]
       refine Goes.rn 6 [(63, undef), (64, undef), (65, undef), (66, .bool false), (4, .bool false)] Jms ?_
       obtain rfl := Option.some.inj h
       have p3 := (p3.dp 0).dp 0
       exact Goes.rt Tryd.f44 (.bool false) ⟨S0, rfl, (((Ext.refl S0 w0).trans z2).trans z3), p3⟩
     ·
      rw [decide_eq_false h22]
      refine Goes.rn 11 [(58, undef), (59, undef), (60, undef), (61, .bool false), (62, .bool false), (63, undef), (64, undef), (65, undef), (66, .bool false), (4, .bool false)] Jms ?_
      obtain rfl := Option.some.inj h
      have p3 := (p3.dp 0).dp 0
      exact Goes.rt Tryd.f44 (.bool false) ⟨S0, rfl, (((Ext.refl S0 w0).trans z2).trans z3), p3⟩
    ·
     rw [decide_eq_false h21]
     refine Goes.rn 7 [(4, .bool false)] Jmx ?_
     obtain rfl := Option.some.inj h
     have p3 := (p3.dp 0).dp 0
     exact Goes.rt Tryd.f44 (.bool false) ⟨S0, rfl, (((Ext.refl S0 w0).trans z2).trans z3), p3⟩

def Qib := sub [1, 1, 1] B23
def Jmy : List Item := [.code Qib]
def Jmz : List Item := .inBlock 0 :: Jmy
def Qic := sub [1, 1, 0, 1, 0, 0] B23
def Jn0 : List Item := .inLoop Qic :: Jmz
def Jn1 : List Item := .code Qic :: Jn0
def Qid := sub [1, 1, 0, 1, 0, 0, 1, 1] B23
def Jn2 : List Item := .code Qid :: Jn0
def Qie := sub [1, 1, 0, 1, 0, 0, 1, 0] B23
def Jn3 : List Item := .code Qie :: Jn2
def Qif := sub [1, 1, 0, 1, 0, 0, 1, 1, 1] B23
def Jn4 : List Item := .code Qif :: Jn0
def Jn5 : List Item := .inBlock 1 :: Jn4
def Qig := sub [1, 1, 0, 1, 0, 0, 1, 1, 0, 0, 1] B23
def Jn6 : List Item := .code Qig :: Jn5
def Qih := sub [1, 1, 0, 1, 0, 0, 1, 1, 0, 0, 0] B23
def Jn7 : List Item := .inRegion (opsOf Qih) [0, 1, 2, 3] :: Jn6
def Qii := sub [1, 1, 0, 1, 0, 0, 1, 1, 0, 0, 1, 1] B23
def Jn8 : List Item := .code Qii :: Jn5
def Qij := sub [1, 1, 0, 1, 0, 0, 1, 1, 0, 0, 1, 0] B23
def Jn9 : List Item := .inRegion (opsOf Qij) [0, 1, 2, 3, 4] :: Jn8
def Jna : List Item := .inRegion (opsOf Qij) [3, 4] :: Jn8
def Qik := sub [1, 1, 0, 1, 0, 0, 1, 1, 0, 0, 1, 1, 0, 1] B23
def Jnb : List Item := .code Qik :: Jn5
def Qil := sub [1, 1, 1, 1] B23
def Jnc : List Item := [.code Qil]

def Post.z2w (r : Int) (v : Value) (w' : World) : Prop :=
 ∃ S', v = .i r ∧ Ext S0 w0 S' w' ∧ Hp nz wz S' w' (Lr)

def L.z2x : (List T48) × (List T48) × Int × Int → Int → Prop := fun ⟨x0, x13, x14, x15⟩ r => ∀ S1 w1, Ext S0 w0 S1 w1 → ∀ Ax0 nx0 cx0 uff ufg ufh (_ : Hp nz wz S1 w1 (Lr)) (_ : Rd kT48 S1 w1 Ax0 cx0 x0) (_ : x0.length = nx0) (_ : Rd kT48 S1 w1 uff ufh x13) (_ : x13.length = ufg) (junk : Nat → Value),
 Goes Tryd.prog (base 23) Jn1 ⟨lfr 25 [(0, .slice Ax0 nx0 cx0), (13, .slice uff ufg ufh), (14, .i x14), (15, .i x15)] junk, []⟩ w1 (Done Tryd.prog 23 (Rets (Post.z2w nz wz S0 w0 Lr r)))

theorem W.z2x {nz wz S0 w0 Lr} [Gw nz wz] : ∀ a r, M.prog_Check_l1 a = some r → (L.z2x nz wz S0 w0 Lr) a r := by
 refine M.prog_Check_l1.partial_correctness (motive := (L.z2x nz wz S0 w0 Lr)) ?_
 intro ufi ufj ⟨x0, x13, x14, x15⟩ r h S1 w1 hx Ax0 nx0 cx0 uff ufg ufh p1 fx0 lx0 ufk ufl junk
 try dsimp only at h
 subst lx0
 subst ufl
 refine Goes.rn 5 [(16, .bool (decide (x15 < x14)))] Jn3 ?_
 refine ite_some h (fun h3 h => ?_) (fun h3 h => ?_)
 ·
  rw [decide_eq_true h3]
  refine Goes.rn 6 [] Jn7 ?_
  refine guard_some' h fun g4 h => ?_
  refine guard_some' h fun g5 h => ?_
  refine Op_.ixR_n 37 (.tmp 13) (.tmp 15) 17 0 49 .i64 x15 (gi x13 x15) rfl rfl ufk Goes.v (by kernel_rfl) (by kernel_rfl) (by kernel_rfl) (by kernel_rfl) g4 g5 ?_
  intro a6 _ f7 q8
  obtain ⟨_, _, rfl, rfl, ⟨_, _, rfl, ⟨l9, f10⟩, ⟨_, _, rfl, rfl, rfl⟩⟩⟩ := q8
  obtain rfl := els_lit4' f10 l9
  refine Goes.ldN 49 (.tmp 17) 18 49 a6 ([.i ((gi x13 x15).Op)] ++ ((U4 ((gi x13 x15).Set) []) ++ ([.i ((gi x13 x15).X)] ++ [.i ((gi x13 x15).Y)]))) (f7.cell) ?_
  refine Op_.alloc 49 4 0 (.agg #[.i 0, .u 0, .u 0, .u 0, .u 0, .i 0, .i 0]) [.i 0, .u 0, .u 0, .u 0, .u 0, .i 0, .i 0] p1 Goes.v (by kernel_rfl) (by kernel_rfl) ?_
  intro b11 w2 z2 p2
  refine Op_.st 49 (.tmp 4) (.tmp 18) 0 0 b11 0 (ag (.i ((gi x13 x15).Op) :: U4 ((gi x13 x15).Set) [.i ((gi x13 x15).X), .i ((gi x13 x15).Y)])) (.i ((gi x13 x15).Op) :: U4 ((gi x13 x15).Set) [.i ((gi x13 x15).X), .i ((gi x13 x15).Y)]) p2 rfl Goes.s (by kernel_rfl) (by kernel_rfl) (by kernel_rfl) (by kernel_rfl) (Nat.zero_le _) (by simp only [List.length_cons, List.length_nil]; omega) (by simp [Value.oneCell']) ?_
  intro w3 z3 p3
  have p3 : Hp nz wz S1 w3 ((some b11, .row 49 (.i ((gi x13 x15).Op) :: U4 ((gi x13 x15).Set) [.i ((gi x13 x15).X), .i ((gi x13 x15).Y)]) 7 0) :: Lr) := p3
  refine Goes.rn 3 [] Jn9 ?_
  refine Goes.ldN 49 (.tmp 4) 19 49 ⟨b11, 0, none⟩ (.i ((gi x13 x15).Op) :: U4 ((gi x13 x15).Set) [.i ((gi x13 x15).X), .i ((gi x13 x15).Y)]) (p3.pa 0 0) ?_
  refine Goes.rn 2 [(20, .slice Ax0 x0.length cx0), (21, .i (x0.length : Int))] Jna ?_
  refine bind_some' h fun y13 e14 h => ?_
  refine Goes.cal (kc 44 [19, 21] #[49, 3]) 22 4 44 _ (W.z2v (⟨(gi x13 x15).Op, ((gi x13 x15).Set), (gi x13 x15).X, (gi x13 x15).Y⟩ : T48) (x0.length : Int) y13 e14  p3 l9) ?_
  rintro _ w4 ⟨S4, rfl, z4, p4⟩
  have p4 := p4.dp 0
  refine Goes.rn 2 [(23, .bool (!y13))] Jn8 ?_
  refine ite_some h (fun h15 h => ?_) (fun h15 h => ?_)
  ·
   rw [h15]
   refine Goes.rn 8 [(24, .i (wr .i64 (x15 + 1))), (15, .i (wr .i64 (x15 + 1)))] Jn1 ?_
   exact Goes.jp 25 [(0, .slice Ax0 x0.length cx0), (13, .slice uff x13.length ufh), (14, .i x14), (15, .i (wr .i64 (x15 + 1)))] (ufj _ _ h _ _ (((hx.trans z2).trans z3).trans z4) Ax0 x0.length cx0 uff x13.length ufh p4 (fx0.ext ((z2.trans z3).trans z4)) rfl (ufk.ext ((z2.trans z3).trans z4)) rfl)
  ·
   have u73 : y13 = false := by simpa using h15
   rw [u73]
   refine Goes.rn 5 [(2, .i 110)] Jnb ?_
   obtain rfl := Option.some.inj h
   exact Goes.rt Tryd.f23 (.i 110) ⟨S4, rfl, (((hx.trans z2).trans z3).trans z4), p4⟩
 ·
  rw [decide_eq_false h3]
  refine Goes.rn 6 [(2, .i 0)] Jnc ?_
  obtain rfl := Option.some.inj h
  exact Goes.rt Tryd.f23 (.i 0) ⟨S1, rfl, hx, p1⟩

def Qim := sub [1, 1] B23
def Jnd : List Item := [.code Qim]
def Qin := sub [1, 0, 1] B23
def Jne : List Item := .code Qin :: Jnd
def Qio := sub [1, 0, 1, 0, 1] B23
def Jnf : List Item := .code Qio :: Jnd

def L.z2y : (List T48) × Bool → Int → Prop := fun ⟨x0, x12⟩ r => ∀ S1 w1, Ext S0 w0 S1 w1 → ∀ Ax0 nx0 cx0 (_ : Hp nz wz S1 w1 (Lr)) (_ : Rd kT48 S1 w1 Ax0 cx0 x0) (_ : x0.length = nx0) (junk : Nat → Value),
 Goes Tryd.prog (base 23) Jne ⟨lfr 25 [(0, .slice Ax0 nx0 cx0), (12, .bool x12)] junk, []⟩ w1 (Done Tryd.prog 23 (Rets (Post.z2w nz wz S0 w0 Lr r)))

theorem W.z2y {nz wz S0 w0 Lr} [Gw nz wz] : ∀ a r, M.prog_Check_l0 a = some r → L.z2y nz wz S0 w0 Lr a r := by
 intro ⟨x0, x12⟩ r h S1 w1 hx Ax0 nx0 cx0 p1 fx0 lx0 junk
 rw [M.prog_Check_l0] at h
 try dsimp only at h
 subst lx0
 refine ite_some h (fun h2 h => ?_) (fun h2 h => ?_)
 ·
  rw [h2]
  refine Goes.rn 5 [(2, .i 110)] Jnf ?_
  obtain rfl := Option.some.inj h
  exact Goes.rt Tryd.f23 (.i 110) ⟨S1, rfl, hx, p1⟩
 ·
  have h2' : x12 = false := by simpa using h2
  rw [h2']
  refine Goes.rn 11 [(13, .slice Ax0 x0.length cx0), (14, .i (x0.length : Int)), (15, .i 0)] Jn1 ?_
  exact Goes.jp 25 [(0, .slice Ax0 x0.length cx0), (13, .slice Ax0 x0.length cx0), (14, .i (x0.length : Int)), (15, .i 0)] (W.z2x _ _ h _ _ hx Ax0 x0.length cx0 Ax0 x0.length cx0 p1 fx0 rfl fx0 rfl)

def Qip := sub [1, 0, 0] B23
def Jng : List Item := .inRegion (opsOf Qip) [4, 5, 6, 7] :: Jne

theorem W.z2w (x0 : List T48) (r : Int) (h : M.prog_Check x0 = some r) {nz wz S0 w0 Lr} [Gw nz wz] (Ax0 nx0 cx0) (p0 : Hp nz wz S0 w0 (Lr)) (fx0 : Rd kT48 S0 w0 Ax0 cx0 x0) (lx0 : x0.length = nx0) :
  Calls Tryd.prog 23 #[.slice Ax0 nx0 cx0] w0 (Rets (Post.z2w nz wz S0 w0 Lr r)) := by
 subst lx0
 refine calls_of_goes (fn := Tryd.f23) (c := B23) (by kernel_rfl) (by kernel_rfl) 24 (by kernel_rfl) ?_
 refine Goes.jp 25 [(0, .slice Ax0 x0.length cx0)] (fun junk => ?_)
 delta M.prog_Check at h
 refine Goes.rn 11 [(2, .i 0), (5, .slice Ax0 x0.length cx0), (6, .i (x0.length : Int)), (7, .bool (decide ((x0.length : Int) = 0))), (8, .bool (decide ((x0.length : Int) = 0)))] Jng ?_
 refine ite_some h (fun h1 h => ?_) (fun h1 h => ?_)
 ·
  rw [decide_eq_true h1]
  refine Goes.rn 5 [(9, undef), (10, undef), (11, undef), (12, .bool true)] Jne ?_
  exact Goes.jp 25 [(0, .slice Ax0 x0.length cx0), (12, .bool true)] (W.z2y _ _ h _ _ (Ext.refl S0 w0) Ax0 x0.length cx0 p0 fx0 rfl)
 ·
  rw [decide_eq_false h1]
  refine Goes.rn 5 [(9, .slice Ax0 x0.length cx0), (10, .i (x0.length : Int)), (11, .bool (decide ((x0.length : Int) > 2048))), (12, .bool (decide ((x0.length : Int) > 2048)))] Jne ?_
  exact Goes.jp 25 [(0, .slice Ax0 x0.length cx0), (12, .bool (decide ((x0.length : Int) > 2048)))] (W.z2y _ _ h _ _ (Ext.refl S0 w0) Ax0 x0.length cx0 p0 fx0 rfl)

def Qiq := sub [1] B41
def Jnh : List Item := [.code Qiq]
def Qir := sub [0] B41
def Jni : List Item := .inRegion (opsOf Qir) [0, 1] :: Jnh
def Qis := sub [1, 1] B41
def Jnj : List Item := [.code Qis]

def Post.z2z (r : List T48) (v : Value) (w' : World) : Prop :=
 ∃ S' uh ufm ufn ufo, v = .func (.func 59) #[] #[(pt uh 0)] ∧ Ext S0 w0 S' w' ∧ Hp nz wz S' w' ((some uh, .row 37 [.slice ufm ufn ufo] 1 0) :: Lr) ∧ Rd kT48 S' w' ufm ufo r ∧ r.length = ufn

theorem W.z2z (x0 : List T48) (r : List T48) (h : M.prog_lines x0 = some r) {nz wz S0 w0 Lr} [Gw nz wz] (Ax0 nx0 cx0) (p0 : Hp nz wz S0 w0 (Lr)) (fx0 : Rd kT48 S0 w0 Ax0 cx0 x0) (lx0 : x0.length = nx0) :
  Calls Tryd.prog 41 #[.slice Ax0 nx0 cx0] w0 (Rets (Post.z2z nz wz S0 w0 Lr r)) := by
 subst lx0
 refine calls_of_goes (fn := Tryd.f41) (c := B41) (by kernel_rfl) (by kernel_rfl) 3 (by kernel_rfl) ?_
 refine Goes.jp 4 [(0, .slice Ax0 x0.length cx0)] (fun junk => ?_)
 delta M.prog_lines at h
 refine Goes.rn 2 [] Jni ?_
 refine Op_.box 37 (.tmp 0) 1 0 (.slice Ax0 x0.length cx0) [.slice Ax0 x0.length cx0] p0 Goes.v (by kernel_rfl) (by kernel_rfl) ?_
 intro b1 w2 z2 p2
 refine Goes.rn 7 [(2, .func (.func 59) #[] #[(pt b1 0)]), (3, .func (.func 59) #[] #[(pt b1 0)])] Jnj ?_
 obtain rfl := Option.some.inj h
 exact Goes.rt Tryd.f41 (.func (.func 59) #[] #[(pt b1 0)]) ⟨S0, b1, Ax0, x0.length, cx0, rfl, ((Ext.refl S0 w0).trans z2), p2, (fx0.ext z2), rfl⟩

end

end Go.Gx
