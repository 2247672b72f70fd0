import Derived.Test.YtemokppdnkiejaaDoorWPrd

set_option linter.unusedVariables false

set_option maxRecDepth 100000

set_option maxHeartbeats 4000000

namespace Go.Gx

open Go.RowKit Go.Proofs

variable (nz : Nat) (wz : World) (S0 : Fz) (w0 : World) (Lr : List Ent)

noncomputable section

def Qju := sub [1, 1, 1, 1, 1, 1] B55
def Jp9 : List Item := [.code Qju]
def Jpa : List Item := .inBlock 2 :: Jp9
def Qjv := sub [1, 1, 1, 1, 1, 0, 1, 0, 0] B55
def Jpb : List Item := .inLoop Qjv :: Jpa
def Jpc : List Item := .code Qjv :: Jpb
def Qjw := sub [1, 1, 1, 1, 1, 0, 1, 0, 0, 1, 1] B55
def Jpd : List Item := .code Qjw :: Jpb
def Qjx := sub [1, 1, 1, 1, 1, 0, 1, 0, 0, 1, 0] B55
def Jpe : List Item := .code Qjx :: Jpd
def Qjy := sub [1, 1, 1, 1, 1, 0, 1, 0, 0, 1, 1, 1] B55
def Jpf : List Item := .code Qjy :: Jpb
def Jpg : List Item := .inBlock 3 :: Jpf
def Qjz := sub [1, 1, 1, 1, 1, 0, 1, 0, 0, 1, 1, 0, 0] B55
def Jph : List Item := .inRegion (opsOf Qjz) [2, 3, 4, 5, 6, 7] :: Jpg
def Jpi : List Item := .inRegion (opsOf Qjz) [4, 5, 6, 7] :: Jpg
def Qk0 := sub [1, 1, 1, 1, 1, 1, 1] B55
def Jpj : List Item := [.code Qk0]

def Post.z39 (gx0 : Nat) (ue9 : Option Nat) (uea : Nat) (ueb : Nat) (uec : List Value) (ue8 : List T48) (r : List T99) (v : Value) (w' : World) : Prop :=
 ∃ S' Gq nq cq csq, v = .slice (Gp Gq) nq cq ∧ Ext S0 w0 S' w' ∧ Hp nz wz S' w' ((Gq, .row 100 csq (cq * (kT99 gx0).size) 0) :: (some gx0, .row 78 [.slice (Gp ue9) uea ueb] 1 0) :: (ue9, .row 49 uec (ueb * kT48.size) 0) :: Lr) ∧ Els (kT99 gx0) S' w' csq r ∧ r.length = nq

def L.z3a (gx0 : Nat) (ue9 : Option Nat) (uea : Nat) (ueb : Nat) (uec : List Value) : Int × (List T99) × T27 × Int × Int × (List T48) → (List T99) → Prop := fun ⟨x2, x7, x8v, x37, x38, ue8⟩ r => ∀ S1 w1, Ext S0 w0 S1 w1 → ∀ Gx7 nx7 cx7 uen gx8 ueo uep ueq (_ : Hp nz wz S1 w1 ((Gx7, .row 100 uen (cx7 * (kT99 gx0).size) 0) :: (some gx8, .row 28 (.i x8v.Kind :: U4 x8v.Set [.slice ueo uep ueq, .i x8v.Min, .i x8v.Max]) 8 0) :: (some gx0, .row 78 [.slice (Gp ue9) uea ueb] 1 0) :: (ue9, .row 49 uec (ueb * kT48.size) 0) :: Lr)) (_ : Els (kT99 gx0) S1 w1 uen x7) (_ : x7.length = nx7) (_ : x8v.Set.length = 4) (_ : Rd kT27 S1 w1 ueo ueq x8v.L) (_ : x8v.L.length = uep) (_ : Els kT48 S1 w1 uec ue8) (_ : ue8.length = uea) (junk : Nat → Value),
 Goes Tryd.prog (base 55) Jpc ⟨lfr 49 [(0, (pt gx0 0)), (2, .i x2), (7, .slice (Gp Gx7) nx7 cx7), (8, (pt gx8 0)), (37, .i x37), (38, .i x38)] junk, []⟩ w1 (Done Tryd.prog 55 (Rets (Post.z39 nz wz S0 w0 Lr gx0 ue9 uea ueb uec ue8 r)))

theorem W.z3a {nz wz S0 w0 Lr} [Gw nz wz] (gx0 : Nat) (ue9 : Option Nat) (uea : Nat) (ueb : Nat) (uec : List Value) : ∀ a r, M.prog_writer_times_l3 a = some r → (L.z3a nz wz S0 w0 Lr gx0 ue9 uea ueb uec) a r := by
 refine M.prog_writer_times_l3.partial_correctness (motive := (L.z3a nz wz S0 w0 Lr gx0 ue9 uea ueb uec)) ?_
 intro uer ues ⟨x2, x7, x8v, x37, x38, ue8⟩ r h S1 w1 hx Gx7 nx7 cx7 uen gx8 ueo uep ueq p1 fx7 lx7 uet ueu uev fs5 ls5 junk
 try dsimp only at h
 subst lx7
 subst uev
 subst ls5
 refine Goes.rn 5 [(39, .bool (decide (x38 < x37)))] Jpe ?_
 refine ite_some h (fun h99 h => ?_) (fun h99 h => ?_)
 ·
  rw [decide_eq_true h99]
  refine Goes.rn 7 [(40, .slice (Gp Gx7) x7.length cx7), (41, (pt gx0 0))] Jph ?_
  refine Goes.ldN 28 (.tmp 8) 42 28 ⟨gx8, 0, none⟩ (.i x8v.Kind :: U4 x8v.Set [.slice ueo x8v.L.length ueq, .i x8v.Min, .i x8v.Max]) (p1.pa 1 0) ?_
  refine Goes.rn 1 [(43, .i x2)] Jpi ?_
  have p1 := (p1.fr 3).fr 3
  refine bind_some' h fun uew uex h => ?_
  refine Goes.cal (kc 73 [41, 42, 43] #[76, 28, 3]) 44 100 73 _ (W.z38 ue8 x8v x2 uew uex gx0 ue9 ue8.length ueb uec ueo x8v.L.length ueq p1 fs5 rfl uet ueu rfl) ?_
  rintro _ w20 ⟨S20, uey, rfl, z20, p20, uez⟩
  have uf0 : Els (kT99 gx0) S20 w20 ([.i uew.n, uey] : List Value) [uew] := by exact (Els.cons (K := (kT99 gx0)) (vs := [.i uew.n, uey]) (x := uew) ⟨[.i uew.n], [uey], rfl, rfl, uez⟩ Els.nil)
  refine Op_.made (.buildSlice 95 1 #[(0, (.tmp 44))]) 45 95 (fun b => .slice (Gp (some b)) 1 1) 100 ([.i uew.n, uey] : List Value) p20 Goes.v (by kernel_rfl) ?_
  intro uf1 w21 z21 p21
  have p21 : Hp nz wz S20 w21 (((some uf1), .row 100 ([.i uew.n, uey] : List Value) (1 * (kT99 gx0).size) 0) :: (some gx0, .row 78 [.slice (Gp ue9) ue8.length ueb] 1 0) :: (ue9, .row 49 uec (ueb * kT48.size) 0) :: (Gx7, .row 100 uen (cx7 * (kT99 gx0).size) 0) :: (some gx8, .row 28 (.i x8v.Kind :: U4 x8v.Set [.slice ueo x8v.L.length ueq, .i x8v.Min, .i x8v.Max]) 8 0) :: Lr) := p21
  refine guard_some' h fun uf2 h => ?_
  refine Op_.ap_n (K := (kT99 gx0)) 95 (.tmp 40) (.tmp 45) 46 95 100 3 (.agg #[.i 0, .nilFunc]) 16 x7.length cx7 1 x7 [uew] (x7 ++ [uew]) (Gp (some uf1)) 1 rfl rfl rfl p21 rfl (fx7.ext (z20.trans z21)) Goes.v (by kernel_rfl) (by kernel_rfl) (by kernel_rfl) (by kernel_rfl) rfl (show (0 : Nat) < 2 by decide) (uf0.ext z21) (src_own p21 (q := 0) rfl) (by have := uf2; omega) (by have := uf2; omega) ?_
  intro w22 uf3 uf4 uf5 z22 p22 uf6
  refine Goes.rn 8 [(7, .slice (Gp uf3) ((x7 ++ [uew]).length) uf4), (47, .i (wr .i64 (x38 + 1))), (38, .i (wr .i64 (x38 + 1)))] Jpc ?_
  have p22 := p22.dp 0
  have p22 := (((p22.fr 1).fr 1).fr 3).fr 3
  exact Goes.jp 49 [(0, (pt gx0 0)), (2, .i x2), (7, .slice (Gp uf3) ((x7 ++ [uew]).length) uf4), (8, (pt gx8 0)), (37, .i x37), (38, .i (wr .i64 (x38 + 1)))] (ues _ _ h _ _ (((hx.trans z20).trans z21).trans z22) uf3 ((x7 ++ [uew]).length) uf4 uf5 gx8 ueo x8v.L.length ueq p22 uf6 rfl uet (ueu.ext ((z20.trans z21).trans z22)) rfl (fs5.ext ((z20.trans z21).trans z22)) rfl)
 ·
  rw [decide_eq_false h99]
  refine Goes.rn 7 [(48, .slice (Gp Gx7) x7.length cx7), (6, .slice (Gp Gx7) x7.length cx7)] Jpj ?_
  obtain rfl := Option.some.inj h
  have p1 := p1.dp 1
  exact Goes.rt Tryd.f55 (.slice (Gp Gx7) x7.length cx7) ⟨S1, Gx7, x7.length, cx7, uen, rfl, hx, p1, fx7, rfl⟩

def Qk1 := sub [1, 1, 1, 1] B55
def Jpk : List Item := [.code Qk1]
def Jpl : List Item := .inBlock 0 :: Jpk
def Qk2 := sub [1, 1, 1, 0, 1, 0, 0] B55
def Jpm : List Item := .inLoop Qk2 :: Jpl
def Jpn : List Item := .code Qk2 :: Jpm
def Qk3 := sub [1, 1, 1, 0, 1, 0, 0, 1, 1] B55
def Jpo : List Item := .code Qk3 :: Jpm
def Qk4 := sub [1, 1, 1, 0, 1, 0, 0, 1, 0] B55
def Jpp : List Item := .code Qk4 :: Jpo
def Qk5 := sub [1, 1, 1, 0, 1, 0, 0, 1, 1, 1] B55
def Jpq : List Item := .code Qk5 :: Jpm
def Jpr : List Item := .inBlock 1 :: Jpq
def Qk6 := sub [1, 1, 1, 0, 1, 0, 0, 1, 1, 0, 0] B55
def Jps : List Item := .inRegion (opsOf Qk6) [2, 3, 4, 5, 6] :: Jpr
def Qk7 := sub [1, 1, 1, 1, 1] B55
def Jpt : List Item := [.code Qk7]
def Qk8 := sub [1, 1, 1, 1, 0, 1] B55
def Jpu : List Item := .code Qk8 :: Jpt
def Qk9 := sub [1, 1, 1, 1, 0, 0] B55
def Jpv : List Item := .inRegion (opsOf Qk9) [1, 2] :: Jpu
def Qka := sub [1, 1, 1, 1, 0, 1, 0, 1] B55
def Jpw : List Item := .code Qka :: Jpt
def Qkb := sub [1, 1, 1, 1, 0, 1, 0, 0] B55
def Jpx : List Item := .inRegion (opsOf Qkb) [2, 3, 4, 5, 6] :: Jpw
def Qkc := sub [1, 1, 1, 1, 1, 0, 1] B55
def Jpy : List Item := .code Qkc :: Jp9
def Qkd := sub [1, 1, 1, 1, 1, 0, 0] B55
def Jpz : List Item := .inRegion (opsOf Qkd) [1, 2, 3, 4, 5] :: Jpy
def Jq0 : List Item := .inRegion (opsOf Qkd) [3, 4, 5] :: Jpy

def L.z3b (gx0 : Nat) (ue9 : Option Nat) (uea : Nat) (ueb : Nat) (uec : List Value) : Int × T27 × (List T99) × T27 × Int × Int × (List T48) → (List T99) → Prop := fun ⟨x2, x4v, x7, x8v, x14, x15, ue8⟩ r => ∀ S1 w1, Ext S0 w0 S1 w1 → ∀ gx4 uf7 uf8 uf9 Gx7 nx7 cx7 uen gx8 ueo uep ueq (_ : Hp nz wz S1 w1 ((some gx4, .row 28 (.i x4v.Kind :: U4 x4v.Set [.slice uf7 uf8 uf9, .i x4v.Min, .i x4v.Max]) 8 0) :: (Gx7, .row 100 uen (cx7 * (kT99 gx0).size) 0) :: (some gx8, .row 28 (.i x8v.Kind :: U4 x8v.Set [.slice ueo uep ueq, .i x8v.Min, .i x8v.Max]) 8 0) :: (some gx0, .row 78 [.slice (Gp ue9) uea ueb] 1 0) :: (ue9, .row 49 uec (ueb * kT48.size) 0) :: Lr)) (_ : x4v.Set.length = 4) (_ : Rd kT27 S1 w1 uf7 uf9 x4v.L) (_ : x4v.L.length = uf8) (_ : Els (kT99 gx0) S1 w1 uen x7) (_ : x7.length = nx7) (_ : x8v.Set.length = 4) (_ : Rd kT27 S1 w1 ueo ueq x8v.L) (_ : x8v.L.length = uep) (_ : Els kT48 S1 w1 uec ue8) (_ : ue8.length = uea) (junk : Nat → Value),
 Goes Tryd.prog (base 55) Jpn ⟨lfr 49 [(0, (pt gx0 0)), (2, .i x2), (4, (pt gx4 0)), (7, .slice (Gp Gx7) nx7 cx7), (8, (pt gx8 0)), (14, .i x14), (15, .i x15)] junk, []⟩ w1 (Done Tryd.prog 55 (Rets (Post.z39 nz wz S0 w0 Lr gx0 ue9 uea ueb uec ue8 r)))

theorem W.z3b {nz wz S0 w0 Lr} [Gw nz wz] (gx0 : Nat) (ue9 : Option Nat) (uea : Nat) (ueb : Nat) (uec : List Value) : ∀ a r, M.prog_writer_times_l1 a = some r → (L.z3b nz wz S0 w0 Lr gx0 ue9 uea ueb uec) a r := by
 refine M.prog_writer_times_l1.partial_correctness (motive := (L.z3b nz wz S0 w0 Lr gx0 ue9 uea ueb uec)) ?_
 intro ufa ufb ⟨x2, x4v, x7, x8v, x14, x15, ue8⟩ r h S1 w1 hx gx4 uf7 uf8 uf9 Gx7 nx7 cx7 uen gx8 ueo uep ueq p1 ufc ufd ufe fx7 lx7 uet ueu uev fs8 ls8 junk
 try dsimp only at h
 subst ufe
 subst lx7
 subst uev
 subst ls8
 refine Goes.rn 5 [(16, .bool (decide (x15 < x14)))] Jpp ?_
 refine ite_some h (fun h53 h => ?_) (fun h53 h => ?_)
 ·
  rw [decide_eq_true h53]
  refine Goes.rn 7 [(17, .slice (Gp Gx7) x7.length cx7), (18, (pt gx0 0))] Jps ?_
  refine Goes.ldN 28 (.tmp 8) 19 28 ⟨gx8, 0, none⟩ (.i x8v.Kind :: U4 x8v.Set [.slice ueo x8v.L.length ueq, .i x8v.Min, .i x8v.Max]) (p1.pa 2 0) ?_
  have p1 := (p1.fr 4).fr 4
  refine bind_some' h fun y54 e55 h => ?_
  refine Goes.cal (kc 54 [18, 19] #[76, 28]) 20 100 54 _ (W.z36 ue8 x8v y54 e55 gx0 ue9 ue8.length ueb uec ueo x8v.L.length ueq p1 fs8 rfl uet ueu rfl) ?_
  rintro _ w11 ⟨S11, uff, rfl, z11, p11, ufg⟩
  have f57 : Els (kT99 gx0) S11 w11 ([.i y54.n, uff] : List Value) [y54] := by exact (Els.cons (K := (kT99 gx0)) (vs := [.i y54.n, uff]) (x := y54) ⟨[.i y54.n], [uff], rfl, rfl, ufg⟩ Els.nil)
  refine Op_.made (.buildSlice 95 1 #[(0, (.tmp 20))]) 21 95 (fun b => .slice (Gp (some b)) 1 1) 100 ([.i y54.n, uff] : List Value) p11 Goes.v (by kernel_rfl) ?_
  intro b56 w12 z12 p12
  have p12 : Hp nz wz S11 w12 (((some b56), .row 100 ([.i y54.n, uff] : List Value) (1 * (kT99 gx0).size) 0) :: (some gx0, .row 78 [.slice (Gp ue9) ue8.length ueb] 1 0) :: (ue9, .row 49 uec (ueb * kT48.size) 0) :: (some gx4, .row 28 (.i x4v.Kind :: U4 x4v.Set [.slice uf7 x4v.L.length uf9, .i x4v.Min, .i x4v.Max]) 8 0) :: (Gx7, .row 100 uen (cx7 * (kT99 gx0).size) 0) :: (some gx8, .row 28 (.i x8v.Kind :: U4 x8v.Set [.slice ueo x8v.L.length ueq, .i x8v.Min, .i x8v.Max]) 8 0) :: Lr) := p12
  refine guard_some' h fun g62 h => ?_
  refine Op_.ap_n (K := (kT99 gx0)) 95 (.tmp 17) (.tmp 21) 22 95 100 4 (.agg #[.i 0, .nilFunc]) 16 x7.length cx7 1 x7 [y54] (x7 ++ [y54]) (Gp (some b56)) 1 rfl rfl rfl p12 rfl (fx7.ext (z11.trans z12)) Goes.v (by kernel_rfl) (by kernel_rfl) (by kernel_rfl) (by kernel_rfl) rfl (show (0 : Nat) < 2 by decide) (f57.ext z12) (src_own p12 (q := 0) rfl) (by have := g62; omega) (by have := g62; omega) ?_
  intro w13 G63 c64 ufh z13 p13 f66
  refine Goes.rn 8 [(7, .slice (Gp G63) ((x7 ++ [y54]).length) c64), (23, .i (wr .i64 (x15 + 1))), (15, .i (wr .i64 (x15 + 1)))] Jpn ?_
  have p13 := p13.dp 0
  have p13 := ((((p13.fr 1).fr 1).fr 4).fr 4).fr 4
  exact Goes.jp 49 [(0, (pt gx0 0)), (2, .i x2), (4, (pt gx4 0)), (7, .slice (Gp G63) ((x7 ++ [y54]).length) c64), (8, (pt gx8 0)), (14, .i x14), (15, .i (wr .i64 (x15 + 1)))] (ufb _ _ h _ _ (((hx.trans z11).trans z12).trans z13) gx4 uf7 x4v.L.length uf9 G63 ((x7 ++ [y54]).length) c64 ufh gx8 ueo x8v.L.length ueq p13 ufc (ufd.ext ((z11.trans z12).trans z13)) rfl f66 rfl uet (ueu.ext ((z11.trans z12).trans z13)) rfl (fs8.ext ((z11.trans z12).trans z13)) rfl)
 ·
  rw [decide_eq_false h53]
  refine Goes.rn 6 [(24, (pt gx4 7))] Jpv ?_
  refine Goes.ld 3 (.tmp 24) 25 3 ⟨gx4, 7, none⟩ (.i x4v.Max) (p1.c 0 7) ?_
  refine Goes.rn 2 [(26, .bool (decide (x4v.Max < 0)))] Jpu ?_
  refine ite_some h (fun h67 h => ?_) (fun h67 h => ?_)
  ·
   rw [decide_eq_true h67]
   refine Goes.rn 5 [(27, .slice (Gp Gx7) x7.length cx7), (28, (pt gx0 0))] Jpx ?_
   refine Goes.ldN 28 (.tmp 8) 29 28 ⟨gx8, 0, none⟩ (.i x8v.Kind :: U4 x8v.Set [.slice ueo x8v.L.length ueq, .i x8v.Min, .i x8v.Max]) (p1.pa 2 0) ?_
   have p1 := (p1.fr 4).fr 4
   refine bind_some' h fun y68 e69 h => ?_
   refine Goes.cal (kc 72 [28, 29] #[76, 28]) 30 100 72 _ (W.z37 ue8 x8v y68 e69 gx0 ue9 ue8.length ueb uec ueo x8v.L.length ueq p1 fs8 rfl uet ueu rfl) ?_
   rintro _ w14 ⟨S14, ufi, rfl, z14, p14, ufj⟩
   have p14 := (p14.dp 2).dp 3
   have f71 : Els (kT99 gx0) S14 w14 ([.i y68.n, ufi] : List Value) [y68] := by exact (Els.cons (K := (kT99 gx0)) (vs := [.i y68.n, ufi]) (x := y68) ⟨[.i y68.n], [ufi], rfl, rfl, ufj⟩ Els.nil)
   refine Op_.made (.buildSlice 95 1 #[(0, (.tmp 30))]) 31 95 (fun b => .slice (Gp (some b)) 1 1) 100 ([.i y68.n, ufi] : List Value) p14 Goes.v (by kernel_rfl) ?_
   intro b70 w15 z15 p15
   have p15 : Hp nz wz S14 w15 (((some b70), .row 100 ([.i y68.n, ufi] : List Value) (1 * (kT99 gx0).size) 0) :: (some gx0, .row 78 [.slice (Gp ue9) ue8.length ueb] 1 0) :: (ue9, .row 49 uec (ueb * kT48.size) 0) :: (Gx7, .row 100 uen (cx7 * (kT99 gx0).size) 0) :: Lr) := p15
   refine guard_some' h fun g76 h => ?_
   refine Op_.ap_n (K := (kT99 gx0)) 95 (.tmp 27) (.tmp 31) 32 95 100 3 (.agg #[.i 0, .nilFunc]) 16 x7.length cx7 1 x7 [y68] (x7 ++ [y68]) (Gp (some b70)) 1 rfl rfl rfl p15 rfl (fx7.ext (z14.trans z15)) Goes.v (by kernel_rfl) (by kernel_rfl) (by kernel_rfl) (by kernel_rfl) rfl (show (0 : Nat) < 2 by decide) (f71.ext z15) (src_own p15 (q := 0) rfl) (by have := g76; omega) (by have := g76; omega) ?_
   intro w16 G77 c78 ufk z16 p16 f80
   refine Goes.rn 2 [(6, .slice (Gp G77) ((x7 ++ [y68]).length) c78)] Jpw ?_
   obtain rfl := Option.some.inj h
   have p16 := p16.dp 0
   have p16 := ((p16.fr 1).fr 1).fr 2
   exact Goes.rt Tryd.f55 (.slice (Gp G77) ((x7 ++ [y68]).length) c78) ⟨S14, G77, (x7 ++ [y68]).length, c78, ufk, rfl, (((hx.trans z14).trans z15).trans z16), p16, f80, rfl⟩
  ·
   rw [decide_eq_false h67]
   refine Goes.rn 6 [(33, (pt gx4 7))] Jpz ?_
   refine Goes.ld 3 (.tmp 33) 34 3 ⟨gx4, 7, none⟩ (.i x4v.Max) (p1.c 0 7) ?_
   refine Goes.rn 1 [(35, (pt gx4 6))] Jq0 ?_
   refine Goes.ld 3 (.tmp 35) 36 3 ⟨gx4, 6, none⟩ (.i x4v.Min) (p1.c 0 6) ?_
   refine Goes.rn 5 [(37, .i (wr .i64 (x4v.Max - x4v.Min))), (38, .i 0)] Jpc ?_
   have p1 := p1.dp 0
   exact Goes.jp 49 [(0, (pt gx0 0)), (2, .i x2), (7, .slice (Gp Gx7) x7.length cx7), (8, (pt gx8 0)), (37, .i (wr .i64 (x4v.Max - x4v.Min))), (38, .i 0)] (W.z3a gx0 ue9 ue8.length ueb uec _ _ h _ _ hx Gx7 x7.length cx7 uen gx8 ueo x8v.L.length ueq p1 fx7 rfl uet ueu rfl fs8 rfl)

def L.z3c (gx0 : Nat) (ue9 : Option Nat) (uea : Nat) (ueb : Nat) (uec : List Value) : Int × T27 × Int × Int × (List T48) → (List T99) → Prop := fun ⟨x2, x8v, x37, x38, ue8⟩ r => ∀ S1 w1, Ext S0 w0 S1 w1 → ∀ gx8 ueo uep ueq (_ : Hp nz wz S1 w1 ((some gx8, .row 28 (.i x8v.Kind :: U4 x8v.Set [.slice ueo uep ueq, .i x8v.Min, .i x8v.Max]) 8 0) :: (some gx0, .row 78 [.slice (Gp ue9) uea ueb] 1 0) :: (ue9, .row 49 uec (ueb * kT48.size) 0) :: Lr)) (_ : x8v.Set.length = 4) (_ : Rd kT27 S1 w1 ueo ueq x8v.L) (_ : x8v.L.length = uep) (_ : Els kT48 S1 w1 uec ue8) (_ : ue8.length = uea) (junk : Nat → Value),
 Goes Tryd.prog (base 55) Jpc ⟨lfr 49 [(0, (pt gx0 0)), (2, .i x2), (7, .slice none 0 0), (8, (pt gx8 0)), (37, .i x37), (38, .i x38)] junk, []⟩ w1 (Done Tryd.prog 55 (Rets (Post.z39 nz wz S0 w0 Lr gx0 ue9 uea ueb uec ue8 r)))

theorem W.z3c {nz wz S0 w0 Lr} [Gw nz wz] (gx0 : Nat) (ue9 : Option Nat) (uea : Nat) (ueb : Nat) (uec : List Value) : ∀ a r, M.prog_writer_times_l2 a = some r → L.z3c nz wz S0 w0 Lr gx0 ue9 uea ueb uec a r := by
 intro ⟨x2, x8v, x37, x38, ue8⟩ r h S1 w1 hx gx8 ueo uep ueq p1 uet ueu uev fs3 ls3 junk
 rw [M.prog_writer_times_l2] at h
 try dsimp only at h
 subst uev
 subst ls3
 refine Goes.rn 5 [(39, .bool (decide (x38 < x37)))] Jpe ?_
 refine ite_some h (fun h83 h => ?_) (fun h83 h => ?_)
 ·
  rw [decide_eq_true h83]
  refine Goes.rn 7 [(40, .slice none 0 0), (41, (pt gx0 0))] Jph ?_
  refine Goes.ldN 28 (.tmp 8) 42 28 ⟨gx8, 0, none⟩ (.i x8v.Kind :: U4 x8v.Set [.slice ueo x8v.L.length ueq, .i x8v.Min, .i x8v.Max]) (p1.pa 0 0) ?_
  refine Goes.rn 1 [(43, .i x2)] Jpi ?_
  have p1 := (p1.fr 2).fr 2
  refine bind_some' h fun y84 e85 h => ?_
  refine Goes.cal (kc 73 [41, 42, 43] #[76, 28, 3]) 44 100 73 _ (W.z38 ue8 x8v x2 y84 e85 gx0 ue9 ue8.length ueb uec ueo x8v.L.length ueq p1 fs3 rfl uet ueu rfl) ?_
  rintro _ w17 ⟨S17, ufl, rfl, z17, p17, ufm⟩
  have f87 : Els (kT99 gx0) S17 w17 ([.i y84.n, ufl] : List Value) [y84] := by exact (Els.cons (K := (kT99 gx0)) (vs := [.i y84.n, ufl]) (x := y84) ⟨[.i y84.n], [ufl], rfl, rfl, ufm⟩ Els.nil)
  refine Op_.made (.buildSlice 95 1 #[(0, (.tmp 44))]) 45 95 (fun b => .slice (Gp (some b)) 1 1) 100 ([.i y84.n, ufl] : List Value) p17 Goes.v (by kernel_rfl) ?_
  intro b86 w18 z18 p18
  have p18 : Hp nz wz S17 w18 (((some b86), .row 100 ([.i y84.n, ufl] : List Value) (1 * (kT99 gx0).size) 0) :: (some gx0, .row 78 [.slice (Gp ue9) ue8.length ueb] 1 0) :: (ue9, .row 49 uec (ueb * kT48.size) 0) :: (some gx8, .row 28 (.i x8v.Kind :: U4 x8v.Set [.slice ueo x8v.L.length ueq, .i x8v.Min, .i x8v.Max]) 8 0) :: Lr) := p18
  have p18 : Hp nz wz S17 w18 ((none, .row 100 [] (0 * (kT99 gx0).size) 0) :: ((some b86), .row 100 ([.i y84.n, ufl] : List Value) (1 * (kT99 gx0).size) 0) :: (some gx0, .row 78 [.slice (Gp ue9) ue8.length ueb] 1 0) :: (ue9, .row 49 uec (ueb * kT48.size) 0) :: (some gx8, .row 28 (.i x8v.Kind :: U4 x8v.Set [.slice ueo x8v.L.length ueq, .i x8v.Min, .i x8v.Max]) 8 0) :: Lr) := p18.nilRow' 100
  refine guard_some' h fun g93 h => ?_
  refine Op_.ap_n (K := (kT99 gx0)) 95 (.tmp 40) (.tmp 45) 46 95 100 0 (.agg #[.i 0, .nilFunc]) 16 0 0 1 ([] : List T99) [y84] [y84] (Gp (some b86)) 1 rfl rfl (List.nil_append _) p18 rfl (Els.nil (K := (kT99 gx0))) Goes.v (by kernel_rfl) (by kernel_rfl) (by kernel_rfl) (by kernel_rfl) rfl (show (0 : Nat) < 2 by decide) (f87.ext z18) (src_own p18 (q := 1) rfl) (by have := g93; omega) (by have := g93; omega) ?_
  intro w19 G94 c95 ufn z19 p19 f97
  refine Goes.rn 8 [(7, .slice (Gp G94) ([y84].length) c95), (47, .i (wr .i64 (x38 + 1))), (38, .i (wr .i64 (x38 + 1)))] Jpc ?_
  have p19 := p19.dp 1
  have p19 := (((p19.fr 2).fr 2).fr 3).fr 3
  exact Goes.jp 49 [(0, (pt gx0 0)), (2, .i x2), (7, .slice (Gp G94) ([y84].length) c95), (8, (pt gx8 0)), (37, .i x37), (38, .i (wr .i64 (x38 + 1)))] (W.z3a gx0 ue9 ue8.length ueb uec _ _ h _ _ (((hx.trans z17).trans z18).trans z19) G94 ([y84].length) c95 ufn gx8 ueo x8v.L.length ueq p19 f97 rfl uet (ueu.ext ((z17.trans z18).trans z19)) rfl (fs3.ext ((z17.trans z18).trans z19)) rfl)
 ·
  rw [decide_eq_false h83]
  refine Goes.rn 7 [(48, .slice none 0 0), (6, .slice none 0 0)] Jpj ?_
  have p1 : Hp nz wz S1 w1 ((none, .row 100 [] (0 * (kT99 gx0).size) 0) :: (some gx8, .row 28 (.i x8v.Kind :: U4 x8v.Set [.slice ueo x8v.L.length ueq, .i x8v.Min, .i x8v.Max]) 8 0) :: (some gx0, .row 78 [.slice (Gp ue9) ue8.length ueb] 1 0) :: (ue9, .row 49 uec (ueb * kT48.size) 0) :: Lr) := p1.nilRow' 100
  obtain rfl := Option.some.inj h
  have p1 := p1.dp 1
  exact Goes.rt Tryd.f55 (.slice (Gp none) 0 0) ⟨S1, none, 0, 0, [], rfl, hx, p1, (Els.nil (K := (kT99 gx0))), rfl⟩

def L.z3d (gx0 : Nat) (ue9 : Option Nat) (uea : Nat) (ueb : Nat) (uec : List Value) : Int × T27 × T27 × Int × Int × (List T48) → (List T99) → Prop := fun ⟨x2, x4v, x8v, x14, x15, ue8⟩ r => ∀ S1 w1, Ext S0 w0 S1 w1 → ∀ gx4 uf7 uf8 uf9 gx8 ueo uep ueq (_ : Hp nz wz S1 w1 ((some gx4, .row 28 (.i x4v.Kind :: U4 x4v.Set [.slice uf7 uf8 uf9, .i x4v.Min, .i x4v.Max]) 8 0) :: (some gx8, .row 28 (.i x8v.Kind :: U4 x8v.Set [.slice ueo uep ueq, .i x8v.Min, .i x8v.Max]) 8 0) :: (some gx0, .row 78 [.slice (Gp ue9) uea ueb] 1 0) :: (ue9, .row 49 uec (ueb * kT48.size) 0) :: Lr)) (_ : x4v.Set.length = 4) (_ : Rd kT27 S1 w1 uf7 uf9 x4v.L) (_ : x4v.L.length = uf8) (_ : x8v.Set.length = 4) (_ : Rd kT27 S1 w1 ueo ueq x8v.L) (_ : x8v.L.length = uep) (_ : Els kT48 S1 w1 uec ue8) (_ : ue8.length = uea) (junk : Nat → Value),
 Goes Tryd.prog (base 55) Jpn ⟨lfr 49 [(0, (pt gx0 0)), (2, .i x2), (4, (pt gx4 0)), (7, .slice none 0 0), (8, (pt gx8 0)), (14, .i x14), (15, .i x15)] junk, []⟩ w1 (Done Tryd.prog 55 (Rets (Post.z39 nz wz S0 w0 Lr gx0 ue9 uea ueb uec ue8 r)))

theorem W.z3d {nz wz S0 w0 Lr} [Gw nz wz] (gx0 : Nat) (ue9 : Option Nat) (uea : Nat) (ueb : Nat) (uec : List Value) : ∀ a r, M.prog_writer_times_l0 a = some r → L.z3d nz wz S0 w0 Lr gx0 ue9 uea ueb uec a r := by
 intro ⟨x2, x4v, x8v, x14, x15, ue8⟩ r h S1 w1 hx gx4 uf7 uf8 uf9 gx8 ueo uep ueq p1 ufc ufd ufe uet ueu uev fs6 ls6 junk
 rw [M.prog_writer_times_l0] at h
 try dsimp only at h
 subst ufe
 subst uev
 subst ls6
 refine Goes.rn 5 [(16, .bool (decide (x15 < x14)))] Jpp ?_
 refine ite_some h (fun h19 h => ?_) (fun h19 h => ?_)
 ·
  rw [decide_eq_true h19]
  refine Goes.rn 7 [(17, .slice none 0 0), (18, (pt gx0 0))] Jps ?_
  refine Goes.ldN 28 (.tmp 8) 19 28 ⟨gx8, 0, none⟩ (.i x8v.Kind :: U4 x8v.Set [.slice ueo x8v.L.length ueq, .i x8v.Min, .i x8v.Max]) (p1.pa 1 0) ?_
  have p1 := (p1.fr 3).fr 3
  refine bind_some' h fun y20 e21 h => ?_
  refine Goes.cal (kc 54 [18, 19] #[76, 28]) 20 100 54 _ (W.z36 ue8 x8v y20 e21 gx0 ue9 ue8.length ueb uec ueo x8v.L.length ueq p1 fs6 rfl uet ueu rfl) ?_
  rintro _ w5 ⟨S5, ufo, rfl, z5, p5, ufp⟩
  have f23 : Els (kT99 gx0) S5 w5 ([.i y20.n, ufo] : List Value) [y20] := by exact (Els.cons (K := (kT99 gx0)) (vs := [.i y20.n, ufo]) (x := y20) ⟨[.i y20.n], [ufo], rfl, rfl, ufp⟩ Els.nil)
  refine Op_.made (.buildSlice 95 1 #[(0, (.tmp 20))]) 21 95 (fun b => .slice (Gp (some b)) 1 1) 100 ([.i y20.n, ufo] : List Value) p5 Goes.v (by kernel_rfl) ?_
  intro b22 w6 z6 p6
  have p6 : Hp nz wz S5 w6 (((some b22), .row 100 ([.i y20.n, ufo] : List Value) (1 * (kT99 gx0).size) 0) :: (some gx0, .row 78 [.slice (Gp ue9) ue8.length ueb] 1 0) :: (ue9, .row 49 uec (ueb * kT48.size) 0) :: (some gx4, .row 28 (.i x4v.Kind :: U4 x4v.Set [.slice uf7 x4v.L.length uf9, .i x4v.Min, .i x4v.Max]) 8 0) :: (some gx8, .row 28 (.i x8v.Kind :: U4 x8v.Set [.slice ueo x8v.L.length ueq, .i x8v.Min, .i x8v.Max]) 8 0) :: Lr) := p6
  have p6 : Hp nz wz S5 w6 ((none, .row 100 [] (0 * (kT99 gx0).size) 0) :: ((some b22), .row 100 ([.i y20.n, ufo] : List Value) (1 * (kT99 gx0).size) 0) :: (some gx0, .row 78 [.slice (Gp ue9) ue8.length ueb] 1 0) :: (ue9, .row 49 uec (ueb * kT48.size) 0) :: (some gx4, .row 28 (.i x4v.Kind :: U4 x4v.Set [.slice uf7 x4v.L.length uf9, .i x4v.Min, .i x4v.Max]) 8 0) :: (some gx8, .row 28 (.i x8v.Kind :: U4 x8v.Set [.slice ueo x8v.L.length ueq, .i x8v.Min, .i x8v.Max]) 8 0) :: Lr) := p6.nilRow' 100
  refine guard_some' h fun g29 h => ?_
  refine Op_.ap_n (K := (kT99 gx0)) 95 (.tmp 17) (.tmp 21) 22 95 100 0 (.agg #[.i 0, .nilFunc]) 16 0 0 1 ([] : List T99) [y20] [y20] (Gp (some b22)) 1 rfl rfl (List.nil_append _) p6 rfl (Els.nil (K := (kT99 gx0))) Goes.v (by kernel_rfl) (by kernel_rfl) (by kernel_rfl) (by kernel_rfl) rfl (show (0 : Nat) < 2 by decide) (f23.ext z6) (src_own p6 (q := 1) rfl) (by have := g29; omega) (by have := g29; omega) ?_
  intro w7 G30 c31 ufq z7 p7 f33
  refine Goes.rn 8 [(7, .slice (Gp G30) ([y20].length) c31), (23, .i (wr .i64 (x15 + 1))), (15, .i (wr .i64 (x15 + 1)))] Jpn ?_
  have p7 := p7.dp 1
  have p7 := ((((p7.fr 2).fr 2).fr 4).fr 3).fr 4
  exact Goes.jp 49 [(0, (pt gx0 0)), (2, .i x2), (4, (pt gx4 0)), (7, .slice (Gp G30) ([y20].length) c31), (8, (pt gx8 0)), (14, .i x14), (15, .i (wr .i64 (x15 + 1)))] (W.z3b gx0 ue9 ue8.length ueb uec _ _ h _ _ (((hx.trans z5).trans z6).trans z7) gx4 uf7 x4v.L.length uf9 G30 ([y20].length) c31 ufq gx8 ueo x8v.L.length ueq p7 ufc (ufd.ext ((z5.trans z6).trans z7)) rfl f33 rfl uet (ueu.ext ((z5.trans z6).trans z7)) rfl (fs6.ext ((z5.trans z6).trans z7)) rfl)
 ·
  rw [decide_eq_false h19]
  refine Goes.rn 6 [(24, (pt gx4 7))] Jpv ?_
  refine Goes.ld 3 (.tmp 24) 25 3 ⟨gx4, 7, none⟩ (.i x4v.Max) (p1.c 0 7) ?_
  refine Goes.rn 2 [(26, .bool (decide (x4v.Max < 0)))] Jpu ?_
  refine ite_some h (fun h37 h => ?_) (fun h37 h => ?_)
  ·
   rw [decide_eq_true h37]
   refine Goes.rn 5 [(27, .slice none 0 0), (28, (pt gx0 0))] Jpx ?_
   refine Goes.ldN 28 (.tmp 8) 29 28 ⟨gx8, 0, none⟩ (.i x8v.Kind :: U4 x8v.Set [.slice ueo x8v.L.length ueq, .i x8v.Min, .i x8v.Max]) (p1.pa 1 0) ?_
   have p1 := (p1.fr 3).fr 3
   refine bind_some' h fun y38 e39 h => ?_
   refine Goes.cal (kc 72 [28, 29] #[76, 28]) 30 100 72 _ (W.z37 ue8 x8v y38 e39 gx0 ue9 ue8.length ueb uec ueo x8v.L.length ueq p1 fs6 rfl uet ueu rfl) ?_
   rintro _ w8 ⟨S8, ufr, rfl, z8, p8, ufs⟩
   have p8 := (p8.dp 2).dp 2
   have f41 : Els (kT99 gx0) S8 w8 ([.i y38.n, ufr] : List Value) [y38] := by exact (Els.cons (K := (kT99 gx0)) (vs := [.i y38.n, ufr]) (x := y38) ⟨[.i y38.n], [ufr], rfl, rfl, ufs⟩ Els.nil)
   refine Op_.made (.buildSlice 95 1 #[(0, (.tmp 30))]) 31 95 (fun b => .slice (Gp (some b)) 1 1) 100 ([.i y38.n, ufr] : List Value) p8 Goes.v (by kernel_rfl) ?_
   intro b40 w9 z9 p9
   have p9 : Hp nz wz S8 w9 (((some b40), .row 100 ([.i y38.n, ufr] : List Value) (1 * (kT99 gx0).size) 0) :: (some gx0, .row 78 [.slice (Gp ue9) ue8.length ueb] 1 0) :: (ue9, .row 49 uec (ueb * kT48.size) 0) :: Lr) := p9
   have p9 : Hp nz wz S8 w9 ((none, .row 100 [] (0 * (kT99 gx0).size) 0) :: ((some b40), .row 100 ([.i y38.n, ufr] : List Value) (1 * (kT99 gx0).size) 0) :: (some gx0, .row 78 [.slice (Gp ue9) ue8.length ueb] 1 0) :: (ue9, .row 49 uec (ueb * kT48.size) 0) :: Lr) := p9.nilRow' 100
   refine guard_some' h fun g47 h => ?_
   refine Op_.ap_n (K := (kT99 gx0)) 95 (.tmp 27) (.tmp 31) 32 95 100 0 (.agg #[.i 0, .nilFunc]) 16 0 0 1 ([] : List T99) [y38] [y38] (Gp (some b40)) 1 rfl rfl (List.nil_append _) p9 rfl (Els.nil (K := (kT99 gx0))) Goes.v (by kernel_rfl) (by kernel_rfl) (by kernel_rfl) (by kernel_rfl) rfl (show (0 : Nat) < 2 by decide) (f41.ext z9) (src_own p9 (q := 1) rfl) (by have := g47; omega) (by have := g47; omega) ?_
   intro w10 G48 c49 uft z10 p10 f51
   refine Goes.rn 2 [(6, .slice (Gp G48) ([y38].length) c49)] Jpw ?_
   obtain rfl := Option.some.inj h
   have p10 := p10.dp 1
   exact Goes.rt Tryd.f55 (.slice (Gp G48) ([y38].length) c49) ⟨S8, G48, [y38].length, c49, uft, rfl, (((hx.trans z8).trans z9).trans z10), p10, f51, rfl⟩
  ·
   rw [decide_eq_false h37]
   refine Goes.rn 6 [(33, (pt gx4 7))] Jpz ?_
   refine Goes.ld 3 (.tmp 33) 34 3 ⟨gx4, 7, none⟩ (.i x4v.Max) (p1.c 0 7) ?_
   refine Goes.rn 1 [(35, (pt gx4 6))] Jq0 ?_
   refine Goes.ld 3 (.tmp 35) 36 3 ⟨gx4, 6, none⟩ (.i x4v.Min) (p1.c 0 6) ?_
   refine Goes.rn 5 [(37, .i (wr .i64 (x4v.Max - x4v.Min))), (38, .i 0)] Jpc ?_
   have p1 := p1.dp 0
   exact Goes.jp 49 [(0, (pt gx0 0)), (2, .i x2), (7, .slice none 0 0), (8, (pt gx8 0)), (37, .i (wr .i64 (x4v.Max - x4v.Min))), (38, .i 0)] (W.z3c gx0 ue9 ue8.length ueb uec _ _ h _ _ hx gx8 ueo x8v.L.length ueq p1 uet ueu rfl fs6 rfl)

def Qke := sub [1] B55
def Jq1 : List Item := [.code Qke]
def Qkf := sub [0] B55
def Jq2 : List Item := .inRegion (opsOf Qkf) [0, 1] :: Jq1
def Qkg := sub [1, 1, 1] B55
def Jq3 : List Item := [.code Qkg]
def Qkh := sub [1, 1, 0] B55
def Jq4 : List Item := .inRegion (opsOf Qkh) [1, 2, 3, 4, 5] :: Jq3
def Qki := sub [1, 1, 1, 0, 1] B55
def Jq5 : List Item := .code Qki :: Jpk
def Qkj := sub [1, 1, 1, 0, 0] B55
def Jq6 : List Item := .inRegion (opsOf Qkj) [1, 2] :: Jq5

theorem W.z39 (ue8 : List T48) (x1 : T27) (x2 : Int) (r : List T99) (h : M.prog_writer_times ue8 x1 x2 = some r) {nz wz S0 w0 Lr} [Gw nz wz] (gx0 ue9 uea ueb uec uei uej uek) (p0 : Hp nz wz S0 w0 ((some gx0, .row 78 [.slice (Gp ue9) uea ueb] 1 0) :: (ue9, .row 49 uec (ueb * kT48.size) 0) :: Lr)) (ued : Els kT48 S0 w0 uec ue8) (uee : ue8.length = uea) (uef : x1.Set.length = 4) (uel : Rd kT27 S0 w0 uei uek x1.L) (uem : x1.L.length = uej) :
  Calls Tryd.prog 55 #[(pt gx0 0), (ag (.i x1.Kind :: U4 x1.Set [.slice uei uej uek, .i x1.Min, .i x1.Max])), .i x2] w0 (Rets (Post.z39 nz wz S0 w0 Lr gx0 ue9 uea ueb uec ue8 r)) := by
 subst uee
 subst uem
 refine calls_of_goes (fn := Tryd.f55) (c := B55) (by kernel_rfl) (by kernel_rfl) 46 (by kernel_rfl) ?_
 refine Goes.jp 49 [(0, (pt gx0 0)), (1, (ag (.i x1.Kind :: U4 x1.Set [.slice uei x1.L.length uek, .i x1.Min, .i x1.Max]))), (2, .i x2)] (fun junk => ?_)
 delta M.prog_writer_times at h
 refine Goes.rn 2 [] Jq2 ?_
 refine Op_.box 28 (.tmp 1) 4 0 (ag (.i x1.Kind :: U4 x1.Set [.slice uei x1.L.length uek, .i x1.Min, .i x1.Max])) (.i x1.Kind :: U4 x1.Set [.slice uei x1.L.length uek, .i x1.Min, .i x1.Max]) p0 Goes.v (by kernel_rfl) (by kernel_rfl) ?_
 intro b3 w2 z2 p2
 refine Goes.rn 9 [(6, .slice none 0 0), (7, .slice none 0 0), (9, (pt b3 5))] Jq4 ?_
 refine Goes.ld 26 (.tmp 9) 10 26 ⟨b3, 5, none⟩ (.slice uei x1.L.length uek) (p2.c 0 5) ?_
 refine guard_some' h fun g5 h => ?_
 refine Op_.ixR_n 26 (.tmp 10) (.const (.int .i64 0)) 11 0 28 .i64 0 (gi x1.L 0) rfl rfl (uel.ext z2) Goes.v (by kernel_rfl) (by kernel_rfl) (by kernel_rfl) (by kernel_rfl) (by decide : (0 : Int) ≤ 0) g5 ?_
 intro a6 _ f7 q8
 have q9 := q8
 obtain ⟨_, _, rfl, rfl, ⟨_, _, rfl, ⟨l10, f11⟩, ⟨_, _, rfl, ⟨A12, c13, rfl, f14⟩, ⟨_, _, rfl, rfl, rfl⟩⟩⟩⟩ := kT27_open q9
 obtain rfl := els_lit4' f11 l10
 refine Goes.ldN 28 (.tmp 11) 12 28 a6 ([.i ((gi x1.L 0).Kind)] ++ ((U4 ((gi x1.L 0).Set) []) ++ ([.slice A12 (((gi x1.L 0).L).length) c13] ++ ([.i ((gi x1.L 0).Min)] ++ [.i ((gi x1.L 0).Max)])))) (f7.cell) ?_
 refine Op_.alloc 28 8 0 (.agg #[.i 0, .u 0, .u 0, .u 0, .u 0, .slice none 0 0, .i 0, .i 0]) [.i 0, .u 0, .u 0, .u 0, .u 0, .slice none 0 0, .i 0, .i 0] p2 Goes.v (by kernel_rfl) (by kernel_rfl) ?_
 intro b15 w3 z3 p3
 refine Op_.st 28 (.tmp 8) (.tmp 12) 0 0 b15 0 (ag (.i ((gi x1.L 0).Kind) :: U4 ((gi x1.L 0).Set) [.slice A12 (((gi x1.L 0).L).length) c13, .i ((gi x1.L 0).Min), .i ((gi x1.L 0).Max)])) (.i ((gi x1.L 0).Kind) :: U4 ((gi x1.L 0).Set) [.slice A12 (((gi x1.L 0).L).length) c13, .i ((gi x1.L 0).Min), .i ((gi x1.L 0).Max)]) p3 rfl Goes.s (by kernel_rfl) (by kernel_rfl) (by kernel_rfl) (by kernel_rfl) (Nat.zero_le _) (by simp only [List.length_cons, List.length_nil]; omega) (by simp [Value.oneCell']) ?_
 intro w4 z4 p4
 have p4 : Hp nz wz S0 w4 ((some b15, .row 28 (.i ((gi x1.L 0).Kind) :: U4 ((gi x1.L 0).Set) [.slice A12 (((gi x1.L 0).L).length) c13, .i ((gi x1.L 0).Min), .i ((gi x1.L 0).Max)]) 8 0) :: (some b3, .row 28 (.i x1.Kind :: U4 x1.Set [.slice uei x1.L.length uek, .i x1.Min, .i x1.Max]) 8 0) :: (some gx0, .row 78 [.slice (Gp ue9) ue8.length ueb] 1 0) :: (ue9, .row 49 uec (ueb * kT48.size) 0) :: Lr) := p4
 refine Goes.rn 5 [(13, (pt b3 6))] Jq6 ?_
 refine Goes.ld 3 (.tmp 13) 14 3 ⟨b3, 6, none⟩ (.i x1.Min) (p4.c 1 6) ?_
 refine Goes.rn 4 [(15, .i 0)] Jpn ?_
 have p4 := (((p4.fr 3).fr 3).fr 2).fr 3
 exact Goes.jp 49 [(0, (pt gx0 0)), (2, .i x2), (4, (pt b3 0)), (7, .slice none 0 0), (8, (pt b15 0)), (14, .i x1.Min), (15, .i 0)] (W.z3d gx0 ue9 ue8.length ueb uec _ _ h _ _ ((((Ext.refl S0 w0).trans z2).trans z3).trans z4) b3 uei x1.L.length uek b15 A12 (((gi x1.L 0).L).length) c13 p4 uef (uel.ext ((z2.trans z3).trans z4)) rfl l10 (f14.ext (z3.trans z4)) rfl (ued.ext ((z2.trans z3).trans z4)) rfl)

def Qkk := sub [1] B53
def Jq7 : List Item := [.code Qkk]
def Jq8 : List Item := .inBlock 0 :: Jq7
def Qkl := sub [0, 1, 0, 0] B53
def Jq9 : List Item := .inLoop Qkl :: Jq8
def Jqa : List Item := .code Qkl :: Jq9
def Qkm := sub [0, 1, 0, 0, 1, 1, 1] B53
def Jqb : List Item := .code Qkm :: Jq9
def Jqc : List Item := .inBlock 1 :: Jqb
def Qkn := sub [0, 1, 0, 0, 1, 1, 0, 0, 1, 1] B53
def Jqd : List Item := .code Qkn :: Jqc
def Qko := sub [1, 1, 1] B35
def Jqe : List Item := [.code Qko]
def Jqf : List Item := .inBlock 0 :: Jqe
def Jqg : List Item := .inBlock 1 :: Jqf
def Qkp := sub [1, 1, 0, 1, 0, 1, 1, 1, 1, 1, 0, 1, 0, 0] B35
def Jqh : List Item := .inLoop Qkp :: Jqg
def Jqi : List Item := .code Qkp :: Jqh
def Qkq := sub [1, 0, 0] B56
def Jqj : List Item := .inLoop Qkq :: J34
def Jqk : List Item := .code Qkq :: Jqj
def Qkr := sub [1, 0, 0, 1, 1, 1] B56
def Jql : List Item := .code Qkr :: Jqj
def Jqm : List Item := .inBlock 1 :: Jql
def Qks := sub [1, 0, 0, 1, 1, 0, 0, 1, 1, 1] B56
def Jqn : List Item := .code Qks :: Jqm
def Qkt := sub [1] B35
def Jqo : List Item := [.code Qkt]
def Qku := sub [0] B35
def Jqp : List Item := .inRegion (opsOf Qku) [0] :: Jqo
def Qkv := sub [1, 1, 0, 1] B35
def Jqq : List Item := .code Qkv :: Jqe
def Qkw := sub [1, 1, 0, 0] B35
def Jqr : List Item := .inRegion (opsOf Qkw) [1] :: Jqq
def Qkx := sub [1, 1, 0, 1, 0, 1] B35
def Jqs : List Item := .code Qkx :: Jqf
def Qky := sub [1, 1, 0, 1, 0, 1, 0, 1] B35
def Jqt : List Item := .code Qky :: Jqf
def Qkz := sub [1, 1, 0, 1, 0, 1, 0, 0] B35
def Jqu : List Item := .inRegion (opsOf Qkz) [2, 3, 4, 5] :: Jqt
def Jqv : List Item := .inRegion (opsOf Qkz) [5] :: Jqt
def Ql0 := sub [1, 1, 0, 1, 0, 1, 1, 1] B35
def Jqw : List Item := .code Ql0 :: Jqf
def Ql1 := sub [1, 1, 0, 1, 0, 1, 1, 1, 0, 1] B35
def Jqx : List Item := .code Ql1 :: Jqf
def Ql2 := sub [1, 1, 0, 1, 0, 1, 1, 1, 0, 0] B35
def Jqy : List Item := .inRegion (opsOf Ql2) [2, 3, 4] :: Jqx
def Jqz : List Item := .inRegion (opsOf Ql2) [4] :: Jqx
def Ql3 := sub [1, 1, 0, 1, 0, 1, 1, 1, 1, 1] B35
def Jr0 : List Item := .code Ql3 :: Jqf
def Ql4 := sub [1, 1, 0, 1, 0, 1, 1, 1, 1, 1, 0, 1] B35
def Jr1 : List Item := .code Ql4 :: Jqf
def Ql5 := sub [1, 1, 0, 1, 0, 1, 1, 1, 1, 1, 0, 0] B35
def Jr2 : List Item := .inRegion (opsOf Ql5) [1, 2, 3] :: Jr1
def Ql6 := sub [1, 1, 0, 1, 0, 1, 1, 1, 1, 1, 1, 1] B35
def Jr3 : List Item := .code Ql6 :: Jqf
def Ql7 := sub [1, 1, 0, 1, 0, 1, 1, 1, 1, 1, 1, 1, 0] B35
def Jr4 : List Item := .inRegion (opsOf Ql7) [1, 2, 3, 4] :: Jqf
def Jr5 : List Item := .inRegion (opsOf Ql7) [3, 4] :: Jqf
def Ql8 := sub [1, 1, 1, 1] B35
def Jr6 : List Item := [.code Ql8]
def Ql9 := sub [1, 1, 1, 0, 1, 0] B35
def Jr7 : List Item := .inRegion (opsOf Ql9) [3] :: Jr6
def Jr8 : List Item := [.inRegion (opsOf Ql8) [3]]
def Qla := sub [1, 0, 0, 1, 1] B56
def Jr9 : List Item := .code Qla :: Jqj
def Qlb := sub [1, 0, 0, 1, 0] B56
def Jra : List Item := .code Qlb :: Jr9
def Qlc := sub [1, 0, 0, 1, 1, 0, 0, 1] B56
def Jrb : List Item := .code Qlc :: Jqm
def Qld := sub [1, 0, 0, 1, 1, 0, 0, 0] B56
def Jrc : List Item := .inRegion (opsOf Qld) [1, 2, 3, 4, 5] :: Jrb
def Jrd : List Item := .inRegion (opsOf Qld) [5] :: Jrb
def Qle := sub [1, 0, 0, 1, 1, 0, 0, 1, 1, 0, 1] B56
def Jre : List Item := .code Qle :: Jqn
def Qlf := sub [1, 0, 0, 1, 1, 0, 0, 1, 1, 0, 0] B56
def Jrf : List Item := .inRegion (opsOf Qlf) [] :: Jre
def Qlg := sub [1, 0, 0, 1, 1, 0, 0, 1, 1, 0, 1, 0] B56
def Jrg : List Item := .code Qlg :: Jqn
def Jrh : List Item := .inRegion (opsOf Qks) [1, 2, 3] :: Jqm
def Jri : List Item := .inRegion (opsOf Qks) [3] :: Jqm
def Qlh := sub [1] B86
def Jrj : List Item := [.code Qlh]
def Qli := sub [0] B86
def Jrk : List Item := .code Qli :: Jrj
def Jrl : List Item := [.inRegion (opsOf Qlh) [0, 1, 2, 3]]
def Jrm : List Item := [.inRegion (opsOf Qlh) [3]]
def Qlj := sub [1] B85
def Jrn : List Item := [.code Qlj]
def Qlk := sub [0] B85
def Jro : List Item := .code Qlk :: Jrn
def Jrp : List Item := [.inRegion (opsOf Qlj) [0, 1, 2, 3]]
def Jrq : List Item := [.inRegion (opsOf Qlj) [3]]
def Qll := sub [] B71
def Jrr : List Item := [.inRegion (opsOf Qll) [0, 1, 2, 3]]
def Jrs : List Item := [.inRegion (opsOf Qll) [3]]
def Qlm := sub [1, 1, 1, 0, 1] B35
def Jrt : List Item := .code Qlm :: Jr6
def Qln := sub [1, 1, 0, 1, 0, 1, 1, 1, 1, 1, 0, 1, 0, 0, 1, 1] B35
def Jru : List Item := .code Qln :: Jqh
def Qlo := sub [1, 1, 0, 1, 0, 1, 1, 1, 1, 1, 0, 1, 0, 0, 1, 0] B35
def Jrv : List Item := .code Qlo :: Jru
def Qlp := sub [1, 1, 0, 1, 0, 1, 1, 1, 1, 1, 0, 1, 0, 0, 1, 1, 1] B35
def Jrw : List Item := .code Qlp :: Jqh
def Jrx : List Item := .inBlock 2 :: Jrw
def Qlq := sub [1, 1, 0, 1, 0, 1, 1, 1, 1, 1, 0, 1, 0, 0, 1, 1, 0, 0, 1] B35
def Jry : List Item := .code Qlq :: Jrx
def Qlr := sub [1, 1, 0, 1, 0, 1, 1, 1, 1, 1, 0, 1, 0, 0, 1, 1, 0, 0, 0] B35
def Jrz : List Item := .inRegion (opsOf Qlr) [0, 1, 2, 3] :: Jry
def Js0 : List Item := .inRegion (opsOf Qlq) [2, 3, 4, 5, 6] :: Jrx
def Qls := sub [0, 1, 0, 0, 1, 1] B53
def Js1 : List Item := .code Qls :: Jq9
def Qlt := sub [0, 1, 0, 0, 1, 0] B53
def Js2 : List Item := .code Qlt :: Js1
def Qlu := sub [0, 1, 0, 0, 1, 1, 0, 0, 1] B53
def Js3 : List Item := .code Qlu :: Jqc
def Qlv := sub [0, 1, 0, 0, 1, 1, 0, 0, 0] B53
def Js4 : List Item := .inRegion (opsOf Qlv) [1, 2, 3, 4, 5] :: Js3
def Js5 : List Item := .inRegion (opsOf Qlv) [5] :: Js3
def Qlw := sub [0, 1, 0, 0, 1, 1, 0, 0, 1, 0, 1] B53
def Js6 : List Item := .code Qlw :: Jqd
def Qlx := sub [0, 1, 0, 0, 1, 1, 0, 0, 1, 0, 1, 0, 1] B53
def Js7 : List Item := .code Qlx :: Jqd
def Qly := sub [0, 1, 0, 0, 1, 1, 0, 0, 1, 0, 1, 0, 0] B53
def Js8 : List Item := .inRegion (opsOf Qly) [3, 4, 5, 6] :: Js7
def Js9 : List Item := .inRegion (opsOf Qlx) [3, 4, 5, 6, 7] :: Jqd
def Jsa : List Item := .inRegion (opsOf Qlx) [7] :: Jqd
def Qlz := sub [1, 1] B53
def Jsb : List Item := [.code Qlz]
def Qm0 := sub [1, 1, 0] B53
def Jsc : List Item := [.inRegion (opsOf Qm0) [3]]
def Jsd : List Item := .inRegion (opsOf Qkn) [1, 2, 3] :: Jqc
def Jse : List Item := .inRegion (opsOf Qkn) [3] :: Jqc

def Post.z3e (gx0 : Nat) (r : List T48) (v : Value) (w' : World) : Prop :=
 ∃ S' ue4 ue5 ue6 ue7, v = .tuple #[] ∧ Ext S0 w0 S' w' ∧ Hp nz wz S' w' ((some gx0, .row 78 [.slice (Gp ue4) ue5 ue6] 1 0) :: (ue4, .row 49 ue7 (ue6 * kT48.size) 0) :: Lr) ∧ Els kT48 S' w' ue7 r ∧ r.length = ue5

def Post.z3f (gx0 : Nat) (r : List T48) (v : Value) (w' : World) : Prop :=
 ∃ S' ue4 ue5 ue6 ue7, v = .tuple #[] ∧ Ext S0 w0 S' w' ∧ Hp nz wz S' w' ((some gx0, .row 78 [.slice (Gp ue4) ue5 ue6] 1 0) :: (ue4, .row 49 ue7 (ue6 * kT48.size) 0) :: Lr) ∧ Els kT48 S' w' ue7 r ∧ r.length = ue5

def Post.z3g (gx0 : Nat) (r : List T48) (v : Value) (w' : World) : Prop :=
 ∃ S' ue4 ue5 ue6 ue7, v = .tuple #[] ∧ Ext S0 w0 S' w' ∧ Hp nz wz S' w' ((some gx0, .row 78 [.slice (Gp ue4) ue5 ue6] 1 0) :: (ue4, .row 49 ue7 (ue6 * kT48.size) 0) :: Lr) ∧ Els kT48 S' w' ue7 r ∧ r.length = ue5

def Post.z3h (gx1 : Nat) (r : List T48) (v : Value) (w' : World) : Prop :=
 ∃ S' ue4 ue5 ue6 ue7, v = .tuple #[] ∧ Ext S0 w0 S' w' ∧ Hp nz wz S' w' ((some gx1, .row 78 [.slice (Gp ue4) ue5 ue6] 1 0) :: (ue4, .row 49 ue7 (ue6 * kT48.size) 0) :: Lr) ∧ Els kT48 S' w' ue7 r ∧ r.length = ue5

def Post.z3i (gx1 : Nat) (r : List T48) (v : Value) (w' : World) : Prop :=
 ∃ S' ue4 ue5 ue6 ue7, v = .tuple #[] ∧ Ext S0 w0 S' w' ∧ Hp nz wz S' w' ((some gx1, .row 78 [.slice (Gp ue4) ue5 ue6] 1 0) :: (ue4, .row 49 ue7 (ue6 * kT48.size) 0) :: Lr) ∧ Els kT48 S' w' ue7 r ∧ r.length = ue5

def Post.z3j (gx1 : Nat) (r : List T48) (v : Value) (w' : World) : Prop :=
 ∃ S' ue4 ue5 ue6 ue7, v = .tuple #[] ∧ Ext S0 w0 S' w' ∧ Hp nz wz S' w' ((some gx1, .row 78 [.slice (Gp ue4) ue5 ue6] 1 0) :: (ue4, .row 49 ue7 (ue6 * kT48.size) 0) :: Lr) ∧ Els kT48 S' w' ue7 r ∧ r.length = ue5

def LF.z3e : (List T48) × T27 × Int → (List T48) → Prop := fun ⟨ue8, x1, x2⟩ r => ∀ {nz wz S0 w0 Lr} [Gw nz wz] gx0 ue9 uea ueb uec uei uej uek (_ : Hp nz wz S0 w0 ((some gx0, .row 78 [.slice (Gp ue9) uea ueb] 1 0) :: (ue9, .row 49 uec (ueb * kT48.size) 0) :: Lr)) (_ : Els kT48 S0 w0 uec ue8) (_ : ue8.length = uea) (_ : x1.Set.length = 4) (_ : Rd kT27 S0 w0 uei uek x1.L) (_ : x1.L.length = uej),
 Calls Tryd.prog 35 #[(pt gx0 0), (ag (.i x1.Kind :: U4 x1.Set [.slice uei uej uek, .i x1.Min, .i x1.Max])), .i x2] w0 (Rets (Post.z3e nz wz S0 w0 Lr gx0 r))

def LF.z3f : (List T48) × (List T27) × Int → (List T48) → Prop := fun ⟨ue8, x1, x2⟩ r => ∀ {nz wz S0 w0 Lr} [Gw nz wz] gx0 ue9 uea ueb uec Ax1 nx1 cx1 (_ : Hp nz wz S0 w0 ((some gx0, .row 78 [.slice (Gp ue9) uea ueb] 1 0) :: (ue9, .row 49 uec (ueb * kT48.size) 0) :: Lr)) (_ : Els kT48 S0 w0 uec ue8) (_ : ue8.length = uea) (_ : Rd kT27 S0 w0 Ax1 cx1 x1) (_ : x1.length = nx1),
 Calls Tryd.prog 53 #[(pt gx0 0), .slice Ax1 nx1 cx1, .i x2] w0 (Rets (Post.z3f nz wz S0 w0 Lr gx0 r))

def L.z3k (gx0 : Nat) : (List T27) × Int × (List T27) × Int × Int × (List T48) → (List T48) → Prop := fun ⟨x1, x2, x9, x10, x11, ud6⟩ r => ∀ S1 w1, Ext S0 w0 S1 w1 → ∀ Ax1 nx1 cx1 Ax9 nx9 cx9 ue4 ue5 ue6 ue7 (_ : Hp nz wz S1 w1 ((some gx0, .row 78 [.slice (Gp ue4) ue5 ue6] 1 0) :: (ue4, .row 49 ue7 (ue6 * kT48.size) 0) :: Lr)) (_ : Rd kT27 S1 w1 Ax1 cx1 x1) (_ : x1.length = nx1) (_ : Rd kT27 S1 w1 Ax9 cx9 x9) (_ : x9.length = nx9) (_ : Els kT48 S1 w1 ue7 ud6) (_ : ud6.length = ue5) (junk : Nat → Value),
 Goes Tryd.prog (base 53) Jqa ⟨lfr 47 [(0, (pt gx0 0)), (1, .slice Ax1 nx1 cx1), (2, .i x2), (9, .slice Ax9 nx9 cx9), (10, .i x10), (11, .i x11)] junk, []⟩ w1 (Done Tryd.prog 53 (Rets (Post.z3f nz wz S0 w0 Lr gx0 r)))

def LL.z3k : (List T27) × Int × (List T27) × Int × Int × (List T48) → (List T48) → Prop := fun a r => ∀ {nz wz S0 w0 Lr} [Gw nz wz] (gx0 : Nat), L.z3k nz wz S0 w0 Lr gx0 a r

def L.z3l (gx0 : Nat) : (List T27) × Int × T27 × (List T27) × Int × Int × (List T48) → (List T48) → Prop := fun ⟨x1, x2, x7v, x9, x10, x11, ud6⟩ r => ∀ S1 w1, Ext S0 w0 S1 w1 → ∀ Ax1 nx1 cx1 gx7 ufu ufv ufw Ax9 nx9 cx9 ue4 ue5 ue6 ue7 (_ : Hp nz wz S1 w1 ((some gx7, .row 28 (.i x7v.Kind :: U4 x7v.Set [.slice ufu ufv ufw, .i x7v.Min, .i x7v.Max]) 8 0) :: (some gx0, .row 78 [.slice (Gp ue4) ue5 ue6] 1 0) :: (ue4, .row 49 ue7 (ue6 * kT48.size) 0) :: Lr)) (_ : Rd kT27 S1 w1 Ax1 cx1 x1) (_ : x1.length = nx1) (_ : x7v.Set.length = 4) (_ : Rd kT27 S1 w1 ufu ufw x7v.L) (_ : x7v.L.length = ufv) (_ : Rd kT27 S1 w1 Ax9 cx9 x9) (_ : x9.length = nx9) (_ : Els kT48 S1 w1 ue7 ud6) (_ : ud6.length = ue5) (junk : Nat → Value),
 Goes Tryd.prog (base 53) Jqd ⟨lfr 47 [(0, (pt gx0 0)), (1, .slice Ax1 nx1 cx1), (2, .i x2), (7, (pt gx7 0)), (9, .slice Ax9 nx9 cx9), (10, .i x10), (11, .i x11)] junk, []⟩ w1 (Done Tryd.prog 53 (Rets (Post.z3f nz wz S0 w0 Lr gx0 r)))

def LL.z3l : (List T27) × Int × T27 × (List T27) × Int × Int × (List T48) → (List T48) → Prop := fun a r => ∀ {nz wz S0 w0 Lr} [Gw nz wz] (gx0 : Nat), L.z3l nz wz S0 w0 Lr gx0 a r

def L.z3m (gx0 : Nat) : Int × (List T27) × Int × Int × (List T48) → (List T48) → Prop := fun ⟨x2, x29, x30, x31, ud6⟩ r => ∀ S1 w1, Ext S0 w0 S1 w1 → ∀ ufx ufy ufz ue4 ue5 ue6 ue7 (_ : Hp nz wz S1 w1 ((some gx0, .row 78 [.slice (Gp ue4) ue5 ue6] 1 0) :: (ue4, .row 49 ue7 (ue6 * kT48.size) 0) :: Lr)) (_ : Rd kT27 S1 w1 ufx ufz x29) (_ : x29.length = ufy) (_ : Els kT48 S1 w1 ue7 ud6) (_ : ud6.length = ue5) (junk : Nat → Value),
 Goes Tryd.prog (base 35) Jqi ⟨lfr 59 [(0, (pt gx0 0)), (2, .i x2), (6, .slice none 0 0), (29, .slice ufx ufy ufz), (30, .i x30), (31, .i x31)] junk, []⟩ w1 (Done Tryd.prog 35 (Rets (Post.z3e nz wz S0 w0 Lr gx0 r)))

def LL.z3m : Int × (List T27) × Int × Int × (List T48) → (List T48) → Prop := fun a r => ∀ {nz wz S0 w0 Lr} [Gw nz wz] (gx0 : Nat), L.z3m nz wz S0 w0 Lr gx0 a r

def L.z3n (gx0 : Nat) : Int × (List T99) × (List T27) × Int × Int × (List T48) → (List T48) → Prop := fun ⟨x2, x6, x29, x30, x31, ud6⟩ r => ∀ S1 w1, Ext S0 w0 S1 w1 → ∀ Gx6 nx6 cx6 ug0 ufx ufy ufz ue4 ue5 ue6 ue7 (_ : Hp nz wz S1 w1 ((Gx6, .row 100 ug0 (cx6 * (kT99 gx0).size) 0) :: (some gx0, .row 78 [.slice (Gp ue4) ue5 ue6] 1 0) :: (ue4, .row 49 ue7 (ue6 * kT48.size) 0) :: Lr)) (_ : Els (kT99 gx0) S1 w1 ug0 x6) (_ : x6.length = nx6) (_ : Rd kT27 S1 w1 ufx ufz x29) (_ : x29.length = ufy) (_ : Els kT48 S1 w1 ue7 ud6) (_ : ud6.length = ue5) (junk : Nat → Value),
 Goes Tryd.prog (base 35) Jqi ⟨lfr 59 [(0, (pt gx0 0)), (2, .i x2), (6, .slice (Gp Gx6) nx6 cx6), (29, .slice ufx ufy ufz), (30, .i x30), (31, .i x31)] junk, []⟩ w1 (Done Tryd.prog 35 (Rets (Post.z3e nz wz S0 w0 Lr gx0 r)))

def LL.z3n : Int × (List T99) × (List T27) × Int × Int × (List T48) → (List T48) → Prop := fun a r => ∀ {nz wz S0 w0 Lr} [Gw nz wz] (gx0 : Nat), L.z3n nz wz S0 w0 Lr gx0 a r

def L.z3o (gx0 : Nat) : Int × (List T99) × (List T48) → (List T48) → Prop := fun ⟨x2, x6, ud6⟩ r => ∀ S1 w1, Ext S0 w0 S1 w1 → ∀ Gx6 nx6 cx6 ug0 ue4 ue5 ue6 ue7 (_ : Hp nz wz S1 w1 ((Gx6, .row 100 ug0 (cx6 * (kT99 gx0).size) 0) :: (some gx0, .row 78 [.slice (Gp ue4) ue5 ue6] 1 0) :: (ue4, .row 49 ue7 (ue6 * kT48.size) 0) :: Lr)) (_ : Els (kT99 gx0) S1 w1 ug0 x6) (_ : x6.length = nx6) (_ : Els kT48 S1 w1 ue7 ud6) (_ : ud6.length = ue5) (junk : Nat → Value),
 Goes Tryd.prog (base 35) Jqf ⟨lfr 59 [(0, (pt gx0 0)), (2, .i x2), (6, .slice (Gp Gx6) nx6 cx6)] junk, []⟩ w1 (Done Tryd.prog 35 (Rets (Post.z3e nz wz S0 w0 Lr gx0 r)))

def LL.z3o : Int × (List T99) × (List T48) → (List T48) → Prop := fun a r => ∀ {nz wz S0 w0 Lr} [Gw nz wz] (gx0 : Nat), L.z3o nz wz S0 w0 Lr gx0 a r

def LF.z3g : (List T48) × (List T99) × Int → (List T48) → Prop := fun ⟨ue8, x1, x2⟩ r => ∀ {nz wz S0 w0 Lr} [Gw nz wz] gx0 ue9 uea ueb uec Ax1 nx1 cx1 (_ : Hp nz wz S0 w0 ((some gx0, .row 78 [.slice (Gp ue9) uea ueb] 1 0) :: (ue9, .row 49 uec (ueb * kT48.size) 0) :: Lr)) (_ : Els kT48 S0 w0 uec ue8) (_ : ue8.length = uea) (_ : Rd (kT99 gx0) S0 w0 Ax1 cx1 x1) (_ : x1.length = nx1),
 Calls Tryd.prog 56 #[(pt gx0 0), .slice Ax1 nx1 cx1, .i x2] w0 (Rets (Post.z3g nz wz S0 w0 Lr gx0 r))

def L.z3p (gx0 : Nat) : (List T99) × Int × (List T99) × Int × Int × (List T48) → (List T48) → Prop := fun ⟨x1, x2, x9, x10, x11, ud6⟩ r => ∀ S1 w1, Ext S0 w0 S1 w1 → ∀ Ax1 nx1 cx1 Ax9 nx9 cx9 ue4 ue5 ue6 ue7 (_ : Hp nz wz S1 w1 ((some gx0, .row 78 [.slice (Gp ue4) ue5 ue6] 1 0) :: (ue4, .row 49 ue7 (ue6 * kT48.size) 0) :: Lr)) (_ : Rd (kT99 gx0) S1 w1 Ax1 cx1 x1) (_ : x1.length = nx1) (_ : Rd (kT99 gx0) S1 w1 Ax9 cx9 x9) (_ : x9.length = nx9) (_ : Els kT48 S1 w1 ue7 ud6) (_ : ud6.length = ue5) (junk : Nat → Value),
 Goes Tryd.prog (base 56) Jqk ⟨lfr 35 [(0, (pt gx0 0)), (1, .slice Ax1 nx1 cx1), (2, .i x2), (9, .slice Ax9 nx9 cx9), (10, .i x10), (11, .i x11)] junk, []⟩ w1 (Done Tryd.prog 56 (Rets (Post.z3g nz wz S0 w0 Lr gx0 r)))

def LL.z3p : (List T99) × Int × (List T99) × Int × Int × (List T48) → (List T48) → Prop := fun a r => ∀ {nz wz S0 w0 Lr} [Gw nz wz] (gx0 : Nat), L.z3p nz wz S0 w0 Lr gx0 a r

def L.z3q (gx0 : Nat) : (List T99) × Int × T99 × Int × (List T99) × Int × Int × (List T48) → (List T48) → Prop := fun ⟨x1, x2, x7v, x8, x9, x10, x11, ud6⟩ r => ∀ S1 w1, Ext S0 w0 S1 w1 → ∀ Ax1 nx1 cx1 gx7 ug1 Ax9 nx9 cx9 ue4 ue5 ue6 ue7 (_ : Hp nz wz S1 w1 ((some gx7, .row 100 [.i x7v.n, ug1] 2 0) :: (some gx0, .row 78 [.slice (Gp ue4) ue5 ue6] 1 0) :: (ue4, .row 49 ue7 (ue6 * kT48.size) 0) :: Lr)) (_ : Rd (kT99 gx0) S1 w1 Ax1 cx1 x1) (_ : x1.length = nx1) (_ : Rp1 (kC98 gx0) S1 w1 ug1 x7v.code) (_ : Rd (kT99 gx0) S1 w1 Ax9 cx9 x9) (_ : x9.length = nx9) (_ : Els kT48 S1 w1 ue7 ud6) (_ : ud6.length = ue5) (junk : Nat → Value),
 Goes Tryd.prog (base 56) Jqn ⟨lfr 35 [(0, (pt gx0 0)), (1, .slice Ax1 nx1 cx1), (2, .i x2), (7, (pt gx7 0)), (8, .i x8), (9, .slice Ax9 nx9 cx9), (10, .i x10), (11, .i x11)] junk, []⟩ w1 (Done Tryd.prog 56 (Rets (Post.z3g nz wz S0 w0 Lr gx0 r)))

def LL.z3q : (List T99) × Int × T99 × Int × (List T99) × Int × Int × (List T48) → (List T48) → Prop := fun a r => ∀ {nz wz S0 w0 Lr} [Gw nz wz] (gx0 : Nat), L.z3q nz wz S0 w0 Lr gx0 a r

def LF.z3h : Int × (List T48) × T27 → (List T48) → Prop := fun ⟨x0, u0, x2⟩ r => ∀ {nz wz S0 w0 Lr} [Gw nz wz] ax1 gx1 ug2 ug3 ug4 ug5 ax2 ug6 ug7 ug8 (_ : Hp nz wz S0 w0 ((some gx1, .row 78 [.slice (Gp ug2) ug3 ug4] 1 0) :: (ug2, .row 49 ug5 (ug4 * kT48.size) 0) :: Lr)) (_ : Els kT48 S0 w0 ug5 u0) (_ : u0.length = ug3) (_ : Cs S0 w0 ax1 [(pt gx1 0)]) (_ : x2.Set.length = 4) (_ : Rd kT27 S0 w0 ug6 ug8 x2.L) (_ : x2.L.length = ug7) (_ : Cs S0 w0 ax2 (.i x2.Kind :: U4 x2.Set [.slice ug6 ug7 ug8, .i x2.Min, .i x2.Max])),
 Calls Tryd.prog 71 #[.i x0, .pointer (some ax1), .pointer (some ax2)] w0 (Rets (Post.z3h nz wz S0 w0 Lr gx1 r))

def L.z3r (gx0 : Nat) : (List T99) × Int × (List T99) × Int × Int × (List T48) → (List T48) → Prop := fun ⟨x1, x2, x9, x10, x11, ud6⟩ r => ∀ S1 w1, Ext S0 w0 S1 w1 → ∀ Ax1 nx1 cx1 Ax9 nx9 cx9 ue4 ue5 ue6 ue7 (_ : Hp nz wz S1 w1 ((some gx0, .row 78 [.slice (Gp ue4) ue5 ue6] 1 0) :: (ue4, .row 49 ue7 (ue6 * kT48.size) 0) :: Lr)) (_ : Rd (kT99 gx0) S1 w1 Ax1 cx1 x1) (_ : x1.length = nx1) (_ : Rd (kT99 gx0) S1 w1 Ax9 cx9 x9) (_ : x9.length = nx9) (_ : Els kT48 S1 w1 ue7 ud6) (_ : ud6.length = ue5) (junk : Nat → Value),
 Goes Tryd.prog (base 56) Jqm ⟨lfr 35 [(0, (pt gx0 0)), (1, .slice Ax1 nx1 cx1), (2, .i x2), (9, .slice Ax9 nx9 cx9), (10, .i x10), (11, .i x11)] junk, []⟩ w1 (Done Tryd.prog 56 (Rets (Post.z3g nz wz S0 w0 Lr gx0 r)))

def LL.z3r : (List T99) × Int × (List T99) × Int × Int × (List T48) → (List T48) → Prop := fun a r => ∀ {nz wz S0 w0 Lr} [Gw nz wz] (gx0 : Nat), L.z3r nz wz S0 w0 Lr gx0 a r

def LF.z3i : Int × (List T48) × T27 → (List T48) → Prop := fun ⟨x0, u0, x2⟩ r => ∀ {nz wz S0 w0 Lr} [Gw nz wz] ax1 gx1 ug2 ug3 ug4 ug5 ax2 ug6 ug7 ug8 (_ : Hp nz wz S0 w0 ((some gx1, .row 78 [.slice (Gp ug2) ug3 ug4] 1 0) :: (ug2, .row 49 ug5 (ug4 * kT48.size) 0) :: Lr)) (_ : Els kT48 S0 w0 ug5 u0) (_ : u0.length = ug3) (_ : Cs S0 w0 ax1 [(pt gx1 0)]) (_ : x2.Set.length = 4) (_ : Rd kT27 S0 w0 ug6 ug8 x2.L) (_ : x2.L.length = ug7) (_ : Cs S0 w0 ax2 (.i x2.Kind :: U4 x2.Set [.slice ug6 ug7 ug8, .i x2.Min, .i x2.Max])),
 Calls Tryd.prog 85 #[.i x0, .pointer (some ax1), .pointer (some ax2)] w0 (Rets (Post.z3i nz wz S0 w0 Lr gx1 r))

def LF.z3j : Int × (List T48) × Int × T27 → (List T48) → Prop := fun ⟨x0, u0, x2, x3⟩ r => ∀ {nz wz S0 w0 Lr} [Gw nz wz] ax1 gx1 ug2 ug3 ug4 ug5 ax2 ax3 ug9 uga ugb (_ : Hp nz wz S0 w0 ((some gx1, .row 78 [.slice (Gp ug2) ug3 ug4] 1 0) :: (ug2, .row 49 ug5 (ug4 * kT48.size) 0) :: Lr)) (_ : Els kT48 S0 w0 ug5 u0) (_ : u0.length = ug3) (_ : Cs S0 w0 ax1 [(pt gx1 0)]) (_ : Cs S0 w0 ax2 [.i x2]) (_ : x3.Set.length = 4) (_ : Rd kT27 S0 w0 ug9 ugb x3.L) (_ : x3.L.length = uga) (_ : Cs S0 w0 ax3 (.i x3.Kind :: U4 x3.Set [.slice ug9 uga ugb, .i x3.Min, .i x3.Max])),
 Calls Tryd.prog 86 #[.i x0, .pointer (some ax1), .pointer (some ax2), .pointer (some ax3)] w0 (Rets (Post.z3j nz wz S0 w0 Lr gx1 r))

def L.z3s (gx0 : Nat) : Int × (List T48) → (List T48) → Prop := fun ⟨x2, ud6⟩ r => ∀ S1 w1, Ext S0 w0 S1 w1 → ∀ ue4 ue5 ue6 ue7 (_ : Hp nz wz S1 w1 ((some gx0, .row 78 [.slice (Gp ue4) ue5 ue6] 1 0) :: (ue4, .row 49 ue7 (ue6 * kT48.size) 0) :: Lr)) (_ : Els kT48 S1 w1 ue7 ud6) (_ : ud6.length = ue5) (junk : Nat → Value),
 Goes Tryd.prog (base 35) Jqf ⟨lfr 59 [(0, (pt gx0 0)), (2, .i x2), (6, .slice none 0 0)] junk, []⟩ w1 (Done Tryd.prog 35 (Rets (Post.z3e nz wz S0 w0 Lr gx0 r)))

def LL.z3s : Int × (List T48) → (List T48) → Prop := fun a r => ∀ {nz wz S0 w0 Lr} [Gw nz wz] (gx0 : Nat), L.z3s nz wz S0 w0 Lr gx0 a r

theorem W.z3t : (∀ a r, M.prog_writer_code a = some r → LF.z3e a r) ∧ (∀ a r, M.prog_writer_code_l2 a = some r → LL.z3s a r) ∧ (∀ a r, M.prog_writer_row a = some r → LF.z3g a r) ∧ (∀ a r, M.prog_writer_row_l0 a = some r → LL.z3p a r) ∧ (∀ a r, M.prog_writer_row_l1 a = some r → LL.z3q a r) ∧ (∀ a r, M.prog_writer_perhaps_1 a = some r → LF.z3j a r) ∧ (∀ a r, M.prog_writer_loop_1 a = some r → LF.z3i a r) ∧ (∀ a r, M.prog_writer_row_l2 a = some r → LL.z3r a r) ∧ (∀ a r, M.prog_writer_of_1 a = some r → LF.z3h a r) ∧ (∀ a r, M.prog_writer_code_l1 a = some r → LL.z3o a r) ∧ (∀ a r, M.prog_writer_code_l0 a = some r → LL.z3m a r) ∧ (∀ a r, M.prog_writer_code_l3 a = some r → LL.z3n a r) ∧ (∀ a r, M.prog_writer_any a = some r → LF.z3f a r) ∧ (∀ a r, M.prog_writer_any_l0 a = some r → LL.z3k a r) ∧ (∀ a r, M.prog_writer_any_l1 a = some r → LL.z3l a r) := by
 refine M.prog_writer_code.mutual_partial_correctness LF.z3e LL.z3s LF.z3g LL.z3p LL.z3q LF.z3j LF.z3i LL.z3r LF.z3h LL.z3o LL.z3m LL.z3n LF.z3f LL.z3k LL.z3l ?_ ?_ ?_ ?_ ?_ ?_ ?_ ?_ ?_ ?_ ?_ ?_ ?_ ?_ ?_
 ·
  intro ugc ugd uge rec_prog_writer_any ugf ugg ugh ih_prog_writer_any ⟨ue8, x1, x2⟩ r h nz wz S0 w0 Lr iG gx0 ue9 uea ueb uec uei uej uek p0 ued uee uef uel uem
  try dsimp only at h
  subst uee
  subst uem
  refine calls_of_goes (fn := Tryd.f35) (c := B35) (by kernel_rfl) (by kernel_rfl) 56 (by kernel_rfl) ?_
  refine Goes.jp 59 [(0, (pt gx0 0)), (1, (ag (.i x1.Kind :: U4 x1.Set [.slice uei x1.L.length uek, .i x1.Min, .i x1.Max]))), (2, .i x2)] (fun junk => ?_)
  refine Goes.rn 2 [] Jqp ?_
  refine Op_.box 28 (.tmp 1) 4 0 (ag (.i x1.Kind :: U4 x1.Set [.slice uei x1.L.length uek, .i x1.Min, .i x1.Max])) (.i x1.Kind :: U4 x1.Set [.slice uei x1.L.length uek, .i x1.Min, .i x1.Max]) p0 Goes.v (by kernel_rfl) (by kernel_rfl) ?_
  intro b3 w2 z2 p2
  refine Goes.rn 9 [(6, .slice none 0 0), (9, (pt b3 0))] Jqr ?_
  refine Goes.ld 3 (.tmp 9) 10 3 ⟨b3, 0, none⟩ (.i x1.Kind) (p2.c 0 0) ?_
  refine Goes.rn 7 [(12, .bool (decide (x1.Kind = 1))), (11, .bool (decide (x1.Kind = 1)))] Jqs ?_
  refine ite_some h (fun h5 h => ?_) (fun h5 h => ?_)
  ·
   rw [decide_eq_true h5]
   refine Goes.rn 5 [(13, (pt gx0 0)), (14, (pt b3 1))] Jqu ?_
   refine Goes.ldN 25 (.tmp 14) 15 25 ⟨b3, 1, none⟩ (U4 x1.Set []) (p2.pa 0 1) ?_
   refine Goes.rn 2 [(16, .i x2), (17, (ag (.i 1 :: U4 x1.Set [.i x2, .i 0])))] Jqv ?_
   have p2 := (p2.fr 2).fr 2
   refine bind_some' h fun y6 e7 h => ?_
   refine Goes.cal (kc 36 [13, 17] #[76, 49]) 18 3 36 _ (W.z35 ue8 (⟨1, x1.Set, x2, 0⟩ : T48) y6 e7 gx0 ue9 ue8.length ueb uec p2 (ued.ext z2) rfl uef) ?_
   rintro _ w3 ⟨S3, ugi, ugj, ugk, ugl, rfl, z3, p3, ugm, rfl⟩
   have p3 := p3.dp 2
   refine Goes.rn 1 [] Jqt ?_
   obtain rfl := Option.some.inj h
   exact Goes.rt Tryd.f35 (.tuple #[]) ⟨S3, ugi, y6.2.length, ugk, ugl, rfl, (((Ext.refl S0 w0).trans z2).trans z3), p3, ugm, rfl⟩
  ·
   rw [decide_eq_false h5]
   refine Goes.rn 6 [(20, .bool (decide (x1.Kind = 3))), (19, .bool (decide (x1.Kind = 3)))] Jqw ?_
   refine ite_some h (fun h9 h => ?_) (fun h9 h => ?_)
   ·
    rw [decide_eq_true h9]
    refine Goes.rn 5 [(21, (pt gx0 0)), (22, (pt b3 5))] Jqy ?_
    refine Goes.ld 26 (.tmp 22) 23 26 ⟨b3, 5, none⟩ (.slice uei x1.L.length uek) (p2.c 0 5) ?_
    refine Goes.rn 1 [(24, .i x2)] Jqz ?_
    have p2 := (p2.fr 2).fr 2
    refine bind_some' h fun y10 e11 h => ?_
    refine Goes.cal (kc 53 [21, 23, 24] #[76, 26, 3]) 25 0 53 _ (ih_prog_writer_any (ue8, x1.L, x2) y10 e11 gx0 ue9 ue8.length ueb uec uei x1.L.length uek p2 (ued.ext z2) rfl (uel.ext z2) rfl) ?_
    rintro _ w4 ⟨S4, ugn, ugo, ugp, ugq, rfl, z4, p4, ugr, rfl⟩
    have p4 := p4.dp 2
    refine Goes.rn 1 [] Jqx ?_
    obtain rfl := Option.some.inj h
    exact Goes.rt Tryd.f35 (.tuple #[]) ⟨S4, ugn, y10.length, ugp, ugq, rfl, (((Ext.refl S0 w0).trans z2).trans z4), p4, ugr, rfl⟩
   ·
    rw [decide_eq_false h9]
    refine Goes.rn 6 [(27, .bool (decide (x1.Kind = 2))), (26, .bool (decide (x1.Kind = 2)))] Jr0 ?_
    refine ite_some h (fun h13 h => ?_) (fun h13 h => ?_)
    ·
     rw [decide_eq_true h13]
     refine Goes.rn 4 [(28, (pt b3 5))] Jr2 ?_
     refine Goes.ld 26 (.tmp 28) 29 26 ⟨b3, 5, none⟩ (.slice uei x1.L.length uek) (p2.c 0 5) ?_
     refine Goes.rn 5 [(30, .i (x1.L.length : Int)), (31, .i 0)] Jqi ?_
     have p2 := p2.dp 0
     exact Goes.jp 59 [(0, (pt gx0 0)), (2, .i x2), (6, .slice none 0 0), (29, .slice uei x1.L.length uek), (30, .i (x1.L.length : Int)), (31, .i 0)] (ugh _ _ h gx0 _ _ ((Ext.refl S0 w0).trans z2) uei x1.L.length uek ue9 ue8.length ueb uec p2 (uel.ext z2) rfl (ued.ext z2) rfl)
    ·
     rw [decide_eq_false h13]
     refine Goes.rn 6 [(43, .bool (decide (x1.Kind = 4))), (42, .bool (decide (x1.Kind = 4)))] Jr3 ?_
     refine ite_some h (fun h15 h => ?_) (fun h15 h => ?_)
     ·
      rw [decide_eq_true h15]
      refine Goes.rn 3 [(44, (pt gx0 0))] Jr4 ?_
      refine Goes.ldN 28 (.tmp 4) 45 28 ⟨b3, 0, none⟩ (.i x1.Kind :: U4 x1.Set [.slice uei x1.L.length uek, .i x1.Min, .i x1.Max]) (p2.pa 0 0) ?_
      refine Goes.rn 1 [(46, .i x2)] Jr5 ?_
      have p2 := (p2.fr 2).fr 2
      refine bind_some' h fun y16 e17 h => ?_
      refine Goes.cal (kc 55 [44, 45, 46] #[76, 28, 3]) 47 95 55 _ (W.z39 ue8 x1 x2 y16 e17 gx0 ue9 ue8.length ueb uec uei x1.L.length uek p2 (ued.ext z2) rfl uef (uel.ext z2) rfl) ?_
      rintro _ w5 ⟨S5, ugs, ugt, ugu, ugv, rfl, z5, p5, u53, rfl⟩
      have p5 := p5.dp 3
      refine Goes.rn 2 [(6, .slice (Gp ugs) y16.length ugu)] Jqf ?_
      exact Goes.jp 59 [(0, (pt gx0 0)), (2, .i x2), (6, .slice (Gp ugs) y16.length ugu)] (ugg _ _ h gx0 _ _ (((Ext.refl S0 w0).trans z2).trans z5) ugs y16.length ugu ugv ue9 ue8.length ueb uec p5 u53 rfl (ued.ext (z2.trans z5)) rfl)
     ·
      rw [decide_eq_false h15]
      refine Goes.rn 2 [] Jqf ?_
      have p2 := p2.dp 0
      exact Goes.jp 59 [(0, (pt gx0 0)), (2, .i x2), (6, .slice none 0 0)] (ugf _ _ h gx0 _ _ ((Ext.refl S0 w0).trans z2) ue9 ue8.length ueb uec p2 (ued.ext z2) rfl)
 ·
  intro rec_prog_writer_row ih_prog_writer_row ⟨x2, ud6⟩ r h nz wz S0 w0 Lr iG gx0 S1 w1 hx ue4 ue5 ue6 ue7 p1 ugw ugx junk
  try dsimp only at h
  subst ugx
  refine Goes.rn 13 [(48, .slice none 0 0), (49, .i 0), (50, .bool true), (51, (pt gx0 0)), (52, .i x2), (53, .agg #[.i 4, .u 0, .u 0, .u 0, .u 0, .i x2, .i 0])] Jr7 ?_
  refine bind_some' h fun y64 e65 h => ?_
  refine Goes.cal (kc 36 [51, 53] #[76, 49]) 54 3 36 _ (W.z35 ud6 (⟨4, [0, 0, 0, 0], x2, 0⟩ : T48) y64 e65 gx0 ue4 ud6.length ue6 ue7 p1 ugw rfl rfl) ?_
  rintro _ w16 ⟨S16, ugy, ugz, uh0, uh1, rfl, z16, p16, uh2, rfl⟩
  refine Goes.rn 5 [(55, (pt gx0 0)), (56, .slice none 0 0), (57, .i x2)] Jr8 ?_
  refine bind_some' h fun y67 e68 h => ?_
  refine Goes.cal (kc 56 [55, 56, 57] #[76, 95, 3]) 58 0 56 _ (ih_prog_writer_row (y64.2, ([] : List T99), x2) y67 e68 gx0 ugy y64.2.length uh0 uh1 none 0 0 p16 uh2 rfl Rd.none_ rfl) ?_
  rintro _ w17 ⟨S17, uh3, uh4, uh5, uh6, rfl, z17, p17, uh7, rfl⟩
  refine Goes.rn 1 [] [] ?_
  obtain rfl := Option.some.inj h
  exact Goes.end_ (fn := Tryd.f35) (by kernel_rfl) (v := .tuple #[]) (by kernel_rfl) ⟨S17, uh3, y67.length, uh5, uh6, rfl, ((hx.trans z16).trans z17), p17, uh7, rfl⟩
 ·
  intro uh8 uh9 ⟨ue8, x1, x2⟩ r h nz wz S0 w0 Lr iG gx0 ue9 uea ueb uec Ax1 nx1 cx1 p0 ued uee fx1 lx1
  try dsimp only at h
  subst uee
  subst lx1
  refine calls_of_goes (fn := Tryd.f56) (c := B56) (by kernel_rfl) (by kernel_rfl) 32 (by kernel_rfl) ?_
  refine Goes.jp 35 [(0, (pt gx0 0)), (1, .slice Ax1 x1.length cx1), (2, .i x2)] (fun junk => ?_)
  refine Goes.rn 8 [(9, .slice Ax1 x1.length cx1), (10, .i (x1.length : Int)), (11, .i 0)] Jqk ?_
  exact Goes.jp 35 [(0, (pt gx0 0)), (1, .slice Ax1 x1.length cx1), (2, .i x2), (9, .slice Ax1 x1.length cx1), (10, .i (x1.length : Int)), (11, .i 0)] (uh9 _ _ h gx0 _ _ (Ext.refl S0 w0) Ax1 x1.length cx1 Ax1 x1.length cx1 ue9 ue8.length ueb uec p0 fx1 rfl fx1 rfl ued rfl)
 ·
  intro uha uhb ⟨x1, x2, x9, x10, x11, ud6⟩ r h nz wz S0 w0 Lr iG gx0 S1 w1 hx Ax1 nx1 cx1 Ax9 nx9 cx9 ue4 ue5 ue6 ue7 p1 fx1 lx1 fx9 lx9 ugw ugx junk
  try dsimp only at h
  subst lx1
  subst lx9
  subst ugx
  refine Goes.rn 5 [(12, .bool (decide (x11 < x10)))] Jra ?_
  refine ite_some h (fun h4 h => ?_) (fun h4 h => ?_)
  ·
   rw [decide_eq_true h4]
   refine Goes.rn 7 [(13, .i x11)] Jrc ?_
   refine guard_some' h fun g5 h => ?_
   refine guard_some' h fun g6 h => ?_
   refine Op_.ixR_n 95 (.tmp 9) (.tmp 11) 14 0 100 .i64 x11 (gi x9 x11) rfl rfl fx9 Goes.v (by kernel_rfl) (by kernel_rfl) (by kernel_rfl) (by kernel_rfl) g5 g6 ?_
   intro a7 _ f8 q9
   obtain ⟨_, _, rfl, rfl, q12⟩ := q9
   obtain ⟨v10, rfl, f11⟩ := rp1_one rfl q12
   refine Goes.ldN 100 (.tmp 14) 15 100 a7 ([.i ((gi x9 x11).n)] ++ [v10]) (f8.cell) ?_
   refine Op_.alloc 100 7 0 (.agg #[.i 0, .nilFunc]) [.i 0, .nilFunc] p1 Goes.v (by kernel_rfl) (by kernel_rfl) ?_
   intro b13 w2 z2 p2
   refine Goes.rn 1 [(6, .i x11)] Jrd ?_
   refine Op_.st 100 (.tmp 7) (.tmp 15) 0 0 b13 0 (.agg #[.i ((gi x9 x11).n), v10]) [.i ((gi x9 x11).n), v10] p2 rfl Goes.s (by kernel_rfl) (by kernel_rfl) (by kernel_rfl) (by kernel_rfl) (Nat.zero_le _) (by simp only [List.length_cons, List.length_nil]; omega) (by intro v hv; simp only [List.mem_cons, List.not_mem_nil, or_false] at hv; rcases hv with rfl | rfl <;> first | rfl | exact Rp1.one1 (f11.ext z2)) ?_
   intro w3 z3 p3
   have p3 : Hp nz wz S1 w3 ((some b13, .row 100 [.i ((gi x9 x11).n), v10] 2 0) :: (some gx0, .row 78 [.slice (Gp ue4) ud6.length ue6] 1 0) :: (ue4, .row 49 ue7 (ue6 * kT48.size) 0) :: Lr) := p3
   refine Goes.rn 14 [(16, .i x2), (8, .i x2), (17, .i x11), (18, .slice Ax1 x1.length cx1), (19, .i (x1.length : Int)), (20, .i (wr .i64 ((x1.length : Int) - 1))), (21, .bool (decide (x11 < wr .i64 ((x1.length : Int) - 1))))] Jrf ?_
   refine Goes.rn 1 [] Jre ?_
   refine ite_some h (fun h15 h => ?_) (fun h15 h => ?_)
   ·
    rw [decide_eq_true h15]
    refine Goes.rn 1 [] Jrg ?_
    have z4 : Ext S1 w3 S1 (w3).drew := Ext.draw
    have p4 := p3.draw
    refine Goes.drawn (s := []) (F := Fc S1 (w3).drew [(⟨gx0, 0, none⟩, .slice (Gp ue4) ud6.length ue6), (⟨b13, 0, none⟩, .i ((gi x9 x11).n))]) 5 9 (by kernel_rfl) (by kernel_rfl) (by kernel_rfl) (by kernel_rfl) ?_
    generalize (w3).drew = w4 at z4 p4 ⊢
    refine AnyG.pu 0 (.move (.tmp 0)) 22 76 ((pt gx0 0)) (Fc.here (p4.cs [(1, 0, 1), (0, 0, 1)])) ?_
    refine AnyG.pu 1 (.nilCheck (.tmp 22)) 23 0 ((pt gx0 0)) (Fc.here (p4.cs [(1, 0, 1), (0, 0, 1)])) ?_
    refine AnyG.pu 2 (.fieldAddr 78 (.tmp 23) 0) 24 0 ((pt gx0 0)) (Fc.here (p4.cs [(1, 0, 1), (0, 0, 1)])) ?_
    refine AnyG.ld1 (i := 3) 37 (.tmp 24) 25 37 ⟨gx0, 0, none⟩ (.slice (Gp ue4) ud6.length ue6) (by kernel_rfl) (by kernel_rfl) (Fc.here (p4.cs [(1, 0, 1), (0, 0, 1)])) (by kernel_rfl) (by kernel_rfl) (fun _ h => h.2.at_ 0 rfl) ?_
    refine AnyG.pu 4 (.call { callee := .builtin .len, args := #[(.tmp 25)], argTypes := #[37] }) 26 3 (.i (ud6.length : Int)) (Fc.here (p4.cs [(1, 0, 1), (0, 0, 1)])) ?_
    refine AnyG.pu 5 (.fieldAddr 100 (.tmp 7) 0) 27 0 ((pt b13 0)) (Fc.here (p4.cs [(1, 0, 1), (0, 0, 1)])) ?_
    refine AnyG.ld1 (i := 6) 3 (.tmp 27) 28 3 ⟨b13, 0, none⟩ (.i ((gi x9 x11).n)) (by kernel_rfl) (by kernel_rfl) (Fc.here (p4.cs [(1, 0, 1), (0, 0, 1)])) (by kernel_rfl) (by kernel_rfl) (fun _ h => h.2.at_ 1 rfl) ?_
    refine AnyG.pu 7 (.binOp .add 3 (.tmp 26) (.tmp 28) 3) 29 3 (.i (wr .i64 ((ud6.length : Int) + ((gi x9 x11).n)))) (Fc.here (p4.cs [(1, 0, 1), (0, 0, 1)])) ?_
    refine AnyG.pu 8 (.assign (.tmp 29)) 8 3 (.i (wr .i64 ((ud6.length : Int) + ((gi x9 x11).n)))) (Fc.here (p4.cs [(1, 0, 1), (0, 0, 1)])) ?_
    refine AnyG.done (by kernel_rfl) ?_ _
    exact Goes.jp 35 [(0, (pt gx0 0)), (1, .slice Ax1 x1.length cx1), (2, .i x2), (7, (pt b13 0)), (8, .i (wr .i64 ((ud6.length : Int) + ((gi x9 x11).n)))), (9, .slice Ax9 x9.length cx9), (10, .i x10), (11, .i x11)] (uhb _ _ h gx0 _ _ (((hx.trans z2).trans z3).trans z4) Ax1 x1.length cx1 b13 v10 Ax9 x9.length cx9 ue4 ud6.length ue6 ue7 p4 (fx1.ext ((z2.trans z3).trans z4)) rfl (f11.ext ((z2.trans z3).trans z4)) (fx9.ext ((z2.trans z3).trans z4)) rfl (ugw.ext ((z2.trans z3).trans z4)) rfl)
   ·
    rw [decide_eq_false h15]
    refine Goes.rn 2 [] Jqn ?_
    exact Goes.jp 35 [(0, (pt gx0 0)), (1, .slice Ax1 x1.length cx1), (2, .i x2), (7, (pt b13 0)), (8, .i x2), (9, .slice Ax9 x9.length cx9), (10, .i x10), (11, .i x11)] (uhb _ _ h gx0 _ _ ((hx.trans z2).trans z3) Ax1 x1.length cx1 b13 v10 Ax9 x9.length cx9 ue4 ud6.length ue6 ue7 p3 (fx1.ext (z2.trans z3)) rfl (f11.ext (z2.trans z3)) (fx9.ext (z2.trans z3)) rfl (ugw.ext (z2.trans z3)) rfl)
  ·
   rw [decide_eq_false h4]
   refine Goes.rn 2 [] [] ?_
   obtain rfl := Option.some.inj h
   exact Goes.end_ (fn := Tryd.f56) (by kernel_rfl) (v := .tuple #[]) (by kernel_rfl) ⟨S1, ue4, ud6.length, ue6, ue7, rfl, hx, p1, ugw, rfl⟩
 ·
  intro uhc uhd uhe uhf uhg uhh uhi uhj ⟨x1, x2, x7v, x8, x9, x10, x11, ud6⟩ r h nz wz S0 w0 Lr iG gx0 S1 w1 hx Ax1 nx1 cx1 gx7 ug1 Ax9 nx9 cx9 ue4 ue5 ue6 ue7 p1 fx1 lx1 uhk fx9 lx9 ugw ugx junk
  try dsimp only at h
  subst lx1
  subst lx9
  subst ugx
  refine Goes.rn 2 [(30, (pt gx7 1))] Jrh ?_
  refine Goes.ld 98 (.tmp 30) 31 98 ⟨gx7, 1, none⟩ (ug1) (p1.c 0 1) ?_
  refine Goes.rn 1 [(32, .i x8)] Jri ?_
  refine let_some h fun v19 e20 h => ?_
  have f18 : Rp1 (kC98 gx0) S1 w1 ug1 v19 := by rw [← e20]; exact uhk
  rcases v19 with y21 | y33 | y45
  ·
   try dsimp only at h
   obtain ⟨_, rfl, ⟨_, _, rfl, ⟨a22, rfl, f23⟩, ⟨a24, _, rfl, -, f25, q26⟩⟩⟩ := kFn_get (kSum_l f18)
   have q27 := q26
   obtain ⟨_, _, rfl, rfl, ⟨_, _, rfl, ⟨l28, f29⟩, ⟨_, _, rfl, ⟨A30, c31, rfl, f32⟩, ⟨_, _, rfl, rfl, rfl⟩⟩⟩⟩ := kT27_open q27
   obtain rfl := els_lit4' f29 l28
   have p1 := (p1.fr 2).fr 2
   refine bind_some' h fun y60 e61 h => ?_
   refine Goes.cal (.call { callee := .value (.tmp 31), args := #[(.tmp 32)], argTypes := #[3] }) 33 0 71 _ (uhj (x8, ud6, y21) y60 e61 a22 gx0 ue4 ud6.length ue6 ue7 a24 A30 y21.L.length c31 p1 ugw rfl f23 l28 f32 rfl f25) ?_
   rintro _ w5 ⟨S5, uhl, uhm, uhn, uho, rfl, z5, p5, uhp, rfl⟩
   have p5 := p5.dp 2
   refine Goes.rn 1 [] Jqm ?_
   exact Goes.jp 35 [(0, (pt gx0 0)), (1, .slice Ax1 x1.length cx1), (2, .i x2), (9, .slice Ax9 x9.length cx9), (10, .i x10), (11, .i x11)] (uhi _ _ h gx0 _ _ (hx.trans z5) Ax1 x1.length cx1 Ax9 x9.length cx9 uhl y60.length uhn uho p5 (fx1.ext z5) rfl (fx9.ext z5) rfl uhp rfl)
  ·
   try dsimp only at h
   obtain ⟨_, rfl, ⟨_, _, rfl, ⟨a34, rfl, f35⟩, ⟨a36, _, rfl, -, f37, q38⟩⟩⟩ := kFn_get (kSum_l (kSum_r f18))
   have q39 := q38
   obtain ⟨_, _, rfl, rfl, ⟨_, _, rfl, ⟨l40, f41⟩, ⟨_, _, rfl, ⟨A42, c43, rfl, f44⟩, ⟨_, _, rfl, rfl, rfl⟩⟩⟩⟩ := kT27_open q39
   obtain rfl := els_lit4' f41 l40
   have p1 := (p1.fr 2).fr 2
   refine bind_some' h fun y64 e65 h => ?_
   refine Goes.cal (.call { callee := .value (.tmp 31), args := #[(.tmp 32)], argTypes := #[3] }) 33 0 85 _ (uhh (x8, ud6, y33) y64 e65 a34 gx0 ue4 ud6.length ue6 ue7 a36 A42 y33.L.length c43 p1 ugw rfl f35 l40 f44 rfl f37) ?_
   rintro _ w6 ⟨S6, uhq, uhr, uhs, uht, rfl, z6, p6, uhu, rfl⟩
   have p6 := p6.dp 2
   refine Goes.rn 1 [] Jqm ?_
   exact Goes.jp 35 [(0, (pt gx0 0)), (1, .slice Ax1 x1.length cx1), (2, .i x2), (9, .slice Ax9 x9.length cx9), (10, .i x10), (11, .i x11)] (uhi _ _ h gx0 _ _ (hx.trans z6) Ax1 x1.length cx1 Ax9 x9.length cx9 uhq y64.length uhs uht p6 (fx1.ext z6) rfl (fx9.ext z6) rfl uhu rfl)
  ·
   try dsimp only at h
   obtain ⟨_, rfl, ⟨_, _, rfl, ⟨a46, rfl, f47⟩, ⟨_, _, rfl, ⟨a48, _, rfl, -, f49, q50⟩, ⟨a51, _, rfl, -, f52, q53⟩⟩⟩⟩ := kFn_get (kSum_r (kSum_r f18))
   obtain rfl := q50
   have q54 := q53
   obtain ⟨_, _, rfl, rfl, ⟨_, _, rfl, ⟨l55, f56⟩, ⟨_, _, rfl, ⟨A57, c58, rfl, f59⟩, ⟨_, _, rfl, rfl, rfl⟩⟩⟩⟩ := kT27_open q54
   obtain rfl := els_lit4' f56 l55
   have p1 := (p1.fr 2).fr 2
   refine bind_some' h fun y67 e68 h => ?_
   refine Goes.cal (.call { callee := .value (.tmp 31), args := #[(.tmp 32)], argTypes := #[3] }) 33 0 86 _ (uhg (x8, ud6, y45.1, y45.2) y67 e68 a46 gx0 ue4 ud6.length ue6 ue7 a48 a51 A57 y45.2.L.length c58 p1 ugw rfl f47 f49 l55 f59 rfl f52) ?_
   rintro _ w7 ⟨S7, uhv, uhw, uhx, uhy, rfl, z7, p7, uhz, rfl⟩
   have p7 := p7.dp 2
   refine Goes.rn 1 [] Jqm ?_
   exact Goes.jp 35 [(0, (pt gx0 0)), (1, .slice Ax1 x1.length cx1), (2, .i x2), (9, .slice Ax9 x9.length cx9), (10, .i x10), (11, .i x11)] (uhi _ _ h gx0 _ _ (hx.trans z7) Ax1 x1.length cx1 Ax9 x9.length cx9 uhv y67.length uhx uhy p7 (fx1.ext z7) rfl (fx9.ext z7) rfl uhz rfl)
 ·
  intro rec_prog_writer_code ih_prog_writer_code ⟨x0, u0, x2, x3⟩ r h nz wz S0 w0 Lr iG ax1 gx1 ug2 ug3 ug4 ug5 ax2 ax3 ug9 uga ugb p0 ui0 ui1 ui2 ui3 ui4 ui5 ui6 ui7
  try dsimp only at h
  subst ui1
  subst ui6
  refine calls_of_goes (fn := Tryd.f86) (c := B86) (by kernel_rfl) (by kernel_rfl) 15 (by kernel_rfl) ?_
  refine Goes.jp 19 [(0, .i x0), (1, .pointer (some ax1)), (2, .pointer (some ax2)), (3, .pointer (some ax3))] (fun junk => ?_)
  refine Goes.rn 1 [] Jrk ?_
  have z2 : Ext S0 w0 S0 (w0).drew := Ext.draw
  have p2 := p0.draw
  refine Goes.drawn (s := [9]) (F := Fc S0 (w0).drew []) 0 10 (by kernel_rfl) (by kernel_rfl) (by kernel_rfl) (by kernel_rfl) ?_
  generalize (w0).drew = w2 at z2 p2 ⊢
  refine AnyG.ld1 (i := 0) 76 (.tmp 1) 5 76 ax1 ((pt gx1 0)) (by kernel_rfl) (by kernel_rfl) (Fc.here trivial) (by kernel_rfl) (by kernel_rfl) (fun _ h => (ui2.ext z2).fc h 0 _ rfl) ?_
  refine AnyG.ld1 (i := 1) 76 (.tmp 1) 6 76 ax1 ((pt gx1 0)) (by kernel_rfl) (by kernel_rfl) (Fc.here trivial) (by kernel_rfl) (by kernel_rfl) (fun _ h => (ui2.ext z2).fc h 0 _ rfl) ?_
  refine AnyG.pu 2 (.nilCheck (.tmp 6)) 7 0 ((pt gx1 0)) (Fc.here trivial) ?_
  refine AnyG.pu 3 (.fieldAddr 78 (.tmp 7) 0) 8 0 ((pt gx1 0)) (Fc.here trivial) ?_
  refine AnyG.ld1 (i := 7) 3 (.tmp 2) 12 3 ax2 (.i x2) (by kernel_rfl) (by kernel_rfl) (Fc.here trivial) (by kernel_rfl) (by kernel_rfl) (fun _ h => (ui3.ext z2).fc h 0 _ rfl) ?_
  refine Op_.ld1 37 (.tmp 8) 9 37 ⟨gx1, 0, none⟩ (.slice (Gp ug2) u0.length ug4) (AnyG.vs (i := 4) (by kernel_rfl) (by kernel_rfl)) (by kernel_rfl) (by kernel_rfl) (p2.c 0 0) ?_
  refine AnyG.next (Ext.refl _ _) trivial ?_
  refine AnyG.pu 5 (.call { callee := .builtin .len, args := #[(.tmp 9)], argTypes := #[37] }) 10 3 (.i (u0.length : Int)) (Fc.here trivial) ?_
  refine AnyG.pu 6 (.binOp .add 3 (.tmp 10) (.const (.int .i64 1)) 3) 11 3 (.i (wr .i64 ((u0.length : Int) + 1))) (Fc.here trivial) ?_
  refine AnyG.pu 8 (.build 49 #[(0, (.const (.int .i64 2))), (2, (.tmp 11)), (3, (.tmp 12))]) 13 49 (.agg #[.i 2, .u 0, .u 0, .u 0, .u 0, .i (wr .i64 ((u0.length : Int) + 1)), .i x2]) (Fc.here trivial) ?_
  refine bind_some' h fun y3 e4 h => ?_
  refine Op_.call (kc 36 [5, 13] #[76, 49]) 14 3 36 #[(pt gx1 0), .agg #[.i 2, .u 0, .u 0, .u 0, .u 0, .i (wr .i64 ((u0.length : Int) + 1)), .i x2]] (AnyG.cs (i := 9) (by kernel_rfl) (by kernel_rfl)) (by kernel_rfl) (W.z35 u0 (⟨2, [0, 0, 0, 0], wr .i64 ((u0.length : Int) + 1), x2⟩ : T48) y3 e4 gx1 ug2 u0.length ug4 ug5 p2 (ui0.ext z2) rfl rfl) ?_
  rintro _ w3 ⟨S3, ugi, ugj, ugk, ugl, rfl, z3, p3, ugm, rfl⟩
  refine AnyG.last [] (Fc S3 w3 []) (by decide) ?_
  refine AnyG.done (by kernel_rfl) ?_ _
  refine Goes.rn 1 [] Jrl ?_
  refine Goes.ld 76 (.tmp 1) 15 76 ax1 ((pt gx1 0)) ((ui2.ext (z2.trans z3)).cell 0 _ rfl) ?_
  refine Goes.ldN 28 (.tmp 3) 16 28 ax3 (.i x3.Kind :: U4 x3.Set [.slice ug9 x3.L.length ugb, .i x3.Min, .i x3.Max]) ((ui7.ext (z2.trans z3)).cell) ?_
  refine Goes.rn 1 [(17, .i x0)] Jrm ?_
  refine bind_some' h fun y6 e7 h => ?_
  refine Goes.cal (kc 35 [15, 16, 17] #[76, 28, 3]) 18 0 35 _ (ih_prog_writer_code (y3.2, x3, x0) y6 e7 gx1 ugi y3.2.length ugk ugl ug9 x3.L.length ugb p3 ugm rfl ui4 (ui5.ext (z2.trans z3)) rfl) ?_
  rintro _ w4 ⟨S4, ugn, ugo, ugp, ugq, rfl, z4, p4, ugr, rfl⟩
  refine Goes.rn 1 [] [] ?_
  obtain rfl := Option.some.inj h
  exact Goes.end_ (fn := Tryd.f86) (by kernel_rfl) (v := .tuple #[]) (by kernel_rfl) ⟨S4, ugn, y6.length, ugp, ugq, rfl, ((((Ext.refl S0 w0).trans z2).trans z3).trans z4), p4, ugr, rfl⟩
 ·
  intro rec_prog_writer_code ih_prog_writer_code ⟨x0, u0, x2⟩ r h nz wz S0 w0 Lr iG ax1 gx1 ug2 ug3 ug4 ug5 ax2 ug6 ug7 ug8 p0 ui0 ui1 ui2 ui8 ui9 uia ui3
  try dsimp only at h
  subst ui1
  subst uia
  refine calls_of_goes (fn := Tryd.f85) (c := B85) (by kernel_rfl) (by kernel_rfl) 16 (by kernel_rfl) ?_
  refine Goes.jp 19 [(0, .i x0), (1, .pointer (some ax1)), (2, .pointer (some ax2))] (fun junk => ?_)
  refine Goes.rn 1 [] Jro ?_
  have z2 : Ext S0 w0 S0 (w0).drew := Ext.draw
  have p2 := p0.draw
  refine Goes.drawn (s := [9]) (F := Fc S0 (w0).drew []) 0 11 (by kernel_rfl) (by kernel_rfl) (by kernel_rfl) (by kernel_rfl) ?_
  generalize (w0).drew = w2 at z2 p2 ⊢
  refine AnyG.ld1 (i := 0) 76 (.tmp 1) 5 76 ax1 ((pt gx1 0)) (by kernel_rfl) (by kernel_rfl) (Fc.here trivial) (by kernel_rfl) (by kernel_rfl) (fun _ h => (ui2.ext z2).fc h 0 _ rfl) ?_
  refine AnyG.ld1 (i := 1) 76 (.tmp 1) 6 76 ax1 ((pt gx1 0)) (by kernel_rfl) (by kernel_rfl) (Fc.here trivial) (by kernel_rfl) (by kernel_rfl) (fun _ h => (ui2.ext z2).fc h 0 _ rfl) ?_
  refine AnyG.pu 2 (.nilCheck (.tmp 6)) 7 0 ((pt gx1 0)) (Fc.here trivial) ?_
  refine AnyG.pu 3 (.fieldAddr 78 (.tmp 7) 0) 8 0 ((pt gx1 0)) (Fc.here trivial) ?_
  refine AnyG.pu 7 (.move (.tmp 0)) 12 3 (.i x0) (Fc.here trivial) ?_
  refine Op_.ld1 37 (.tmp 8) 9 37 ⟨gx1, 0, none⟩ (.slice (Gp ug2) u0.length ug4) (AnyG.vs (i := 4) (by kernel_rfl) (by kernel_rfl)) (by kernel_rfl) (by kernel_rfl) (p2.c 0 0) ?_
  refine AnyG.next (Ext.refl _ _) trivial ?_
  refine AnyG.pu 5 (.call { callee := .builtin .len, args := #[(.tmp 9)], argTypes := #[37] }) 10 3 (.i (u0.length : Int)) (Fc.here trivial) ?_
  refine AnyG.pu 6 (.binOp .add 3 (.tmp 10) (.const (.int .i64 1)) 3) 11 3 (.i (wr .i64 ((u0.length : Int) + 1))) (Fc.here trivial) ?_
  refine AnyG.pu 8 (.build 49 #[(0, (.const (.int .i64 2))), (2, (.tmp 11)), (3, (.tmp 12))]) 13 49 (.agg #[.i 2, .u 0, .u 0, .u 0, .u 0, .i (wr .i64 ((u0.length : Int) + 1)), .i x0]) (Fc.here trivial) ?_
  refine bind_some' h fun y3 e4 h => ?_
  refine Op_.call (kc 36 [5, 13] #[76, 49]) 14 3 36 #[(pt gx1 0), .agg #[.i 2, .u 0, .u 0, .u 0, .u 0, .i (wr .i64 ((u0.length : Int) + 1)), .i x0]] (AnyG.cs (i := 9) (by kernel_rfl) (by kernel_rfl)) (by kernel_rfl) (W.z35 u0 (⟨2, [0, 0, 0, 0], wr .i64 ((u0.length : Int) + 1), x0⟩ : T48) y3 e4 gx1 ug2 u0.length ug4 ug5 p2 (ui0.ext z2) rfl rfl) ?_
  rintro _ w3 ⟨S3, ugi, ugj, ugk, ugl, rfl, z3, p3, ugm, rfl⟩
  refine AnyG.last [] (Fc S3 w3 []) (by decide) ?_
  refine AnyG.pu 10 (.assign (.tmp 14)) 4 3 (.i y3.1) (Fc.here trivial) ?_
  refine AnyG.done (by kernel_rfl) ?_ _
  refine Goes.rn 1 [] Jrp ?_
  refine Goes.ld 76 (.tmp 1) 15 76 ax1 ((pt gx1 0)) ((ui2.ext (z2.trans z3)).cell 0 _ rfl) ?_
  refine Goes.ldN 28 (.tmp 2) 16 28 ax2 (.i x2.Kind :: U4 x2.Set [.slice ug6 x2.L.length ug8, .i x2.Min, .i x2.Max]) ((ui3.ext (z2.trans z3)).cell) ?_
  refine Goes.rn 1 [(17, .i y3.1)] Jrq ?_
  refine bind_some' h fun y6 e7 h => ?_
  refine Goes.cal (kc 35 [15, 16, 17] #[76, 28, 3]) 18 0 35 _ (ih_prog_writer_code (y3.2, x2, y3.1) y6 e7 gx1 ugi y3.2.length ugk ugl ug6 x2.L.length ug8 p3 ugm rfl ui8 (ui9.ext (z2.trans z3)) rfl) ?_
  rintro _ w4 ⟨S4, ugn, ugo, ugp, ugq, rfl, z4, p4, ugr, rfl⟩
  refine Goes.rn 1 [] [] ?_
  obtain rfl := Option.some.inj h
  exact Goes.end_ (fn := Tryd.f85) (by kernel_rfl) (v := .tuple #[]) (by kernel_rfl) ⟨S4, ugn, y6.length, ugp, ugq, rfl, ((((Ext.refl S0 w0).trans z2).trans z3).trans z4), p4, ugr, rfl⟩
 ·
  intro uh8 uh9 ⟨x1, x2, x9, x10, x11, ud6⟩ r h nz wz S0 w0 Lr iG gx0 S1 w1 hx Ax1 nx1 cx1 Ax9 nx9 cx9 ue4 ue5 ue6 ue7 p1 fx1 lx1 fx9 lx9 ugw ugx junk
  try dsimp only at h
  subst lx1
  subst lx9
  subst ugx
  refine Goes.rn 6 [(34, .i (wr .i64 (x11 + 1))), (11, .i (wr .i64 (x11 + 1)))] Jqk ?_
  exact Goes.jp 35 [(0, (pt gx0 0)), (1, .slice Ax1 x1.length cx1), (2, .i x2), (9, .slice Ax9 x9.length cx9), (10, .i x10), (11, .i (wr .i64 (x11 + 1)))] (uh9 _ _ h gx0 _ _ hx Ax1 x1.length cx1 Ax9 x9.length cx9 ue4 ud6.length ue6 ue7 p1 fx1 rfl fx9 rfl ugw rfl)
 ·
  intro rec_prog_writer_code ih_prog_writer_code ⟨x0, u0, x2⟩ r h nz wz S0 w0 Lr iG ax1 gx1 ug2 ug3 ug4 ug5 ax2 ug6 ug7 ug8 p0 ui0 ui1 ui2 ui8 ui9 uia ui3
  try dsimp only at h
  subst ui1
  subst uia
  refine calls_of_goes (fn := Tryd.f71) (c := B71) (by kernel_rfl) (by kernel_rfl) 5 (by kernel_rfl) ?_
  refine Goes.jp 8 [(0, .i x0), (1, .pointer (some ax1)), (2, .pointer (some ax2))] (fun junk => ?_)
  refine Goes.rn 1 [] Jrr ?_
  refine Goes.ld 76 (.tmp 1) 4 76 ax1 ((pt gx1 0)) (ui2.cell 0 _ rfl) ?_
  refine Goes.ldN 28 (.tmp 2) 5 28 ax2 (.i x2.Kind :: U4 x2.Set [.slice ug6 x2.L.length ug8, .i x2.Min, .i x2.Max]) (ui3.cell) ?_
  refine Goes.rn 1 [(6, .i x0)] Jrs ?_
  refine bind_some' h fun y3 e4 h => ?_
  refine Goes.cal (kc 35 [4, 5, 6] #[76, 28, 3]) 7 0 35 _ (ih_prog_writer_code (u0, x2, x0) y3 e4 gx1 ug2 u0.length ug4 ug5 ug6 x2.L.length ug8 p0 ui0 rfl ui8 ui9 rfl) ?_
  rintro _ w2 ⟨S2, uib, uic, uid, uie, rfl, z2, p2, uif, rfl⟩
  refine Goes.rn 1 [] [] ?_
  obtain rfl := Option.some.inj h
  exact Goes.end_ (fn := Tryd.f71) (by kernel_rfl) (v := .tuple #[]) (by kernel_rfl) ⟨S2, uib, y3.length, uid, uie, rfl, ((Ext.refl S0 w0).trans z2), p2, uif, rfl⟩
 ·
  intro rec_prog_writer_row ih_prog_writer_row ⟨x2, x6, ud6⟩ r h nz wz S0 w0 Lr iG gx0 S1 w1 hx Gx6 nx6 cx6 ug0 ue4 ue5 ue6 ue7 p1 fx6 lx6 ugw ugx junk
  try dsimp only at h
  subst lx6
  subst ugx
  refine Goes.rn 8 [(48, .slice (Gp Gx6) x6.length cx6), (49, .i (x6.length : Int)), (50, .bool (decide ((x6.length : Int) = 0)))] Jrt ?_
  refine ite_some h (fun h52 h => ?_) (fun h52 h => ?_)
  ·
   rw [decide_eq_true h52]
   refine Goes.rn 5 [(51, (pt gx0 0)), (52, .i x2), (53, .agg #[.i 4, .u 0, .u 0, .u 0, .u 0, .i x2, .i 0])] Jr7 ?_
   have p1 := (p1.fr 2).fr 2
   refine bind_some' h fun y53 e54 h => ?_
   refine Goes.cal (kc 36 [51, 53] #[76, 49]) 54 3 36 _ (W.z35 ud6 (⟨4, [0, 0, 0, 0], x2, 0⟩ : T48) y53 e54 gx0 ue4 ud6.length ue6 ue7 p1 ugw rfl rfl) ?_
   rintro _ w11 ⟨S11, uig, uih, uii, uij, rfl, z11, p11, uik, rfl⟩
   refine Goes.rn 5 [(55, (pt gx0 0)), (56, .slice (Gp Gx6) x6.length cx6), (57, .i x2)] Jr8 ?_
   obtain ⟨S12, z12, p12, f56⟩ := p11.freezeRd 2 rfl (fx6.ext z11) (show (0 : Nat) < 2 by decide)
   refine bind_some' h fun y57 e58 h => ?_
   refine Goes.cal (kc 56 [55, 56, 57] #[76, 95, 3]) 58 0 56 _ (ih_prog_writer_row (y53.2, x6, x2) y57 e58 gx0 uig y53.2.length uii uij (Gp Gx6) x6.length cx6 p12 (uik.ext z12) rfl f56 rfl) ?_
   rintro _ w13 ⟨S13, uil, uim, uin, uio, rfl, z13, p13, uip, rfl⟩
   have p13 := p13.dp 2
   refine Goes.rn 1 [] [] ?_
   obtain rfl := Option.some.inj h
   exact Goes.end_ (fn := Tryd.f35) (by kernel_rfl) (v := .tuple #[]) (by kernel_rfl) ⟨S13, uil, y57.length, uin, uio, rfl, (((hx.trans z11).trans z12).trans z13), p13, uip, rfl⟩
  ·
   rw [decide_eq_false h52]
   refine Goes.rn 6 [(55, (pt gx0 0)), (56, .slice (Gp Gx6) x6.length cx6), (57, .i x2)] Jr8 ?_
   obtain ⟨S14, z14, p14, f60⟩ := p1.freezeRd 0 rfl fx6 (show (0 : Nat) < 2 by decide)
   have p14 := (p14.fr 2).fr 2
   refine bind_some' h fun y61 e62 h => ?_
   refine Goes.cal (kc 56 [55, 56, 57] #[76, 95, 3]) 58 0 56 _ (ih_prog_writer_row (ud6, x6, x2) y61 e62 gx0 ue4 ud6.length ue6 ue7 (Gp Gx6) x6.length cx6 p14 (ugw.ext z14) rfl f60 rfl) ?_
   rintro _ w15 ⟨S15, uiq, uir, uis, uit, rfl, z15, p15, uiu, rfl⟩
   have p15 := p15.dp 2
   refine Goes.rn 1 [] [] ?_
   obtain rfl := Option.some.inj h
   exact Goes.end_ (fn := Tryd.f35) (by kernel_rfl) (v := .tuple #[]) (by kernel_rfl) ⟨S15, uiq, y61.length, uis, uit, rfl, ((hx.trans z14).trans z15), p15, uiu, rfl⟩
 ·
  intro ugc uiv ugf uiw ⟨x2, x29, x30, x31, ud6⟩ r h nz wz S0 w0 Lr iG gx0 S1 w1 hx ufx ufy ufz ue4 ue5 ue6 ue7 p1 uix uiy ugw ugx junk
  try dsimp only at h
  subst uiy
  subst ugx
  refine Goes.rn 5 [(32, .bool (decide (x31 < x30)))] Jrv ?_
  refine ite_some h (fun h22 h => ?_) (fun h22 h => ?_)
  ·
   rw [decide_eq_true h22]
   refine Goes.rn 6 [] Jrz ?_
   refine guard_some' h fun g23 h => ?_
   refine guard_some' h fun g24 h => ?_
   refine Op_.ixR_n 26 (.tmp 29) (.tmp 31) 33 0 28 .i64 x31 (gi x29 x31) rfl rfl uix Goes.v (by kernel_rfl) (by kernel_rfl) (by kernel_rfl) (by kernel_rfl) g23 g24 ?_
   intro a25 _ f26 q27
   have q28 := q27
   obtain ⟨_, _, rfl, rfl, ⟨_, _, rfl, ⟨l29, f30⟩, ⟨_, _, rfl, ⟨A31, c32, rfl, f33⟩, ⟨_, _, rfl, rfl, rfl⟩⟩⟩⟩ := kT27_open q28
   obtain rfl := els_lit4' f30 l29
   refine Goes.ldN 28 (.tmp 33) 34 28 a25 ([.i ((gi x29 x31).Kind)] ++ ((U4 ((gi x29 x31).Set) []) ++ ([.slice A31 (((gi x29 x31).L).length) c32] ++ ([.i ((gi x29 x31).Min)] ++ [.i ((gi x29 x31).Max)])))) (f26.cell) ?_
   refine Op_.alloc 28 8 0 (.agg #[.i 0, .u 0, .u 0, .u 0, .u 0, .slice none 0 0, .i 0, .i 0]) [.i 0, .u 0, .u 0, .u 0, .u 0, .slice none 0 0, .i 0, .i 0] p1 Goes.v (by kernel_rfl) (by kernel_rfl) ?_
   intro b34 w6 z6 p6
   refine Op_.st 28 (.tmp 8) (.tmp 34) 0 0 b34 0 (ag (.i ((gi x29 x31).Kind) :: U4 ((gi x29 x31).Set) [.slice A31 (((gi x29 x31).L).length) c32, .i ((gi x29 x31).Min), .i ((gi x29 x31).Max)])) (.i ((gi x29 x31).Kind) :: U4 ((gi x29 x31).Set) [.slice A31 (((gi x29 x31).L).length) c32, .i ((gi x29 x31).Min), .i ((gi x29 x31).Max)]) p6 rfl Goes.s (by kernel_rfl) (by kernel_rfl) (by kernel_rfl) (by kernel_rfl) (Nat.zero_le _) (by simp only [List.length_cons, List.length_nil]; omega) (by simp [Value.oneCell']) ?_
   intro w7 z7 p7
   have p7 : Hp nz wz S1 w7 ((some b34, .row 28 (.i ((gi x29 x31).Kind) :: U4 ((gi x29 x31).Set) [.slice A31 (((gi x29 x31).L).length) c32, .i ((gi x29 x31).Min), .i ((gi x29 x31).Max)]) 8 0) :: (some gx0, .row 78 [.slice (Gp ue4) ud6.length ue6] 1 0) :: (ue4, .row 49 ue7 (ue6 * kT48.size) 0) :: Lr) := p7
   refine Goes.rn 4 [(35, .slice none 0 0), (36, (pt gx0 0))] Js0 ?_
   refine Goes.ldN 28 (.tmp 8) 37 28 ⟨b34, 0, none⟩ (.i ((gi x29 x31).Kind) :: U4 ((gi x29 x31).Set) [.slice A31 (((gi x29 x31).L).length) c32, .i ((gi x29 x31).Min), .i ((gi x29 x31).Max)]) (p7.pa 0 0) ?_
   have p7 := (p7.fr 2).fr 2
   refine bind_some' h fun y36 e37 h => ?_
   refine Goes.cal (kc 54 [36, 37] #[76, 28]) 38 100 54 _ (W.z36 ud6 (⟨(gi x29 x31).Kind, ((gi x29 x31).Set), (gi x29 x31).L, (gi x29 x31).Min, (gi x29 x31).Max⟩ : T27) y36 e37 gx0 ue4 ud6.length ue6 ue7 A31 (((gi x29 x31).L).length) c32 p7 (ugw.ext (z6.trans z7)) rfl l29 (f33.ext (z6.trans z7)) rfl) ?_
   rintro _ w8 ⟨S8, ufr, rfl, z8, p8, ufs⟩
   have p8 := p8.dp 2
   have f39 : Els (kT99 gx0) S8 w8 ([.i y36.n, ufr] : List Value) [y36] := by exact (Els.cons (K := (kT99 gx0)) (vs := [.i y36.n, ufr]) (x := y36) ⟨[.i y36.n], [ufr], rfl, rfl, ufs⟩ Els.nil)
   refine Op_.made (.buildSlice 95 1 #[(0, (.tmp 38))]) 39 95 (fun b => .slice (Gp (some b)) 1 1) 100 ([.i y36.n, ufr] : List Value) p8 Goes.v (by kernel_rfl) ?_
   intro b38 w9 z9 p9
   have p9 : Hp nz wz S8 w9 (((some b38), .row 100 ([.i y36.n, ufr] : List Value) (1 * (kT99 gx0).size) 0) :: (some gx0, .row 78 [.slice (Gp ue4) ud6.length ue6] 1 0) :: (ue4, .row 49 ue7 (ue6 * kT48.size) 0) :: Lr) := p9
   have p9 : Hp nz wz S8 w9 ((none, .row 100 [] (0 * (kT99 gx0).size) 0) :: ((some b38), .row 100 ([.i y36.n, ufr] : List Value) (1 * (kT99 gx0).size) 0) :: (some gx0, .row 78 [.slice (Gp ue4) ud6.length ue6] 1 0) :: (ue4, .row 49 ue7 (ue6 * kT48.size) 0) :: Lr) := p9.nilRow' 100
   refine guard_some' h fun g45 h => ?_
   refine Op_.ap_n (K := (kT99 gx0)) 95 (.tmp 35) (.tmp 39) 40 95 100 0 (.agg #[.i 0, .nilFunc]) 16 0 0 1 ([] : List T99) [y36] [y36] (Gp (some b38)) 1 rfl rfl (List.nil_append _) p9 rfl (Els.nil (K := (kT99 gx0))) Goes.v (by kernel_rfl) (by kernel_rfl) (by kernel_rfl) (by kernel_rfl) rfl (show (0 : Nat) < 2 by decide) (f39.ext z9) (src_own p9 (q := 1) rfl) (by have := g45; omega) (by have := g45; omega) ?_
   intro w10 G46 c47 uiz z10 p10 f49
   refine Goes.rn 8 [(6, .slice (Gp G46) ([y36].length) c47), (41, .i (wr .i64 (x31 + 1))), (31, .i (wr .i64 (x31 + 1)))] Jqi ?_
   have p10 := p10.dp 1
   exact Goes.jp 59 [(0, (pt gx0 0)), (2, .i x2), (6, .slice (Gp G46) ([y36].length) c47), (29, .slice ufx x29.length ufz), (30, .i x30), (31, .i (wr .i64 (x31 + 1)))] (uiw _ _ h gx0 _ _ (((((hx.trans z6).trans z7).trans z8).trans z9).trans z10) G46 ([y36].length) c47 uiz ufx x29.length ufz ue4 ud6.length ue6 ue7 p10 f49 rfl (uix.ext ((((z6.trans z7).trans z8).trans z9).trans z10)) rfl (ugw.ext ((((z6.trans z7).trans z8).trans z9).trans z10)) rfl)
  ·
   rw [decide_eq_false h22]
   refine Goes.rn 2 [] Jqf ?_
   exact Goes.jp 59 [(0, (pt gx0 0)), (2, .i x2), (6, .slice none 0 0)] (ugf _ _ h gx0 _ _ hx ue4 ud6.length ue6 ue7 p1 ugw rfl)
 ·
  intro ugd uiv ugg uiw ⟨x2, x6, x29, x30, x31, ud6⟩ r h nz wz S0 w0 Lr iG gx0 S1 w1 hx Gx6 nx6 cx6 ug0 ufx ufy ufz ue4 ue5 ue6 ue7 p1 fx6 lx6 uix uiy ugw ugx junk
  try dsimp only at h
  subst lx6
  subst uiy
  subst ugx
  refine Goes.rn 5 [(32, .bool (decide (x31 < x30)))] Jrv ?_
  refine ite_some h (fun h70 h => ?_) (fun h70 h => ?_)
  ·
   rw [decide_eq_true h70]
   refine Goes.rn 6 [] Jrz ?_
   refine guard_some' h fun g71 h => ?_
   refine guard_some' h fun g72 h => ?_
   refine Op_.ixR_n 26 (.tmp 29) (.tmp 31) 33 0 28 .i64 x31 (gi x29 x31) rfl rfl uix Goes.v (by kernel_rfl) (by kernel_rfl) (by kernel_rfl) (by kernel_rfl) g71 g72 ?_
   intro a73 _ f74 q75
   have q76 := q75
   obtain ⟨_, _, rfl, rfl, ⟨_, _, rfl, ⟨l77, f78⟩, ⟨_, _, rfl, ⟨A79, c80, rfl, f81⟩, ⟨_, _, rfl, rfl, rfl⟩⟩⟩⟩ := kT27_open q76
   obtain rfl := els_lit4' f78 l77
   refine Goes.ldN 28 (.tmp 33) 34 28 a73 ([.i ((gi x29 x31).Kind)] ++ ((U4 ((gi x29 x31).Set) []) ++ ([.slice A79 (((gi x29 x31).L).length) c80] ++ ([.i ((gi x29 x31).Min)] ++ [.i ((gi x29 x31).Max)])))) (f74.cell) ?_
   refine Op_.alloc 28 8 0 (.agg #[.i 0, .u 0, .u 0, .u 0, .u 0, .slice none 0 0, .i 0, .i 0]) [.i 0, .u 0, .u 0, .u 0, .u 0, .slice none 0 0, .i 0, .i 0] p1 Goes.v (by kernel_rfl) (by kernel_rfl) ?_
   intro b82 w18 z18 p18
   refine Op_.st 28 (.tmp 8) (.tmp 34) 0 0 b82 0 (ag (.i ((gi x29 x31).Kind) :: U4 ((gi x29 x31).Set) [.slice A79 (((gi x29 x31).L).length) c80, .i ((gi x29 x31).Min), .i ((gi x29 x31).Max)])) (.i ((gi x29 x31).Kind) :: U4 ((gi x29 x31).Set) [.slice A79 (((gi x29 x31).L).length) c80, .i ((gi x29 x31).Min), .i ((gi x29 x31).Max)]) p18 rfl Goes.s (by kernel_rfl) (by kernel_rfl) (by kernel_rfl) (by kernel_rfl) (Nat.zero_le _) (by simp only [List.length_cons, List.length_nil]; omega) (by simp [Value.oneCell']) ?_
   intro w19 z19 p19
   have p19 : Hp nz wz S1 w19 ((some b82, .row 28 (.i ((gi x29 x31).Kind) :: U4 ((gi x29 x31).Set) [.slice A79 (((gi x29 x31).L).length) c80, .i ((gi x29 x31).Min), .i ((gi x29 x31).Max)]) 8 0) :: (Gx6, .row 100 ug0 (cx6 * (kT99 gx0).size) 0) :: (some gx0, .row 78 [.slice (Gp ue4) ud6.length ue6] 1 0) :: (ue4, .row 49 ue7 (ue6 * kT48.size) 0) :: Lr) := p19
   refine Goes.rn 4 [(35, .slice (Gp Gx6) x6.length cx6), (36, (pt gx0 0))] Js0 ?_
   refine Goes.ldN 28 (.tmp 8) 37 28 ⟨b82, 0, none⟩ (.i ((gi x29 x31).Kind) :: U4 ((gi x29 x31).Set) [.slice A79 (((gi x29 x31).L).length) c80, .i ((gi x29 x31).Min), .i ((gi x29 x31).Max)]) (p19.pa 0 0) ?_
   have p19 := (p19.fr 3).fr 3
   refine bind_some' h fun y84 e85 h => ?_
   refine Goes.cal (kc 54 [36, 37] #[76, 28]) 38 100 54 _ (W.z36 ud6 (⟨(gi x29 x31).Kind, ((gi x29 x31).Set), (gi x29 x31).L, (gi x29 x31).Min, (gi x29 x31).Max⟩ : T27) y84 e85 gx0 ue4 ud6.length ue6 ue7 A79 (((gi x29 x31).L).length) c80 p19 (ugw.ext (z18.trans z19)) rfl l77 (f81.ext (z18.trans z19)) rfl) ?_
   rintro _ w20 ⟨S20, uey, rfl, z20, p20, uez⟩
   have p20 := p20.dp 2
   have f87 : Els (kT99 gx0) S20 w20 ([.i y84.n, uey] : List Value) [y84] := by exact (Els.cons (K := (kT99 gx0)) (vs := [.i y84.n, uey]) (x := y84) ⟨[.i y84.n], [uey], rfl, rfl, uez⟩ Els.nil)
   refine Op_.made (.buildSlice 95 1 #[(0, (.tmp 38))]) 39 95 (fun b => .slice (Gp (some b)) 1 1) 100 ([.i y84.n, uey] : List Value) p20 Goes.v (by kernel_rfl) ?_
   intro b86 w21 z21 p21
   have p21 : Hp nz wz S20 w21 (((some b86), .row 100 ([.i y84.n, uey] : List Value) (1 * (kT99 gx0).size) 0) :: (some gx0, .row 78 [.slice (Gp ue4) ud6.length ue6] 1 0) :: (ue4, .row 49 ue7 (ue6 * kT48.size) 0) :: (Gx6, .row 100 ug0 (cx6 * (kT99 gx0).size) 0) :: Lr) := p21
   refine guard_some' h fun g92 h => ?_
   refine Op_.ap_n (K := (kT99 gx0)) 95 (.tmp 35) (.tmp 39) 40 95 100 3 (.agg #[.i 0, .nilFunc]) 16 x6.length cx6 1 x6 [y84] (x6 ++ [y84]) (Gp (some b86)) 1 rfl rfl rfl p21 rfl (fx6.ext (((z18.trans z19).trans z20).trans z21)) Goes.v (by kernel_rfl) (by kernel_rfl) (by kernel_rfl) (by kernel_rfl) rfl (show (0 : Nat) < 2 by decide) (f87.ext z21) (src_own p21 (q := 0) rfl) (by have := g92; omega) (by have := g92; omega) ?_
   intro w22 G93 c94 uj0 z22 p22 f96
   refine Goes.rn 8 [(6, .slice (Gp G93) ((x6 ++ [y84]).length) c94), (41, .i (wr .i64 (x31 + 1))), (31, .i (wr .i64 (x31 + 1)))] Jqi ?_
   have p22 := p22.dp 0
   have p22 := ((p22.fr 1).fr 1).fr 2
   exact Goes.jp 59 [(0, (pt gx0 0)), (2, .i x2), (6, .slice (Gp G93) ((x6 ++ [y84]).length) c94), (29, .slice ufx x29.length ufz), (30, .i x30), (31, .i (wr .i64 (x31 + 1)))] (uiw _ _ h gx0 _ _ (((((hx.trans z18).trans z19).trans z20).trans z21).trans z22) G93 ((x6 ++ [y84]).length) c94 uj0 ufx x29.length ufz ue4 ud6.length ue6 ue7 p22 f96 rfl (uix.ext ((((z18.trans z19).trans z20).trans z21).trans z22)) rfl (ugw.ext ((((z18.trans z19).trans z20).trans z21).trans z22)) rfl)
  ·
   rw [decide_eq_false h70]
   refine Goes.rn 2 [] Jqf ?_
   exact Goes.jp 59 [(0, (pt gx0 0)), (2, .i x2), (6, .slice (Gp Gx6) x6.length cx6)] (ugg _ _ h gx0 _ _ hx Gx6 x6.length cx6 ug0 ue4 ud6.length ue6 ue7 p1 fx6 rfl ugw rfl)
 ·
  intro uj1 uj2 ⟨ue8, x1, x2⟩ r h nz wz S0 w0 Lr iG gx0 ue9 uea ueb uec Ax1 nx1 cx1 p0 ued uee fx1 lx1
  try dsimp only at h
  subst uee
  subst lx1
  refine calls_of_goes (fn := Tryd.f53) (c := B53) (by kernel_rfl) (by kernel_rfl) 44 (by kernel_rfl) ?_
  refine Goes.jp 47 [(0, (pt gx0 0)), (1, .slice Ax1 x1.length cx1), (2, .i x2)] (fun junk => ?_)
  refine Goes.rn 9 [(9, .slice Ax1 x1.length cx1), (10, .i (x1.length : Int)), (11, .i 0)] Jqa ?_
  exact Goes.jp 47 [(0, (pt gx0 0)), (1, .slice Ax1 x1.length cx1), (2, .i x2), (9, .slice Ax1 x1.length cx1), (10, .i (x1.length : Int)), (11, .i 0)] (uj2 _ _ h gx0 _ _ (Ext.refl S0 w0) Ax1 x1.length cx1 Ax1 x1.length cx1 ue9 ue8.length ueb uec p0 fx1 rfl fx1 rfl ued rfl)
 ·
  intro uj3 uj4 ⟨x1, x2, x9, x10, x11, ud6⟩ r h nz wz S0 w0 Lr iG gx0 S1 w1 hx Ax1 nx1 cx1 Ax9 nx9 cx9 ue4 ue5 ue6 ue7 p1 fx1 lx1 fx9 lx9 ugw ugx junk
  try dsimp only at h
  subst lx1
  subst lx9
  subst ugx
  refine Goes.rn 5 [(12, .bool (decide (x11 < x10)))] Js2 ?_
  refine ite_some h (fun h4 h => ?_) (fun h4 h => ?_)
  ·
   rw [decide_eq_true h4]
   refine Goes.rn 7 [(13, .i x11)] Js4 ?_
   refine guard_some' h fun g5 h => ?_
   refine guard_some' h fun g6 h => ?_
   refine Op_.ixR_n 26 (.tmp 9) (.tmp 11) 14 0 28 .i64 x11 (gi x9 x11) rfl rfl fx9 Goes.v (by kernel_rfl) (by kernel_rfl) (by kernel_rfl) (by kernel_rfl) g5 g6 ?_
   intro a7 _ f8 q9
   have q10 := q9
   obtain ⟨_, _, rfl, rfl, ⟨_, _, rfl, ⟨l11, f12⟩, ⟨_, _, rfl, ⟨A13, c14, rfl, f15⟩, ⟨_, _, rfl, rfl, rfl⟩⟩⟩⟩ := kT27_open q10
   obtain rfl := els_lit4' f12 l11
   refine Goes.ldN 28 (.tmp 14) 15 28 a7 ([.i ((gi x9 x11).Kind)] ++ ((U4 ((gi x9 x11).Set) []) ++ ([.slice A13 (((gi x9 x11).L).length) c14] ++ ([.i ((gi x9 x11).Min)] ++ [.i ((gi x9 x11).Max)])))) (f8.cell) ?_
   refine Op_.alloc 28 7 0 (.agg #[.i 0, .u 0, .u 0, .u 0, .u 0, .slice none 0 0, .i 0, .i 0]) [.i 0, .u 0, .u 0, .u 0, .u 0, .slice none 0 0, .i 0, .i 0] p1 Goes.v (by kernel_rfl) (by kernel_rfl) ?_
   intro b16 w2 z2 p2
   refine Goes.rn 1 [(6, .i x11)] Js5 ?_
   refine Op_.st 28 (.tmp 7) (.tmp 15) 0 0 b16 0 (ag (.i ((gi x9 x11).Kind) :: U4 ((gi x9 x11).Set) [.slice A13 (((gi x9 x11).L).length) c14, .i ((gi x9 x11).Min), .i ((gi x9 x11).Max)])) (.i ((gi x9 x11).Kind) :: U4 ((gi x9 x11).Set) [.slice A13 (((gi x9 x11).L).length) c14, .i ((gi x9 x11).Min), .i ((gi x9 x11).Max)]) p2 rfl Goes.s (by kernel_rfl) (by kernel_rfl) (by kernel_rfl) (by kernel_rfl) (Nat.zero_le _) (by simp only [List.length_cons, List.length_nil]; omega) (by simp [Value.oneCell']) ?_
   intro w3 z3 p3
   have p3 : Hp nz wz S1 w3 ((some b16, .row 28 (.i ((gi x9 x11).Kind) :: U4 ((gi x9 x11).Set) [.slice A13 (((gi x9 x11).L).length) c14, .i ((gi x9 x11).Min), .i ((gi x9 x11).Max)]) 8 0) :: (some gx0, .row 78 [.slice (Gp ue4) ud6.length ue6] 1 0) :: (ue4, .row 49 ue7 (ue6 * kT48.size) 0) :: Lr) := p3
   refine Goes.rn 10 [(16, .i x11), (17, .slice Ax1 x1.length cx1), (18, .i (x1.length : Int)), (19, .i (wr .i64 ((x1.length : Int) - 1))), (20, .bool (decide (x11 < wr .i64 ((x1.length : Int) - 1))))] Js6 ?_
   refine ite_some h (fun h18 h => ?_) (fun h18 h => ?_)
   ·
    rw [decide_eq_true h18]
    refine Goes.rn 6 [(21, (pt gx0 0)), (22, (pt gx0 0)), (23, (pt gx0 0))] Js8 ?_
    refine Goes.ld 37 (.tmp 23) 24 37 ⟨gx0, 0, none⟩ (.slice (Gp ue4) ud6.length ue6) (p3.c 1 0) ?_
    refine Goes.rn 8 [(25, .i (ud6.length : Int)), (26, .i (wr .i64 ((ud6.length : Int) + 1))), (8, .i (wr .i64 ((ud6.length : Int) + 1))), (27, (pt gx0 0)), (28, .i (wr .i64 ((ud6.length : Int) + 1))), (29, .i (wr .i64 ((ud6.length : Int) + 1)))] Js9 ?_
    refine Goes.ldN 28 (.tmp 7) 30 28 ⟨b16, 0, none⟩ (.i ((gi x9 x11).Kind) :: U4 ((gi x9 x11).Set) [.slice A13 (((gi x9 x11).L).length) c14, .i ((gi x9 x11).Min), .i ((gi x9 x11).Max)]) (p3.pa 0 0) ?_
    refine bind_some' h fun y19 e20 h => ?_
    refine Goes.cal (kc 38 [30] #[28]) 31 3 38 _ (W.z31 (⟨(gi x9 x11).Kind, ((gi x9 x11).Set), (gi x9 x11).L, (gi x9 x11).Min, (gi x9 x11).Max⟩ : T27) y19 e20 A13 (((gi x9 x11).L).length) c14 p3 l11 (f15.ext (z2.trans z3)) rfl) ?_
    rintro _ w4 ⟨S4, rfl, z4, p4⟩
    refine Goes.rn 2 [(32, .i (wr .i64 ((wr .i64 ((ud6.length : Int) + 1)) + y19))), (33, .agg #[.i 2, .u 0, .u 0, .u 0, .u 0, .i (wr .i64 ((ud6.length : Int) + 1)), .i (wr .i64 ((wr .i64 ((ud6.length : Int) + 1)) + y19))])] Jsa ?_
    have p4 := (p4.fr 2).fr 2
    refine bind_some' h fun y21 e22 h => ?_
    refine Goes.cal (kc 36 [27, 33] #[76, 49]) 34 3 36 _ (W.z35 ud6 (⟨2, [0, 0, 0, 0], wr .i64 ((ud6.length : Int) + 1), wr .i64 ((wr .i64 ((ud6.length : Int) + 1)) + y19)⟩ : T48) y21 e22 gx0 ue4 ud6.length ue6 ue7 p4 (ugw.ext ((z2.trans z3).trans z4)) rfl rfl) ?_
    rintro _ w5 ⟨S5, uhl, uhm, uhn, uho, rfl, z5, p5, uhp, rfl⟩
    refine Goes.rn 1 [] Jqd ?_
    have p5 := ((p5.fr 1).fr 1).fr 2
    exact Goes.jp 47 [(0, (pt gx0 0)), (1, .slice Ax1 x1.length cx1), (2, .i x2), (7, (pt b16 0)), (9, .slice Ax9 x9.length cx9), (10, .i x10), (11, .i x11)] (uj4 _ _ h gx0 _ _ ((((hx.trans z2).trans z3).trans z4).trans z5) Ax1 x1.length cx1 b16 A13 (((gi x9 x11).L).length) c14 Ax9 x9.length cx9 uhl y21.2.length uhn uho p5 (fx1.ext (((z2.trans z3).trans z4).trans z5)) rfl l11 (f15.ext (((z2.trans z3).trans z4).trans z5)) rfl (fx9.ext (((z2.trans z3).trans z4).trans z5)) rfl uhp rfl)
   ·
    rw [decide_eq_false h18]
    refine Goes.rn 2 [] Jqd ?_
    exact Goes.jp 47 [(0, (pt gx0 0)), (1, .slice Ax1 x1.length cx1), (2, .i x2), (7, (pt b16 0)), (9, .slice Ax9 x9.length cx9), (10, .i x10), (11, .i x11)] (uj4 _ _ h gx0 _ _ ((hx.trans z2).trans z3) Ax1 x1.length cx1 b16 A13 (((gi x9 x11).L).length) c14 Ax9 x9.length cx9 ue4 ud6.length ue6 ue7 p3 (fx1.ext (z2.trans z3)) rfl l11 (f15.ext (z2.trans z3)) rfl (fx9.ext (z2.trans z3)) rfl (ugw.ext (z2.trans z3)) rfl)
  ·
   rw [decide_eq_false h4]
   refine Goes.rn 8 [(40, .slice Ax1 x1.length cx1), (41, .i (x1.length : Int)), (42, .bool (decide ((x1.length : Int) = 0)))] Jsb ?_
   refine ite_some h (fun h26 h => ?_) (fun h26 h => ?_)
   ·
    rw [decide_eq_true h26]
    refine Goes.rn 5 [(43, (pt gx0 0)), (44, .i x2), (45, .agg #[.i 1, .u 0, .u 0, .u 0, .u 0, .i x2, .i 0])] Jsc ?_
    refine bind_some' h fun y27 e28 h => ?_
    refine Goes.cal (kc 36 [43, 45] #[76, 49]) 46 3 36 _ (W.z35 ud6 (⟨1, [0, 0, 0, 0], x2, 0⟩ : T48) y27 e28 gx0 ue4 ud6.length ue6 ue7 p1 ugw rfl rfl) ?_
    rintro _ w6 ⟨S6, uhq, uhr, uhs, uht, rfl, z6, p6, uhu, rfl⟩
    refine Goes.rn 1 [] [] ?_
    obtain rfl := Option.some.inj h
    exact Goes.end_ (fn := Tryd.f53) (by kernel_rfl) (v := .tuple #[]) (by kernel_rfl) ⟨S6, uhq, y27.2.length, uhs, uht, rfl, (hx.trans z6), p6, uhu, rfl⟩
   ·
    rw [decide_eq_false h26]
    refine Goes.rn 2 [] [] ?_
    obtain rfl := Option.some.inj h
    exact Goes.end_ (fn := Tryd.f53) (by kernel_rfl) (v := .tuple #[]) (by kernel_rfl) ⟨S1, ue4, ud6.length, ue6, ue7, rfl, hx, p1, ugw, rfl⟩
 ·
  intro rec_prog_writer_code uj1 ih_prog_writer_code uj2 ⟨x1, x2, x7v, x9, x10, x11, ud6⟩ r h nz wz S0 w0 Lr iG gx0 S1 w1 hx Ax1 nx1 cx1 gx7 ufu ufv ufw Ax9 nx9 cx9 ue4 ue5 ue6 ue7 p1 fx1 lx1 uj5 uj6 uj7 fx9 lx9 ugw ugx junk
  try dsimp only at h
  subst lx1
  subst uj7
  subst lx9
  subst ugx
  refine Goes.rn 2 [(35, (pt gx0 0))] Jsd ?_
  refine Goes.ldN 28 (.tmp 7) 36 28 ⟨gx7, 0, none⟩ (.i x7v.Kind :: U4 x7v.Set [.slice ufu x7v.L.length ufw, .i x7v.Min, .i x7v.Max]) (p1.pa 0 0) ?_
  refine Goes.rn 1 [(37, .i x2)] Jse ?_
  have p1 := (p1.fr 2).fr 2
  refine bind_some' h fun y30 e31 h => ?_
  refine Goes.cal (kc 35 [35, 36, 37] #[76, 28, 3]) 38 0 35 _ (ih_prog_writer_code (ud6, x7v, x2) y30 e31 gx0 ue4 ud6.length ue6 ue7 ufu x7v.L.length ufw p1 ugw rfl uj5 uj6 rfl) ?_
  rintro _ w7 ⟨S7, uhv, uhw, uhx, uhy, rfl, z7, p7, uhz, rfl⟩
  have p7 := p7.dp 2
  refine Goes.rn 7 [(39, .i (wr .i64 (x11 + 1))), (11, .i (wr .i64 (x11 + 1)))] Jqa ?_
  exact Goes.jp 47 [(0, (pt gx0 0)), (1, .slice Ax1 x1.length cx1), (2, .i x2), (9, .slice Ax9 x9.length cx9), (10, .i x10), (11, .i (wr .i64 (x11 + 1)))] (uj2 _ _ h gx0 _ _ (hx.trans z7) Ax1 x1.length cx1 Ax9 x9.length cx9 uhv y30.length uhx uhy p7 (fx1.ext z7) rfl (fx9.ext z7) rfl uhz rfl)

theorem W.z3e : ∀ a r, M.prog_writer_code a = some r → LF.z3e a r := (W.z3t).1

theorem W.z3s : ∀ a r, M.prog_writer_code_l2 a = some r → LL.z3s a r := (W.z3t).2.1

theorem W.z3g : ∀ a r, M.prog_writer_row a = some r → LF.z3g a r := (W.z3t).2.2.1

theorem W.z3p : ∀ a r, M.prog_writer_row_l0 a = some r → LL.z3p a r := (W.z3t).2.2.2.1

theorem W.z3q : ∀ a r, M.prog_writer_row_l1 a = some r → LL.z3q a r := (W.z3t).2.2.2.2.1

theorem W.z3j : ∀ a r, M.prog_writer_perhaps_1 a = some r → LF.z3j a r := (W.z3t).2.2.2.2.2.1

theorem W.z3i : ∀ a r, M.prog_writer_loop_1 a = some r → LF.z3i a r := (W.z3t).2.2.2.2.2.2.1

theorem W.z3r : ∀ a r, M.prog_writer_row_l2 a = some r → LL.z3r a r := (W.z3t).2.2.2.2.2.2.2.1

theorem W.z3h : ∀ a r, M.prog_writer_of_1 a = some r → LF.z3h a r := (W.z3t).2.2.2.2.2.2.2.2.1

theorem W.z3o : ∀ a r, M.prog_writer_code_l1 a = some r → LL.z3o a r := (W.z3t).2.2.2.2.2.2.2.2.2.1

theorem W.z3m : ∀ a r, M.prog_writer_code_l0 a = some r → LL.z3m a r := (W.z3t).2.2.2.2.2.2.2.2.2.2.1

theorem W.z3n : ∀ a r, M.prog_writer_code_l3 a = some r → LL.z3n a r := (W.z3t).2.2.2.2.2.2.2.2.2.2.2.1

theorem W.z3f : ∀ a r, M.prog_writer_any a = some r → LF.z3f a r := (W.z3t).2.2.2.2.2.2.2.2.2.2.2.2.1

theorem W.z3k : ∀ a r, M.prog_writer_any_l0 a = some r → LL.z3k a r := (W.z3t).2.2.2.2.2.2.2.2.2.2.2.2.2.1

theorem W.z3l : ∀ a r, M.prog_writer_any_l1 a = some r → LL.z3l a r := (W.z3t).2.2.2.2.2.2.2.2.2.2.2.2.2.2

def Qm1 := sub [1] B15
def Jsf : List Item := [.code Qm1]
def Qm2 := sub [0] B15
def Jsg : List Item := .inRegion (opsOf Qm2) [0, 1, 2] :: Jsf
def Qm3 := sub [1, 1] B15
def Jsh : List Item := [.code Qm3]
def Qm4 := sub [1, 0] B15
def Jsi : List Item := .inRegion (opsOf Qm4) [0, 1, 2, 3, 4, 5, 6] :: Jsh
def Qm5 := sub [1, 1, 1] B15
def Jsj : List Item := [.code Qm5]
def Jsk : List Item := .inBlock 0 :: Jsj
def Qm6 := sub [1, 1, 0, 0, 1] B15
def Jsl : List Item := .code Qm6 :: Jsk
def Qm7 := sub [1, 1, 0, 0, 1, 1, 1] B15
def Jsm : List Item := .code Qm7 :: Jsk
def Qm8 := sub [1, 1, 0, 0, 1, 1, 1, 0, 1] B15
def Jsn : List Item := .code Qm8 :: Jsk
def Qm9 := sub [1, 1, 1, 1] B15
def Jso : List Item := [.code Qm9]
def Qma := sub [1, 1, 1, 0] B15
def Jsp : List Item := .inRegion (opsOf Qma) [1, 2] :: Jso
def Qmb := sub [1, 1, 1, 1, 1] B15
def Jsq : List Item := [.code Qmb]
def Qmc := sub [1, 1, 1, 1, 0] B15
def Jsr : List Item := .inRegion (opsOf Qmc) [1, 2, 3, 4] :: Jsq
def Jss : List Item := .inRegion (opsOf Qmc) [4] :: Jsq
def Qmd := sub [1, 1, 1, 1, 1, 1] B15
def Jst : List Item := [.code Qmd]
def Qme := sub [1, 1, 1, 1, 1, 0] B15
def Jsu : List Item := .inRegion (opsOf Qme) [2] :: Jst
def Qmf := sub [1, 1, 1, 1, 1, 1, 1] B15
def Jsv : List Item := [.code Qmf]
def Qmg := sub [1, 1, 1, 1, 1, 1, 0] B15
def Jsw : List Item := .inRegion (opsOf Qmg) [3, 4, 5, 6] :: Jsv
def Qmh := sub [1, 1, 0, 0, 1, 0, 1] B15
def Jsx : List Item := .code Qmh :: Jsk

def Post.z3u (r : (List T48) × Int) (v : Value) (w' : World) : Prop :=
 ∃ S' uj8 uj9 uja ujb, v = .tuple #[.slice (Gp uj8) uj9 uja, .i r.2] ∧ Ext S0 w0 S' w' ∧ Hp nz wz S' w' ((uj8, .row 49 ujb (uja * kT48.size) 0) :: Lr) ∧ Els kT48 S' w' ujb r.1 ∧ r.1.length = uj9

theorem W.z3u (x0 : T27) (r : (List T48) × Int) (h : M.prog_Make x0 = some r) {nz wz S0 w0 Lr} [Gw nz wz] (ud3 ud4 ud5) (p0 : Hp nz wz S0 w0 (Lr)) (u1 : x0.Set.length = 4) (udf : Rd kT27 S0 w0 ud3 ud5 x0.L) (udg : x0.L.length = ud4) :
  Calls Tryd.prog 15 #[(ag (.i x0.Kind :: U4 x0.Set [.slice ud3 ud4 ud5, .i x0.Min, .i x0.Max]))] w0 (Rets (Post.z3u nz wz S0 w0 Lr r)) := by
 subst udg
 refine calls_of_goes (fn := Tryd.f15) (c := B15) (by kernel_rfl) (by kernel_rfl) 33 (by kernel_rfl) ?_
 refine Goes.jp 34 [(0, (ag (.i x0.Kind :: U4 x0.Set [.slice ud3 x0.L.length ud5, .i x0.Min, .i x0.Max])))] (fun junk => ?_)
 delta M.prog_Make at h
 refine Goes.rn 2 [] Jsg ?_
 refine Op_.box 28 (.tmp 0) 1 0 (ag (.i x0.Kind :: U4 x0.Set [.slice ud3 x0.L.length ud5, .i x0.Min, .i x0.Max])) (.i x0.Kind :: U4 x0.Set [.slice ud3 x0.L.length ud5, .i x0.Min, .i x0.Max]) p0 Goes.v (by kernel_rfl) (by kernel_rfl) ?_
 intro b1 w2 z2 p2
 refine Goes.rn 5 [(2, .slice none 0 0), (3, .i 0)] Jsi ?_
 refine Goes.ldN 28 (.tmp 1) 8 28 ⟨b1, 0, none⟩ (.i x0.Kind :: U4 x0.Set [.slice ud3 x0.L.length ud5, .i x0.Min, .i x0.Max]) (p2.pa 0 0) ?_
 refine bind_some' h fun y3 e4 h => ?_
 refine Goes.cal (kc 17 [8] #[28]) 9 40 17 _ (W.z34 x0 y3 e4 ud3 x0.L.length ud5 p2 u1 (udf.ext z2) rfl) ?_
 rintro _ w3 ⟨S3, rfl, z3, p3⟩
 refine Goes.rn 14 [(7, .tuple #[.i y3.1, .i y3.2]), (10, .i y3.1), (11, .i y3.2), (4, .i y3.1), (5, .i y3.2), (13, .i y3.2), (14, .bool (!(decide (y3.2 = 0)))), (12, .bool (!(decide (y3.2 = 0))))] Jsl ?_
 refine ite_some h (fun h5 h => ?_) (fun h5 h => ?_)
 ·
  rw [decide_eq_true h5]
  refine Goes.rn 7 [(17, .i y3.1), (18, .bool (decide (y3.1 > 2048))), (16, .bool (decide (y3.1 > 2048)))] Jsm ?_
  refine ite_some h (fun h6 h => ?_) (fun h6 h => ?_)
  ·
   rw [decide_eq_true h6]
   refine Goes.rn 6 [(2, .slice none 0 0), (3, .i 110)] Jsn ?_
   have p3 : Hp nz wz S3 w3 ((none, .row 49 [] (0 * kT48.size) 0) :: (some b1, .row 28 (.i x0.Kind :: U4 x0.Set [.slice ud3 x0.L.length ud5, .i x0.Min, .i x0.Max]) 8 0) :: Lr) := p3.nilRow' 49
   obtain rfl := Option.some.inj h
   have p3 := p3.dp 1
   exact Goes.rt Tryd.f15 (.tuple #[.slice (Gp none) 0 0, .i 110]) ⟨S3, none, 0, 0, [], rfl, (((Ext.refl S0 w0).trans z2).trans z3), p3, (Els.nil (K := kT48)), rfl⟩
  ·
   rw [decide_eq_false h6]
   refine Goes.rn 6 [(19, .agg #[.slice none 0 0])] Jsp ?_
   refine Op_.box 78 (.tmp 19) 20 76 (.agg #[.slice none 0 0]) [.slice none 0 0] p3 Goes.v (by kernel_rfl) (by kernel_rfl) ?_
   intro b8 w4 z4 p4
   refine Goes.rn 5 [(6, (pt b8 0)), (21, (pt b8 0))] Jsr ?_
   refine Goes.ldN 28 (.tmp 1) 22 28 ⟨b1, 0, none⟩ (.i x0.Kind :: U4 x0.Set [.slice ud3 x0.L.length ud5, .i x0.Min, .i x0.Max]) (p4.pa 1 0) ?_
   refine Goes.rn 2 [(23, .i y3.1), (24, .i (wr .i64 (y3.1 - 1)))] Jss ?_
   have p4 : Hp nz wz S3 w4 ((none, .row 49 [] (0 * kT48.size) 0) :: (some b8, .row 78 [.slice none 0 0] 1 0) :: (some b1, .row 28 (.i x0.Kind :: U4 x0.Set [.slice ud3 x0.L.length ud5, .i x0.Min, .i x0.Max]) 8 0) :: Lr) := p4.nilRow' 49
   have p4 := (p4.fr 0).fr 1
   refine bind_some' h fun y11 e12 h => ?_
   refine Goes.cal (kc 35 [21, 22, 24] #[76, 28, 3]) 25 0 35 _ (W.z3e (([] : List T48), x0, wr .i64 (y3.1 - 1)) y11 e12 b8 none 0 0 [] ud3 x0.L.length ud5 p4 (Els.nil (K := kT48)) rfl u1 (udf.ext ((z2.trans z3).trans z4)) rfl) ?_
   rintro _ w5 ⟨S5, uhl, uhm, uhn, uho, rfl, z5, p5, uhp, rfl⟩
   have p5 := p5.dp 2
   refine Goes.rn 5 [(26, (pt b8 0)), (27, .agg #[.i 3, .u 0, .u 0, .u 0, .u 0, .i 0, .i 0])] Jsu ?_
   refine bind_some' h fun y14 e15 h => ?_
   refine Goes.cal (kc 36 [26, 27] #[76, 49]) 28 3 36 _ (W.z35 y11 (⟨3, [0, 0, 0, 0], 0, 0⟩ : T48) y14 e15 b8 uhl y11.length uhn uho p5 uhp rfl rfl) ?_
   rintro _ w6 ⟨S6, uhq, uhr, uhs, uht, rfl, z6, p6, uhu, rfl⟩
   refine Goes.rn 6 [(29, (pt b8 0)), (30, (pt b8 0)), (31, (pt b8 0))] Jsw ?_
   refine Goes.ld 37 (.tmp 31) 32 37 ⟨b8, 0, none⟩ (.slice (Gp uhq) y14.2.length uhs) (p6.c 0 0) ?_
   refine Goes.rn 4 [(33, .i y3.2), (2, .slice (Gp uhq) y14.2.length uhs), (3, .i y3.2)] Jsv ?_
   obtain rfl := Option.some.inj h
   have p6 := p6.dp 0
   exact Goes.rt Tryd.f15 (.tuple #[.slice (Gp uhq) y14.2.length uhs, .i y3.2]) ⟨S6, uhq, y14.2.length, uhs, uht, rfl, ((((((Ext.refl S0 w0).trans z2).trans z3).trans z4).trans z5).trans z6), p6, uhu, rfl⟩
 ·
  rw [decide_eq_false h5]
  refine Goes.rn 7 [(15, .i y3.2), (2, .slice none 0 0), (3, .i y3.2)] Jsx ?_
  have p3 : Hp nz wz S3 w3 ((none, .row 49 [] (0 * kT48.size) 0) :: (some b1, .row 28 (.i x0.Kind :: U4 x0.Set [.slice ud3 x0.L.length ud5, .i x0.Min, .i x0.Max]) 8 0) :: Lr) := p3.nilRow' 49
  obtain rfl := Option.some.inj h
  have p3 := p3.dp 1
  exact Goes.rt Tryd.f15 (.tuple #[.slice (Gp none) 0 0, .i y3.2]) ⟨S3, none, 0, 0, [], rfl, (((Ext.refl S0 w0).trans z2).trans z3), p3, (Els.nil (K := kT48)), rfl⟩

def Qmi := sub [1, 1] B20
def Jsy : List Item := [.code Qmi]
def Qmj := sub [1, 0] B20
def Jsz : List Item := .inRegion (opsOf Qmj) [0, 1, 2, 3, 4, 5, 6, 7, 8] :: Jsy
def Jt0 : List Item := .inRegion (opsOf Qmj) [5, 6, 7, 8] :: Jsy
def Qmk := sub [1, 1, 1] B20
def Jt1 : List Item := [.code Qmk]
def Qml := sub [1, 1, 0] B20
def Jt2 : List Item := .inRegion (opsOf Qml) [0, 1, 2, 3, 4, 5, 6, 7, 8] :: Jt1
def Jt3 : List Item := .inRegion (opsOf Qml) [5, 6, 7, 8] :: Jt1
def Qmm := sub [1, 1, 1, 1] B20
def Jt4 : List Item := [.code Qmm]
def Qmn := sub [1, 1, 1, 0] B20
def Jt5 : List Item := .inRegion (opsOf Qmn) [0, 1, 2, 3, 4, 5, 6] :: Jt4
def Qmo := sub [1, 1, 1, 1, 1] B20
def Jt6 : List Item := [.code Qmo]
def Qmp := sub [1, 1, 1, 1, 0] B20
def Jt7 : List Item := .inRegion (opsOf Qmp) [0, 1, 2, 3, 4, 5, 6] :: Jt6
def Qmq := sub [1, 1, 1, 1, 1, 1] B20
def Jt8 : List Item := [.code Qmq]
def Qmr := sub [1, 1, 1, 1, 1, 0] B20
def Jt9 : List Item := .inRegion (opsOf Qmr) [1, 2, 3, 4, 5, 6] :: Jt8
def Qms := sub [1, 1, 1, 1, 1, 1, 1] B20
def Jta : List Item := [.code Qms]
def Qmt := sub [1, 1, 1, 1, 1, 1, 0] B20
def Jtb : List Item := .inRegion (opsOf Qmt) [1, 2, 3, 4, 5, 6] :: Jta
def Qmu := sub [1, 1, 1, 1, 1, 1, 1, 1] B20
def Jtc : List Item := [.code Qmu]
def Qmv := sub [1, 1, 1, 1, 1, 1, 1, 0] B20
def Jtd : List Item := .inRegion (opsOf Qmv) [3, 4, 5, 6, 7, 8, 9, 10, 11, 12, 13, 14] :: Jtc
def Jte : List Item := .inRegion (opsOf Qmv) [7, 8, 9, 10, 11, 12, 13, 14] :: Jtc
def Jtf : List Item := .inRegion (opsOf Qmv) [11, 12, 13, 14] :: Jtc

def Post.z3v (r : Bool) (v : Value) (w' : World) : Prop :=
 ∃ S', v = .bool r ∧ Ext S0 w0 S' w' ∧ Hp nz wz S' w' (Lr)

theorem W.z3v (r : Bool) (h : M.tidepolelaw11_works = some r) {nz wz S0 w0 Lr} [Gw nz wz] (p0 : Hp nz wz S0 w0 (Lr)) :
  Calls Tryd.prog 20 #[] w0 (Rets (Post.z3v nz wz S0 w0 Lr r)) := by
 refine calls_of_goes (fn := Tryd.f20) (c := B20) (by kernel_rfl) (by kernel_rfl) 59 (by kernel_rfl) ?_
 refine Goes.jp 59 [] (fun junk => ?_)
 delta M.tidepolelaw11_works at h
 refine Goes.rn 6 [(0, .bool false)] Jsz ?_
 refine bind_some' h fun y1 e2 h => ?_
 refine Goes.cal (.call { callee := .value (.func 11), args := #[(.const (.string ⟨#[97, 124, 98]⟩))], argTypes := #[9] }) 16 30 11 _ (W.z2j (⟨#[97, 124, 98]⟩ : ByteArray) y1 e2  p0 ) ?_
 rintro _ w2 ⟨S2, ujc, ujd, uje, rfl, z2, p2, ujf, ujg, rfl⟩
 refine Goes.rn 4 [(15, .tuple #[(ag (.i y1.1.Kind :: U4 y1.1.Set [.slice ujc y1.1.L.length uje, .i y1.1.Min, .i y1.1.Max])), .i y1.2.1, .i y1.2.2]), (17, (ag (.i y1.1.Kind :: U4 y1.1.Set [.slice ujc y1.1.L.length uje, .i y1.1.Min, .i y1.1.Max]))), (18, .i y1.2.1), (19, .i y1.2.2)] Jt0 ?_
 refine Op_.alloc 28 1 0 (.agg #[.i 0, .u 0, .u 0, .u 0, .u 0, .slice none 0 0, .i 0, .i 0]) [.i 0, .u 0, .u 0, .u 0, .u 0, .slice none 0 0, .i 0, .i 0] p2 Goes.v (by kernel_rfl) (by kernel_rfl) ?_
 intro b3 w3 z3 p3
 refine Op_.st 28 (.tmp 1) (.tmp 17) 0 0 b3 0 (ag (.i y1.1.Kind :: U4 y1.1.Set [.slice ujc y1.1.L.length uje, .i y1.1.Min, .i y1.1.Max])) (.i y1.1.Kind :: U4 y1.1.Set [.slice ujc y1.1.L.length uje, .i y1.1.Min, .i y1.1.Max]) p3 rfl Goes.s (by kernel_rfl) (by kernel_rfl) (by kernel_rfl) (by kernel_rfl) (Nat.zero_le _) (by simp only [List.length_cons, List.length_nil]; omega) (by simp [Value.oneCell']) ?_
 intro w4 z4 p4
 have p4 : Hp nz wz S2 w4 ((some b3, .row 28 (.i y1.1.Kind :: U4 y1.1.Set [.slice ujc y1.1.L.length uje, .i y1.1.Min, .i y1.1.Max]) 8 0) :: Lr) := p4
 refine Goes.rn 5 [(2, .i y1.2.1), (3, .i y1.2.2)] Jt2 ?_
 refine bind_some' h fun y5 e6 h => ?_
 refine Goes.cal (.call { callee := .value (.func 11), args := #[(.const (.string ⟨#[97, 42]⟩))], argTypes := #[9] }) 21 30 11 _ (W.z2j (⟨#[97, 42]⟩ : ByteArray) y5 e6  p4 ) ?_
 rintro _ w5 ⟨S5, ujh, uji, ujj, rfl, z5, p5, ujk, ujl, rfl⟩
 refine Goes.rn 4 [(20, .tuple #[(ag (.i y5.1.Kind :: U4 y5.1.Set [.slice ujh y5.1.L.length ujj, .i y5.1.Min, .i y5.1.Max])), .i y5.2.1, .i y5.2.2]), (22, (ag (.i y5.1.Kind :: U4 y5.1.Set [.slice ujh y5.1.L.length ujj, .i y5.1.Min, .i y5.1.Max]))), (23, .i y5.2.1), (24, .i y5.2.2)] Jt3 ?_
 refine Op_.alloc 28 4 0 (.agg #[.i 0, .u 0, .u 0, .u 0, .u 0, .slice none 0 0, .i 0, .i 0]) [.i 0, .u 0, .u 0, .u 0, .u 0, .slice none 0 0, .i 0, .i 0] p5 Goes.v (by kernel_rfl) (by kernel_rfl) ?_
 intro b7 w6 z6 p6
 refine Op_.st 28 (.tmp 4) (.tmp 22) 0 0 b7 0 (ag (.i y5.1.Kind :: U4 y5.1.Set [.slice ujh y5.1.L.length ujj, .i y5.1.Min, .i y5.1.Max])) (.i y5.1.Kind :: U4 y5.1.Set [.slice ujh y5.1.L.length ujj, .i y5.1.Min, .i y5.1.Max]) p6 rfl Goes.s (by kernel_rfl) (by kernel_rfl) (by kernel_rfl) (by kernel_rfl) (Nat.zero_le _) (by simp only [List.length_cons, List.length_nil]; omega) (by simp [Value.oneCell']) ?_
 intro w7 z7 p7
 have p7 : Hp nz wz S5 w7 ((some b7, .row 28 (.i y5.1.Kind :: U4 y5.1.Set [.slice ujh y5.1.L.length ujj, .i y5.1.Min, .i y5.1.Max]) 8 0) :: (some b3, .row 28 (.i y1.1.Kind :: U4 y1.1.Set [.slice ujc y1.1.L.length uje, .i y1.1.Min, .i y1.1.Max]) 8 0) :: Lr) := p7
 refine Goes.rn 5 [(5, .i y5.2.1), (6, .i y5.2.2)] Jt5 ?_
 refine Goes.ldN 28 (.tmp 1) 26 28 ⟨b3, 0, none⟩ (.i y1.1.Kind :: U4 y1.1.Set [.slice ujc y1.1.L.length uje, .i y1.1.Min, .i y1.1.Max]) (p7.pa 1 0) ?_
 refine bind_some' h fun y9 e10 h => ?_
 refine Goes.cal (kc 15 [26] #[28]) 27 38 15 _ (W.z3u y1.1 y9 e10 ujc y1.1.L.length uje p7 ujf (ujg.ext ((((z3.trans z4).trans z5).trans z6).trans z7)) rfl) ?_
 rintro _ w8 ⟨S8, ujm, ujn, ujo, ujp, rfl, z8, p8, ujq, rfl⟩
 have p8 := p8.dp 2
 refine Goes.rn 8 [(25, .tuple #[.slice (Gp ujm) y9.1.length ujo, .i y9.2]), (28, .slice (Gp ujm) y9.1.length ujo), (29, .i y9.2), (7, .slice (Gp ujm) y9.1.length ujo), (8, .i y9.2)] Jt7 ?_
 refine Goes.ldN 28 (.tmp 4) 31 28 ⟨b7, 0, none⟩ (.i y5.1.Kind :: U4 y5.1.Set [.slice ujh y5.1.L.length ujj, .i y5.1.Min, .i y5.1.Max]) (p8.pa 1 0) ?_
 refine bind_some' h fun y12 e13 h => ?_
 refine Goes.cal (kc 15 [31] #[28]) 32 38 15 _ (W.z3u y5.1 y12 e13 ujh y5.1.L.length ujj p8 ujk (ujl.ext ((z6.trans z7).trans z8)) rfl) ?_
 rintro _ w9 ⟨S9, ujr, ujs, ujt, uju, rfl, z9, p9, ujv, rfl⟩
 have p9 := p9.dp 2
 refine Goes.rn 9 [(30, .tuple #[.slice (Gp ujr) y12.1.length ujt, .i y12.2]), (33, .slice (Gp ujr) y12.1.length ujt), (34, .i y12.2), (9, .slice (Gp ujr) y12.1.length ujt), (10, .i y12.2), (36, .slice (Gp ujm) y9.1.length ujo)] Jt9 ?_
 obtain ⟨S10, z10, p10, f15⟩ := p9.freezeRd 1 rfl (ujq.ext z9) (by decide)
 refine bind_some' h fun y16 e17 h => ?_
 refine Goes.cal (kc 21 [36] #[37]) 37 44 21 _ (W.zk y9.1 y16 e17 (Gp ujm) y9.1.length ujo p10 f15 rfl) ?_
 rintro _ w11 ⟨S11, rfl, z11, p11⟩
 have p11 := p11.dp 1
 refine Goes.rn 9 [(35, .tuple #[.string y16.1, .i y16.2]), (38, .string y16.1), (39, .i y16.2), (11, .string y16.1), (12, .i y16.2), (41, .slice (Gp ujr) y12.1.length ujt)] Jtb ?_
 obtain ⟨S12, z12, p12, f18⟩ := p11.freezeRd 0 rfl (ujv.ext (z10.trans z11)) (by decide)
 refine bind_some' h fun y19 e20 h => ?_
 refine Goes.cal (kc 21 [41] #[37]) 42 44 21 _ (W.zk y12.1 y19 e20 (Gp ujr) y12.1.length ujt p12 f18 rfl) ?_
 rintro _ w13 ⟨S13, rfl, z13, p13⟩
 have p13 := p13.dp 0
 refine Goes.rn 11 [(40, .tuple #[.string y19.1, .i y19.2]), (43, .string y19.1), (44, .i y19.2), (13, .string y19.1), (14, .i y19.2), (45, .i y9.2), (46, .bool (decide (y9.2 = 0))), (47, .bool (decide (y9.2 = 0)))] Jtd ?_
 refine ite_some h (fun h21 h => ?_) (fun h21 h => ?_)
 ·
  rw [decide_eq_true h21]
  refine Goes.rn 4 [(48, .string y16.1), (49, .bool (y16.1.toList == (⟨#[115, 112, 108, 105, 116, 32, 49, 32, 50, 10, 98, 121, 116, 101, 32, 49, 32, 51, 10, 98, 121, 116, 101, 32, 49, 32, 51, 10, 101, 110, 100, 10]⟩ : ByteArray).toList)), (50, .bool (y16.1.toList == (⟨#[115, 112, 108, 105, 116, 32, 49, 32, 50, 10, 98, 121, 116, 101, 32, 49, 32, 51, 10, 98, 121, 116, 101, 32, 49, 32, 51, 10, 101, 110, 100, 10]⟩ : ByteArray).toList)), (51, .bool (y16.1.toList == (⟨#[115, 112, 108, 105, 116, 32, 49, 32, 50, 10, 98, 121, 116, 101, 32, 49, 32, 51, 10, 98, 121, 116, 101, 32, 49, 32, 51, 10, 101, 110, 100, 10]⟩ : ByteArray).toList))] Jte ?_
  refine ite_some h (fun h22 h => ?_) (fun h22 h => ?_)
  ·
   rw [h22]
   refine Goes.rn 4 [(52, .i y16.2), (53, .bool (decide (y16.2 = 0))), (54, .bool (decide (y16.2 = 0))), (55, .bool (decide (y16.2 = 0)))] Jtf ?_
   refine ite_some h (fun h23 h => ?_) (fun h23 h => ?_)
   ·
    rw [decide_eq_true h23]
    refine Goes.rn 5 [(56, .string y19.1), (57, .bool (y19.1.toList == (⟨#[115, 112, 108, 105, 116, 32, 49, 32, 50, 10, 98, 121, 116, 101, 32, 49, 32, 48, 10, 101, 110, 100, 10]⟩ : ByteArray).toList)), (58, .bool (y19.1.toList == (⟨#[115, 112, 108, 105, 116, 32, 49, 32, 50, 10, 98, 121, 116, 101, 32, 49, 32, 48, 10, 101, 110, 100, 10]⟩ : ByteArray).toList)), (0, .bool (y19.1.toList == (⟨#[115, 112, 108, 105, 116, 32, 49, 32, 50, 10, 98, 121, 116, 101, 32, 49, 32, 48, 10, 101, 110, 100, 10]⟩ : ByteArray).toList))] Jtc ?_
    obtain rfl := Option.some.inj h
    exact Goes.rt Tryd.f20 (.bool (y19.1.toList == (⟨#[115, 112, 108, 105, 116, 32, 49, 32, 50, 10, 98, 121, 116, 101, 32, 49, 32, 48, 10, 101, 110, 100, 10]⟩ : ByteArray).toList)) ⟨S13, rfl, (((((((((((((Ext.refl S0 w0).trans z2).trans z3).trans z4).trans z5).trans z6).trans z7).trans z8).trans z9).trans z10).trans z11).trans z12).trans z13), p13⟩
   ·
    rw [decide_eq_false h23]
    refine Goes.rn 5 [(56, undef), (57, undef), (58, .bool false), (0, .bool false)] Jtc ?_
    obtain rfl := Option.some.inj h
    exact Goes.rt Tryd.f20 (.bool false) ⟨S13, rfl, (((((((((((((Ext.refl S0 w0).trans z2).trans z3).trans z4).trans z5).trans z6).trans z7).trans z8).trans z9).trans z10).trans z11).trans z12).trans z13), p13⟩
  ·
   have ujw : (y16.1.toList == (⟨#[115, 112, 108, 105, 116, 32, 49, 32, 50, 10, 98, 121, 116, 101, 32, 49, 32, 51, 10, 98, 121, 116, 101, 32, 49, 32, 51, 10, 101, 110, 100, 10]⟩ : ByteArray).toList) = false := by simpa using h22
   rw [ujw]
   refine Goes.rn 9 [(52, undef), (53, undef), (54, .bool false), (55, .bool false), (56, undef), (57, undef), (58, .bool false), (0, .bool false)] Jtc ?_
   obtain rfl := Option.some.inj h
   exact Goes.rt Tryd.f20 (.bool false) ⟨S13, rfl, (((((((((((((Ext.refl S0 w0).trans z2).trans z3).trans z4).trans z5).trans z6).trans z7).trans z8).trans z9).trans z10).trans z11).trans z12).trans z13), p13⟩
 ·
  rw [decide_eq_false h21]
  refine Goes.rn 13 [(48, undef), (49, undef), (50, .bool false), (51, .bool false), (52, undef), (53, undef), (54, .bool false), (55, .bool false), (56, undef), (57, undef), (58, .bool false), (0, .bool false)] Jtc ?_
  obtain rfl := Option.some.inj h
  exact Goes.rt Tryd.f20 (.bool false) ⟨S13, rfl, (((((((((((((Ext.refl S0 w0).trans z2).trans z3).trans z4).trans z5).trans z6).trans z7).trans z8).trans z9).trans z10).trans z11).trans z12).trans z13), p13⟩

def Qmw := sub [1, 1] B5
def Jtg : List Item := [.code Qmw]
def Qmx := sub [1, 1, 1] B5
def Jth : List Item := [.code Qmx]
def Qmy := sub [1, 1, 0] B5
def Jti : List Item := .inRegion (opsOf Qmy) [1, 2, 3, 4, 5, 6] :: Jth
def Qmz := sub [1, 1, 1, 1] B5
def Jtj : List Item := [.code Qmz]
def Qn0 := sub [1, 1, 1, 0] B5
def Jtk : List Item := .inRegion (opsOf Qn0) [1, 2, 3, 4, 5, 6] :: Jtj
def Qn1 := sub [1, 1, 1, 1, 1] B5
def Jtl : List Item := [.code Qn1]
def Qn2 := sub [1, 1, 1, 1, 0] B5
def Jtm : List Item := .inRegion (opsOf Qn2) [1, 2, 3, 4, 5, 6, 7, 8, 9, 10, 11, 12, 13, 14, 15, 16, 17, 18] :: Jtl
def Jtn : List Item := .inRegion (opsOf Qn2) [3, 4, 5, 6, 7, 8, 9, 10, 11, 12, 13, 14, 15, 16, 17, 18] :: Jtl
def Jto : List Item := .inRegion (opsOf Qn2) [6, 7, 8, 9, 10, 11, 12, 13, 14, 15, 16, 17, 18] :: Jtl
def Jtp : List Item := .inRegion (opsOf Qn2) [11, 12, 13, 14, 15, 16, 17, 18] :: Jtl
def Jtq : List Item := .inRegion (opsOf Qn2) [16, 17, 18] :: Jtl

def Post.z3w (r : Bool) (v : Value) (w' : World) : Prop :=
 ∃ S', v = .bool r ∧ Ext S0 w0 S' w' ∧ Hp nz wz S' w' (Lr)

def L.z3x : (List T48) → Bool → Prop := fun x0 r => ∀ S1 w1, Ext S0 w0 S1 w1 → ∀ Ax0 nx0 cx0 (_ : Hp nz wz S1 w1 (Lr)) (_ : Rd kT48 S1 w1 Ax0 cx0 x0) (_ : x0.length = nx0) (junk : Nat → Value),
 Goes Tryd.prog (base 5) Jtg ⟨lfr 45 [(0, .slice Ax0 nx0 cx0)] junk, []⟩ w1 (Done Tryd.prog 5 (Rets (Post.z3w nz wz S0 w0 Lr r)))

theorem W.z3x {nz wz S0 w0 Lr} [Gw nz wz] : ∀ a r, M.tidepolelaw11_ProgTells_l0 a = some r → L.z3x nz wz S0 w0 Lr a r := by
 intro x0 r h S1 w1 hx Ax0 nx0 cx0 p1 fx0 lx0 junk
 rw [M.tidepolelaw11_ProgTells_l0] at h
 try dsimp only at h
 subst lx0
 refine Goes.rn 3 [(18, .slice Ax0 x0.length cx0)] Jti ?_
 refine bind_some' h fun y11 e12 h => ?_
 refine Goes.cal (kc 21 [18] #[37]) 19 44 21 _ (W.zk x0 y11 e12 Ax0 x0.length cx0 p1 fx0 rfl) ?_
 rintro _ w2 ⟨S2, rfl, z2, p2⟩
 refine Goes.rn 9 [(17, .tuple #[.string y11.1, .i y11.2]), (20, .string y11.1), (21, .i y11.2), (3, .string y11.1), (4, .i y11.2), (23, .slice Ax0 x0.length cx0)] Jtk ?_
 refine bind_some' h fun y13 e14 h => ?_
 refine Goes.cal (kc 22 [23] #[37]) 24 44 22 _ (W.zv x0 y13 e14 Ax0 x0.length cx0 p2 (fx0.ext z2) rfl) ?_
 rintro _ w3 ⟨S3, rfl, z3, p3⟩
 refine Goes.rn 9 [(22, .tuple #[.string y13.1, .i y13.2]), (25, .string y13.1), (26, .i y13.2), (5, .string y13.1), (6, .i y13.2), (27, .slice Ax0 x0.length cx0)] Jtm ?_
 refine bind_some' h fun y15 e16 h => ?_
 refine Goes.cal (kc 23 [27] #[37]) 28 29 23 _ (W.z2 x0 y15 e16 Ax0 x0.length cx0 p3 (fx0.ext (z2.trans z3)) rfl) ?_
 rintro _ w4 ⟨S4, rfl, z4, p4⟩
 refine Goes.rn 1 [(29, .slice Ax0 x0.length cx0)] Jtn ?_
 refine bind_some' h fun y17 e18 h => ?_
 refine Goes.cal (kc 24 [29] #[37]) 30 29 24 _ (W.zl x0 y17 e18 Ax0 x0.length cx0 p4 (fx0.ext ((z2.trans z3).trans z4)) rfl) ?_
 rintro _ w5 ⟨S5, rfl, z5, p5⟩
 refine Goes.rn 2 [(31, .bool (decide (y15 = y17))), (32, .bool (decide (y15 = y17)))] Jto ?_
 refine ite_some h (fun h19 h => ?_) (fun h19 h => ?_)
 ·
  rw [decide_eq_true h19]
  refine Goes.rn 5 [(33, .string y11.1), (34, .string y13.1), (35, .bool (y11.1.toList == y13.1.toList)), (36, .bool (y11.1.toList == y13.1.toList)), (37, .bool (y11.1.toList == y13.1.toList))] Jtp ?_
  refine ite_some h (fun h20 h => ?_) (fun h20 h => ?_)
  ·
   rw [h20]
   refine Goes.rn 5 [(38, .i y11.2), (39, .i y13.2), (40, .bool (decide (y11.2 = y13.2))), (41, .bool (decide (y11.2 = y13.2))), (42, .bool (decide (y11.2 = y13.2)))] Jtq ?_
   refine ite_some h (fun h21 h => ?_) (fun h21 h => ?_)
   ·
    rw [decide_eq_true h21]
    refine bind_some' h fun y22 e23 h => ?_
    refine Goes.cal (kc 20 [] #[]) 43 4 20 _ (W.z3v y22 e23  p5 ) ?_
    rintro _ w6 ⟨S6, rfl, z6, p6⟩
    refine Goes.rn 3 [(44, .bool y22), (2, .bool y22)] Jtl ?_
    obtain rfl := Option.some.inj h
    exact Goes.rt Tryd.f5 (.bool y22) ⟨S6, rfl, (((((hx.trans z2).trans z3).trans z4).trans z5).trans z6), p6⟩
   ·
    rw [decide_eq_false h21]
    refine Goes.rn 4 [(43, undef), (44, .bool false), (2, .bool false)] Jtl ?_
    obtain rfl := Option.some.inj h
    exact Goes.rt Tryd.f5 (.bool false) ⟨S5, rfl, ((((hx.trans z2).trans z3).trans z4).trans z5), p5⟩
  ·
   have u3 : (y11.1.toList == y13.1.toList) = false := by simpa using h20
   rw [u3]
   refine Goes.rn 9 [(38, undef), (39, undef), (40, undef), (41, .bool false), (42, .bool false), (43, undef), (44, .bool false), (2, .bool false)] Jtl ?_
   obtain rfl := Option.some.inj h
   exact Goes.rt Tryd.f5 (.bool false) ⟨S5, rfl, ((((hx.trans z2).trans z3).trans z4).trans z5), p5⟩
 ·
  rw [decide_eq_false h19]
  refine Goes.rn 14 [(33, undef), (34, undef), (35, undef), (36, .bool false), (37, .bool false), (38, undef), (39, undef), (40, undef), (41, .bool false), (42, .bool false), (43, undef), (44, .bool false), (2, .bool false)] Jtl ?_
  obtain rfl := Option.some.inj h
  exact Goes.rt Tryd.f5 (.bool false) ⟨S5, rfl, ((((hx.trans z2).trans z3).trans z4).trans z5), p5⟩

def Qn3 := sub [1, 0, 1] B5
def Jtr : List Item := .code Qn3 :: Jtg
def Qn4 := sub [1, 0, 1, 0] B5
def Jts : List Item := .inRegion (opsOf Qn4) [1, 2] :: Jtg
def Qn5 := sub [1, 0, 1, 1] B5
def Jtt : List Item := .inRegion (opsOf Qn5) [4, 5] :: Jtg

theorem W.z3w (x0 : List T48) (r : Bool) (h : M.tidepolelaw11_ProgTells x0 = some r) {nz wz S0 w0 Lr} [Gw nz wz] (Ax0 nx0 cx0) (p0 : Hp nz wz S0 w0 (Lr)) (fx0 : Rd kT48 S0 w0 Ax0 cx0 x0) (lx0 : x0.length = nx0) :
  Calls Tryd.prog 5 #[.slice Ax0 nx0 cx0] w0 (Rets (Post.z3w nz wz S0 w0 Lr r)) := by
 subst lx0
 refine calls_of_goes (fn := Tryd.f5) (c := B5) (by kernel_rfl) (by kernel_rfl) 44 (by kernel_rfl) ?_
 refine Goes.jp 45 [(0, .slice Ax0 x0.length cx0)] (fun junk => ?_)
 delta M.tidepolelaw11_ProgTells at h
 refine Goes.rn 11 [(2, .bool false), (7, .slice Ax0 x0.length cx0), (8, .i (x0.length : Int)), (9, .bool (decide ((x0.length : Int) > 2048)))] Jtr ?_
 refine ite_some h (fun h1 h => ?_) (fun h1 h => ?_)
 ·
  rw [decide_eq_true h1]
  refine Goes.rn 3 [(10, .slice Ax0 x0.length cx0)] Jts ?_
  refine guard_some' h fun g2 h => ?_
  refine Op_.slR_n 37 (.tmp 10) none (some (.const (.int .i64 2049))) 11 37 49 0 2049 (sl x0 0 2049) rfl rfl fx0 Goes.v (by kernel_rfl) (by kernel_rfl) (by kernel_rfl) Bnd.no (Bnd.at_ .i64 (by kernel_rfl)) (by decide : (0 : Int) ≤ 0) (by decide : (0 : Int) ≤ 2049) g2 ?_
  intro A3 c4 f5
  refine Goes.rn 2 [(0, .slice A3 ((sl x0 0 2049).length) c4)] Jtg ?_
  exact Goes.jp 45 [(0, .slice A3 ((sl x0 0 2049).length) c4)] (W.z3x _ _ h _ _ (Ext.refl S0 w0) A3 ((sl x0 0 2049).length) c4 p0 f5 rfl)
 ·
  rw [decide_eq_false h1]
  refine Goes.rn 6 [(12, .slice Ax0 x0.length cx0), (13, .slice Ax0 x0.length cx0), (14, .i (x0.length : Int)), (15, .i (imn (x0.length : Int) 300))] Jtt ?_
  refine guard_some' h fun g6 h => ?_
  refine guard_some' h fun g7 h => ?_
  refine Op_.slR_n 37 (.tmp 12) none (some (.tmp 15)) 16 37 49 0 (imn (x0.length : Int) 300) (sl x0 0 (imn (x0.length : Int) 300)) rfl rfl fx0 Goes.v (by kernel_rfl) (by kernel_rfl) (by kernel_rfl) Bnd.no (Bnd.at_ .i64 (by kernel_rfl)) (by decide : (0 : Int) ≤ 0) g6 g7 ?_
  intro A8 c9 f10
  refine Goes.rn 2 [(0, .slice A8 ((sl x0 0 (imn (x0.length : Int) 300)).length) c9)] Jtg ?_
  exact Goes.jp 45 [(0, .slice A8 ((sl x0 0 (imn (x0.length : Int) 300)).length) c9)] (W.z3x _ _ h _ _ (Ext.refl S0 w0) A8 ((sl x0 0 (imn (x0.length : Int) 300)).length) c9 p0 f10 rfl)

def Qn6 := sub [1, 1, 1, 1, 1, 1, 1, 1, 1] B6
def Jtu : List Item := [.code Qn6]
def Jtv : List Item := .inBlock 0 :: Jtu
def Qn7 := sub [1, 1, 1, 1, 1, 1, 1, 1, 0, 1, 0, 0] B6
def Jtw : List Item := .inLoop Qn7 :: Jtv
def Jtx : List Item := .code Qn7 :: Jtw
def Qn8 := sub [1, 1, 1, 1, 1, 1, 1, 1, 0, 1, 0, 0, 1] B6
def Jty : List Item := .code Qn8 :: Jtw
def Qn9 := sub [1, 1, 1, 1, 1, 1, 1, 1, 0, 1, 0, 0, 0, 1] B6
def Jtz : List Item := .code Qn9 :: Jty
def Qna := sub [1, 1, 1, 1, 1, 1, 1, 1, 0, 1, 0, 0, 1, 1] B6
def Ju0 : List Item := .code Qna :: Jtw
def Ju1 : List Item := .inBlock 1 :: Ju0
def Qnb := sub [1, 1, 1, 1, 1, 1, 1, 1, 0, 1, 0, 0, 1, 0, 0, 1] B6
def Ju2 : List Item := .code Qnb :: Ju1
def Qnc := sub [1, 1, 1, 1, 1, 1, 1, 1, 0, 1, 0, 0, 1, 0, 0, 0] B6
def Ju3 : List Item := .inRegion (opsOf Qnc) [2, 3, 4, 5, 6, 7, 8, 9, 10, 11] :: Ju2
def Ju4 : List Item := .inRegion (opsOf Qnc) [4, 5, 6, 7, 8, 9, 10, 11] :: Ju2
def Qnd := sub [1, 1, 1, 1, 1, 1, 1, 1, 0, 1, 0, 0, 1, 0, 0, 1, 0, 1] B6
def Ju5 : List Item := .code Qnd :: Ju1
def Qne := sub [1, 1, 1, 1, 1, 1, 1, 1, 1, 1] B6
def Ju6 : List Item := [.code Qne]
def Qnf := sub [1, 1, 1, 1, 1, 1, 1, 1, 1, 0] B6
def Ju7 : List Item := .inRegion (opsOf Qnf) [3, 4, 5, 6, 7, 8, 9, 10, 11, 12, 13] :: Ju6
def Ju8 : List Item := .inRegion (opsOf Qnf) [9, 10, 11, 12, 13] :: Ju6
def Ju9 : List Item := .inRegion (opsOf Qnf) [10, 11, 12, 13] :: Ju6

def Post.z3y (r : Bool) (v : Value) (w' : World) : Prop :=
 ∃ S', v = .bool r ∧ Ext S0 w0 S' w' ∧ Hp nz wz S' w' (Lr)

def L.z3z : (List T48) × Int × Int × Int → Bool → Prop := fun ⟨x6, x8, x9, x10⟩ r => ∀ S1 w1, Ext S0 w0 S1 w1 → ∀ Gx6 nx6 cx6 ug0 (_ : Hp nz wz S1 w1 ((Gx6, .row 49 ug0 (cx6 * kT48.size) 0) :: Lr)) (_ : Els kT48 S1 w1 ug0 x6) (_ : x6.length = nx6) (junk : Nat → Value),
 Goes Tryd.prog (base 6) Jtx ⟨lfr 79 [(6, .slice (Gp Gx6) nx6 cx6), (8, .i x8), (9, .i x9), (10, .i x10)] junk, []⟩ w1 (Done Tryd.prog 6 (Rets (Post.z3y nz wz S0 w0 Lr r)))

theorem W.z3z {nz wz S0 w0 Lr} [Gw nz wz] : ∀ a r, M.tidepolelaw11_ProgReads_l0 a = some r → (L.z3z nz wz S0 w0 Lr) a r := by
 refine M.tidepolelaw11_ProgReads_l0.partial_correctness (motive := (L.z3z nz wz S0 w0 Lr)) ?_
 intro ujx ujy ⟨x6, x8, x9, x10⟩ r h S1 w1 hx Gx6 nx6 cx6 ug0 p1 fx6 lx6 junk
 try dsimp only at h
 subst lx6
 refine Goes.rn 8 [(48, .i x10), (49, .slice (Gp Gx6) x6.length cx6), (50, .i (x6.length : Int)), (51, .bool (decide (x10 < (x6.length : Int))))] Jtz ?_
 refine ite_some h (fun h20 h => ?_) (fun h20 h => ?_)
 ·
  rw [decide_eq_true h20]
  refine Goes.rn 8 [(54, .slice (Gp Gx6) x6.length cx6), (55, .i x10)] Ju3 ?_
  refine guard_some' h fun g21 h => ?_
  refine Op_.ixO_n 37 (.tmp 54) (.tmp 55) 56 0 49 .i64 x10 0 x6.length cx6 (gi x6 x10) rfl rfl p1 rfl fx6 Goes.v (by kernel_rfl) (by kernel_rfl) (by kernel_rfl) (by kernel_rfl) (by decide) g21 h20 ?_
  rintro b22 _ rfl q24 f23
  obtain ⟨_, _, rfl, rfl, ⟨_, _, rfl, ⟨l25, f26⟩, ⟨_, _, rfl, rfl, rfl⟩⟩⟩ := q24
  obtain rfl := els_lit4' f26 l25
  refine Goes.rn 1 [(57, .pointer (some (Addr.add ⟨b22, (x10 : Int).toNat * kT48.size, none⟩ 0)))] Ju4 ?_
  refine Goes.ld 3 (.tmp 57) 58 3 (Addr.add ⟨b22, (x10 : Int).toNat * kT48.size, none⟩ 0) (.i ((gi x6 x10).Op)) ((hc_part (us := []) (vs := [.i ((gi x6 x10).Op)]) (ws := (U4 ((gi x6 x10).Set) [.i ((gi x6 x10).X), .i ((gi x6 x10).Y)])) f23) 0 _ rfl) ?_
  refine Goes.rn 8 [(59, .bool (decide ((gi x6 x10).Op = 3))), (60, .i x10), (61, .slice (Gp (some b22)) x6.length cx6), (62, .i (x6.length : Int)), (63, .i (wr .i64 ((x6.length : Int) - 1))), (64, .bool (decide (x10 = wr .i64 ((x6.length : Int) - 1)))), (65, .bool (!((decide ((gi x6 x10).Op = 3)) == (decide (x10 = wr .i64 ((x6.length : Int) - 1))))))] Ju2 ?_
  refine ite_some h (fun h28 h => ?_) (fun h28 h => ?_)
  ·
   rw [h28]
   refine Goes.rn 9 [(52, .i x10), (53, .i (wr .i64 (x10 + 1))), (10, .i (wr .i64 (x10 + 1)))] Jtx ?_
   exact Goes.jp 79 [(6, .slice (Gp (some b22)) x6.length cx6), (8, .i x8), (9, .i x9), (10, .i (wr .i64 (x10 + 1)))] (ujy _ _ h _ _ hx (some b22) x6.length cx6 ug0 p1 fx6 rfl)
  ·
   have u7j : ((decide ((gi x6 x10).Op = 3)) == (decide (x10 = wr .i64 ((x6.length : Int) - 1)))) = false := by simpa using h28
   rw [u7j]
   refine Goes.rn 5 [(2, .bool false)] Ju5 ?_
   obtain rfl := Option.some.inj h
   have p1 := p1.dp 0
   exact Goes.rt Tryd.f6 (.bool false) ⟨S1, rfl, hx, p1⟩
 ·
  rw [decide_eq_false h20]
  refine Goes.rn 7 [(66, .i x9), (67, .bool (decide (x9 = 0))), (68, .bool (decide (x9 = 0)))] Ju7 ?_
  refine ite_some h (fun h29 h => ?_) (fun h29 h => ?_)
  ·
   rw [decide_eq_true h29]
   refine Goes.rn 6 [(69, .i x8), (70, .slice (Gp Gx6) x6.length cx6), (71, .i (x6.length : Int)), (72, .bool (decide (x8 = (x6.length : Int)))), (73, .bool (decide (x8 = (x6.length : Int)))), (74, .bool (decide (x8 = (x6.length : Int))))] Ju8 ?_
   refine ite_some h (fun h30 h => ?_) (fun h30 h => ?_)
   ·
    rw [decide_eq_true h30]
    refine Goes.rn 1 [(75, .slice (Gp Gx6) x6.length cx6)] Ju9 ?_
    obtain ⟨S8, z8, p8, f31⟩ := p1.freezeRd 0 rfl fx6 (by decide)
    refine bind_some' h fun y32 e33 h => ?_
    refine Goes.cal (kc 23 [75] #[37]) 76 29 23 _ (W.z2 x6 y32 e33 (Gp Gx6) x6.length cx6 p8 f31 rfl) ?_
    rintro _ w9 ⟨S9, rfl, z9, p9⟩
    have p9 := p9.dp 0
    refine Goes.rn 4 [(77, .bool (decide (y32 = 0))), (78, .bool (decide (y32 = 0))), (2, .bool (decide (y32 = 0)))] Ju6 ?_
    obtain rfl := Option.some.inj h
    exact Goes.rt Tryd.f6 (.bool (decide (y32 = 0))) ⟨S9, rfl, ((hx.trans z8).trans z9), p9⟩
   ·
    rw [decide_eq_false h30]
    refine Goes.rn 6 [(75, undef), (76, undef), (77, undef), (78, .bool false), (2, .bool false)] Ju6 ?_
    obtain rfl := Option.some.inj h
    have p1 := p1.dp 0
    exact Goes.rt Tryd.f6 (.bool false) ⟨S1, rfl, hx, p1⟩
  ·
   rw [decide_eq_false h29]
   refine Goes.rn 12 [(69, undef), (70, undef), (71, undef), (72, undef), (73, .bool false), (74, .bool false), (75, undef), (76, undef), (77, undef), (78, .bool false), (2, .bool false)] Ju6 ?_
   obtain rfl := Option.some.inj h
   have p1 := p1.dp 0
   exact Goes.rt Tryd.f6 (.bool false) ⟨S1, rfl, hx, p1⟩

def Qng := sub [1, 1, 1, 1, 1, 1, 1, 1] B6
def Jua : List Item := [.code Qng]
def Qnh := sub [1, 1, 1, 1, 1, 1, 1, 0, 1, 0, 1] B6
def Jub : List Item := .code Qnh :: Jua

def L.z40 : Bool → Bool → Prop := fun x2 r => ∀ S1 w1, Ext S0 w0 S1 w1 → ∀ (_ : Hp nz wz S1 w1 (Lr)) (junk : Nat → Value),
 Goes Tryd.prog (base 6) Jub ⟨lfr 79 [(2, .bool x2)] junk, []⟩ w1 (Done Tryd.prog 6 (Rets (Post.z3y nz wz S0 w0 Lr r)))

theorem W.z40 {nz wz S0 w0 Lr} [Gw nz wz] : ∀ a r, M.tidepolelaw11_ProgReads_l1 a = some r → L.z40 nz wz S0 w0 Lr a r := by
 intro x2 r h S1 w1 hx p1 junk
 rw [M.tidepolelaw11_ProgReads_l1] at h
 try dsimp only at h
 obtain rfl := Option.some.inj h
 exact Goes.rt Tryd.f6 (.bool x2) ⟨S1, rfl, hx, p1⟩

def Qni := sub [1, 1] B6
def Juc : List Item := [.code Qni]
def Qnj := sub [1, 0, 1] B6
def Jud : List Item := .code Qnj :: Juc
def Qnk := sub [1, 0, 0] B6
def Jue : List Item := .inRegion (opsOf Qnk) [0, 1] :: Jud
def Qnl := sub [1, 1, 1] B6
def Juf : List Item := [.code Qnl]
def Qnm := sub [1, 1, 0] B6
def Jug : List Item := .inRegion (opsOf Qnm) [4, 5] :: Juf
def Qnn := sub [1, 1, 1, 1] B6
def Juh : List Item := [.code Qnn]
def Qno := sub [1, 1, 1, 0] B6
def Jui : List Item := .inRegion (opsOf Qno) [1, 2, 3, 4, 5, 6, 7, 8, 9] :: Juh
def Juj : List Item := .inRegion (opsOf Qno) [6, 7, 8, 9] :: Juh
def Qnp := sub [1, 1, 1, 1, 1] B6
def Juk : List Item := [.code Qnp]
def Qnq := sub [1, 1, 1, 1, 0, 1] B6
def Jul : List Item := .code Qnq :: Juk
def Qnr := sub [1, 1, 1, 1, 1, 1] B6
def Jum : List Item := [.code Qnr]
def Qns := sub [1, 1, 1, 1, 1, 0] B6
def Jun : List Item := .inRegion (opsOf Qns) [0, 1, 2, 3, 4, 5, 6] :: Jum
def Qnt := sub [1, 1, 1, 1, 1, 1, 1] B6
def Juo : List Item := [.code Qnt]
def Qnu := sub [1, 1, 1, 1, 1, 1, 0] B6
def Jup : List Item := .inRegion (opsOf Qnu) [0, 1, 2, 3, 4, 5, 6] :: Juo
def Qnv := sub [1, 1, 1, 1, 1, 1, 1, 0, 1] B6
def Juq : List Item := .code Qnv :: Jua
def Qnw := sub [1, 1, 1, 1, 1, 1, 1, 0, 1, 0, 0] B6
def Jur : List Item := .inRegion (opsOf Qnw) [3, 4, 5, 6, 7, 8, 9, 10] :: Jub
def Jus : List Item := .inRegion (opsOf Qnw) [7, 8, 9, 10] :: Jub
def Qnx := sub [1, 1, 1, 1, 0, 1, 0, 1] B6
def Jut : List Item := .code Qnx :: Juk
def Qny := sub [1, 0, 1, 0, 1] B6
def Juu : List Item := .code Qny :: Juc

theorem W.z3y (x0 : ByteArray) (r : Bool) (h : M.tidepolelaw11_ProgReads x0 = some r) {nz wz S0 w0 Lr} [Gw nz wz] (p0 : Hp nz wz S0 w0 (Lr)) :
  Calls Tryd.prog 6 #[.string x0] w0 (Rets (Post.z3y nz wz S0 w0 Lr r)) := by
 refine calls_of_goes (fn := Tryd.f6) (c := B6) (by kernel_rfl) (by kernel_rfl) 78 (by kernel_rfl) ?_
 refine Goes.jp 79 [(0, .string x0)] (fun junk => ?_)
 delta M.tidepolelaw11_ProgReads at h
 refine Goes.rn 7 [(2, .bool false)] Jue ?_
 refine bind_some' h fun y1 e2 h => ?_
 refine Goes.cal (kc 20 [] #[]) 11 4 20 _ (W.z3v y1 e2  p0 ) ?_
 rintro _ w2 ⟨S2, rfl, z2, p2⟩
 refine Goes.rn 2 [(12, .bool (!y1))] Jud ?_
 refine ite_some h (fun h3 h => ?_) (fun h3 h => ?_)
 ·
  rw [h3]
  refine Goes.rn 8 [(13, .string x0), (14, .string x0), (15, .i (x0.size : Int)), (16, .i (imn (x0.size : Int) 256))] Jug ?_
  refine guard_some' h fun g4 h => ?_
  refine guard_some' h fun g5 h => ?_
  refine Op_.slS_n 9 (.tmp 13) none (some (.tmp 16)) 17 9 x0 0 (imn (x0.size : Int) 256) (ss x0 0 (imn (x0.size : Int) 256)) rfl Goes.v (by kernel_rfl) (by kernel_rfl) Bnd.no (Bnd.at_ .i64 (by kernel_rfl)) (by decide : (0 : Int) ≤ 0) g4 g5 ?_
  refine Goes.rn 5 [(0, .string (ss x0 0 (imn (x0.size : Int) 256))), (19, .string (ss x0 0 (imn (x0.size : Int) 256)))] Jui ?_
  refine bind_some' h fun y6 e7 h => ?_
  refine Goes.cal (kc 11 [19] #[9]) 20 30 11 _ (W.z2j (ss x0 0 (imn (x0.size : Int) 256)) y6 e7  p2 ) ?_
  rintro _ w3 ⟨S3, ujz, uk0, uk1, rfl, z3, p3, uk2, uk3, rfl⟩
  refine Goes.rn 4 [(18, .tuple #[(ag (.i y6.1.Kind :: U4 y6.1.Set [.slice ujz y6.1.L.length uk1, .i y6.1.Min, .i y6.1.Max])), .i y6.2.1, .i y6.2.2]), (21, (ag (.i y6.1.Kind :: U4 y6.1.Set [.slice ujz y6.1.L.length uk1, .i y6.1.Min, .i y6.1.Max]))), (22, .i y6.2.1), (23, .i y6.2.2)] Juj ?_
  refine Op_.alloc 28 3 0 (.agg #[.i 0, .u 0, .u 0, .u 0, .u 0, .slice none 0 0, .i 0, .i 0]) [.i 0, .u 0, .u 0, .u 0, .u 0, .slice none 0 0, .i 0, .i 0] p3 Goes.v (by kernel_rfl) (by kernel_rfl) ?_
  intro b8 w4 z4 p4
  refine Op_.st 28 (.tmp 3) (.tmp 21) 0 0 b8 0 (ag (.i y6.1.Kind :: U4 y6.1.Set [.slice ujz y6.1.L.length uk1, .i y6.1.Min, .i y6.1.Max])) (.i y6.1.Kind :: U4 y6.1.Set [.slice ujz y6.1.L.length uk1, .i y6.1.Min, .i y6.1.Max]) p4 rfl Goes.s (by kernel_rfl) (by kernel_rfl) (by kernel_rfl) (by kernel_rfl) (Nat.zero_le _) (by simp only [List.length_cons, List.length_nil]; omega) (by simp [Value.oneCell']) ?_
  intro w5 z5 p5
  have p5 : Hp nz wz S3 w5 ((some b8, .row 28 (.i y6.1.Kind :: U4 y6.1.Set [.slice ujz y6.1.L.length uk1, .i y6.1.Min, .i y6.1.Max]) 8 0) :: Lr) := p5
  refine Goes.rn 9 [(4, .i y6.2.1), (5, .i y6.2.2), (24, .i y6.2.2), (25, .bool (!(decide (y6.2.2 = 0))))] Jul ?_
  refine ite_some h (fun h10 h => ?_) (fun h10 h => ?_)
  ·
   rw [decide_eq_true h10]
   refine Goes.rn 4 [] Jun ?_
   refine Goes.ldN 28 (.tmp 3) 27 28 ⟨b8, 0, none⟩ (.i y6.1.Kind :: U4 y6.1.Set [.slice ujz y6.1.L.length uk1, .i y6.1.Min, .i y6.1.Max]) (p5.pa 0 0) ?_
   refine bind_some' h fun y11 e12 h => ?_
   refine Goes.cal (kc 15 [27] #[28]) 28 38 15 _ (W.z3u y6.1 y11 e12 ujz y6.1.L.length uk1 p5 uk2 (uk3.ext (z4.trans z5)) rfl) ?_
   rintro _ w6 ⟨S6, uk4, uk5, uk6, uk7, rfl, z6, p6, uk8, rfl⟩
   refine Goes.rn 8 [(26, .tuple #[.slice (Gp uk4) y11.1.length uk6, .i y11.2]), (29, .slice (Gp uk4) y11.1.length uk6), (30, .i y11.2), (6, .slice (Gp uk4) y11.1.length uk6), (7, .i y11.2)] Jup ?_
   refine Goes.ldN 28 (.tmp 3) 32 28 ⟨b8, 0, none⟩ (.i y6.1.Kind :: U4 y6.1.Set [.slice ujz y6.1.L.length uk1, .i y6.1.Min, .i y6.1.Max]) (p6.pa 1 0) ?_
   refine bind_some' h fun y14 e15 h => ?_
   refine Goes.cal (kc 17 [32] #[28]) 33 40 17 _ (W.z34 y6.1 y14 e15 ujz y6.1.L.length uk1 p6 uk2 (uk3.ext ((z4.trans z5).trans z6)) rfl) ?_
   rintro _ w7 ⟨S7, rfl, z7, p7⟩
   have p7 := p7.dp 1
   refine Goes.rn 12 [(31, .tuple #[.i y14.1, .i y14.2]), (34, .i y14.1), (35, .i y14.2), (8, .i y14.1), (9, .i y14.2), (36, .i y11.2), (37, .bool (!(decide (y11.2 = 0))))] Juq ?_
   refine ite_some h (fun h16 h => ?_) (fun h16 h => ?_)
   ·
    rw [decide_eq_true h16]
    refine Goes.rn 9 [(10, .i 0)] Jtx ?_
    exact Goes.jp 79 [(6, .slice (Gp uk4) y11.1.length uk6), (8, .i y14.1), (9, .i y14.2), (10, .i 0)] (W.z3z _ _ h _ _ (((((((Ext.refl S0 w0).trans z2).trans z3).trans z4).trans z5).trans z6).trans z7) uk4 y11.1.length uk6 uk7 p7 (uk8.ext z7) rfl)
   ·
    rw [decide_eq_false h16]
    refine Goes.rn 6 [(38, .i y11.2), (39, .bool (decide (y11.2 = 110))), (40, .bool (decide (y11.2 = 110)))] Jur ?_
    refine ite_some h (fun h18 h => ?_) (fun h18 h => ?_)
    ·
     rw [decide_eq_true h18]
     refine Goes.rn 4 [(41, .i y14.2), (42, .bool (decide (y14.2 = 0))), (43, .bool (decide (y14.2 = 0))), (44, .bool (decide (y14.2 = 0)))] Jus ?_
     refine ite_some h (fun h19 h => ?_) (fun h19 h => ?_)
     ·
      rw [decide_eq_true h19]
      refine Goes.rn 5 [(45, .i y14.1), (46, .bool (decide (y14.1 > 2048))), (47, .bool (decide (y14.1 > 2048))), (2, .bool (decide (y14.1 > 2048)))] Jub ?_
      have p7 := p7.dp 0
      exact Goes.jp 79 [(2, .bool (decide (y14.1 > 2048)))] (W.z40 _ _ h _ _ (((((((Ext.refl S0 w0).trans z2).trans z3).trans z4).trans z5).trans z6).trans z7) p7)
     ·
      rw [decide_eq_false h19]
      refine Goes.rn 5 [(45, undef), (46, undef), (47, .bool false), (2, .bool false)] Jub ?_
      have p7 := p7.dp 0
      exact Goes.jp 79 [(2, .bool false)] (W.z40 _ _ h _ _ (((((((Ext.refl S0 w0).trans z2).trans z3).trans z4).trans z5).trans z6).trans z7) p7)
    ·
     rw [decide_eq_false h18]
     refine Goes.rn 9 [(41, undef), (42, undef), (43, .bool false), (44, .bool false), (45, undef), (46, undef), (47, .bool false), (2, .bool false)] Jub ?_
     have p7 := p7.dp 0
     exact Goes.jp 79 [(2, .bool false)] (W.z40 _ _ h _ _ (((((((Ext.refl S0 w0).trans z2).trans z3).trans z4).trans z5).trans z6).trans z7) p7)
  ·
   rw [decide_eq_false h10]
   refine Goes.rn 5 [(2, .bool true)] Jut ?_
   obtain rfl := Option.some.inj h
   have p5 := p5.dp 0
   exact Goes.rt Tryd.f6 (.bool true) ⟨S3, rfl, (((((Ext.refl S0 w0).trans z2).trans z3).trans z4).trans z5), p5⟩
 ·
  have h3' : y1 = false := by simpa using h3
  rw [h3']
  refine Goes.rn 5 [(2, .bool false)] Juu ?_
  obtain rfl := Option.some.inj h
  exact Goes.rt Tryd.f6 (.bool false) ⟨S2, rfl, ((Ext.refl S0 w0).trans z2), p2⟩

end

end Go.Gx
