import Derived.Test.YtgkijdahghfldaaWPia

set_option linter.unusedVariables false

set_option maxRecDepth 100000

set_option maxHeartbeats 4000000

namespace Go.Gx

open Go.RowKit Go.Proofs

variable (nz : Nat) (wz : World) (S0 : Fz) (w0 : World) (Lr : List Ent)

noncomputable section

def Q6m := sub [1, 1, 1] B57
def J8b : List Item := [.code Q6m]
def J8c : List Item := .inBlock 0 :: J8b
def Q6n := sub [1, 1, 0, 1, 0, 0] B57
def J8d : List Item := .inLoop Q6n :: J8c
def J8e : List Item := .code Q6n :: J8d
def Q6o := sub [1, 1, 0, 1, 0, 0, 1] B57
def J8f : List Item := .code Q6o :: J8d
def Q6p := sub [1, 1, 0, 1, 0, 0, 0] B57
def J8g : List Item := .inRegion (opsOf Q6p) [0, 1] :: J8f
def Q6q := sub [1, 1, 1, 1] B57
def J8h : List Item := [.code Q6q]
def J8i : List Item := .inBlock 1 :: J8d
def Q6r := sub [1, 1, 0, 1, 0, 0, 1, 1, 0, 1] B57
def J8j : List Item := .code Q6r :: J8i
def Q6s := sub [1, 1, 0, 1, 0, 0, 1, 1, 0, 0] B57
def J8k : List Item := .inRegion (opsOf Q6s) [0, 1, 2] :: J8j

def Post.z1n (gx0 : Nat) (u4 : Nat) (u2 : List (Nat × Obj)) (u5 : Nat) (u1 : List (List (ByteArray × (List Int)))) (r : Int) (v : Value) (w' : World) : Prop :=
 ∃ S', v = .i r ∧ Ext S0 w0 S' w' ∧ Hp nz wz S' w' ((some gx0, .row 69 [.map (some u4)] 1 0) :: (none, .seg 65 u2) :: Lr)

def L.z1o (gx0 : Nat) (u4 : Nat) (u2 : List (Nat × Obj)) : Int × Nat × (List (ByteArray × (List Int))) × Nat × (List (List (ByteArray × (List Int)))) → Int → Prop := fun ⟨x3, u8n, x10, u5, u1⟩ r => ∀ S1 w1, Ext S0 w0 S1 w1 → ∀ u8o u8p u8q u8r u8s (_ : Hp nz wz S1 w1 ((some u8o, .obj (.mapIter (some u8p) u8r u8s u8r)) :: (some gx0, .row 69 [.map (some u4)] 1 0) :: (none, .seg 65 u2) :: Lr)) (_ : It Value.string (kSl (kInt .u64)) S1 w1 u8q u8r u8s x10) (_ : Pa 65 S1 u5 u4) (_ : Pl (oMap Value.string (kSl (kInt .u64))) S1 w1 u2 u1) (_ : u2[u8n]? = some (u8p, .map u8q u8r)) (junk : Nat → Value),
 Goes Try.prog (base 57) J8e ⟨lfr 20 [(3, .i x3), (10, (pt u8o 0))] junk, []⟩ w1 (Done Try.prog 57 (Rets (Post.z1n nz wz S0 w0 Lr gx0 u4 u2 u5 u1 r)))

theorem W.z1o {nz wz S0 w0 Lr} (gx0 : Nat) (u4 : Nat) (u2 : List (Nat × Obj)) : ∀ a r, M.post_lists_string_uint64_size_l0 a = some r → L.z1o nz wz S0 w0 Lr gx0 u4 u2 a r := by
 have main : ∀ n a r, List.length a.2.2.1 = n → M.post_lists_string_uint64_size_l0 a = some r → L.z1o nz wz S0 w0 Lr gx0 u4 u2 a r := by
  intro n
  induction n using Nat.strongRecOn with
  | _ n ih0 =>
  have u8t : ∀ a r, List.length a.2.2.1 < n → M.post_lists_string_uint64_size_l0 a = some r → L.z1o nz wz S0 w0 Lr gx0 u4 u2 a r := fun a r hl h => ih0 _ hl a r rfl h
  intro ⟨x3, u8n, x10, u5, u1⟩ r hn h S1 w1 hx u8o u8p u8q u8r u8s p1 u8u u8v fs2 u8w junk
  try dsimp only at hn
  refine Goes.rn 2 [] J8g ?_
  skip
  refine Op_.nxM (.tmp 10) 11 0 0 u8o p1 rfl (p1.poolGet 2 rfl u8w) u8u Goes.v (by kernel_rfl) ?_ ?_
  ·
   intro e19; subst e19; rw [M.post_lists_string_uint64_size_l0] at h; try dsimp only at h
   refine Goes.rn 10 [(12, .bool false), (19, .i x3), (2, .i x3)] J8h ?_
   obtain rfl := Option.some.inj h
   have p1 := p1.dp 0
   exact Goes.rt Try.f57 (.i x3) ⟨S1, rfl, hx, p1⟩
  ·
   intro j11 l12 v13 b14 w3 z3 p3 f15 m16 f17
   rw [O.post_lists_string_uint64_size_l0 x3 u8n u5 u1 _ _ (pick_perm x10 j11 l12)] at h; rw [M.post_lists_string_uint64_size_l0] at h; try dsimp only at h
   have l18 : (List.eraseIdx x10 j11).length < x10.length := by rw [List.length_eraseIdx_of_lt l12]; omega
   generalize List.eraseIdx x10 j11 = u8x at h f15 l18
   generalize x10[j11]'l12 = kv9 at h m16 f17
   obtain ⟨A20, c21, rfl, f22⟩ := one_sl f17
   have p3 : Hp nz wz S1 w3 ((some u8o, .obj (.mapIter (some u8p) u8r (u8s.push b14) u8r)) :: (some gx0, .row 69 [.map (some u4)] 1 0) :: (none, .seg 65 u2) :: Lr) := p3
   refine Goes.rn 8 [(12, .bool true)] J8k ?_
   refine Op_.enM (.tmp 10) 13 0 0 u8o p3 rfl (p3.poolGet 2 rfl u8w) f15.nd m16 Goes.v (by kernel_rfl) ?_
   refine Goes.rn 12 [(14, .slice A20 kv9.2.length c21), (5, .slice A20 kv9.2.length c21), (15, .i x3), (16, .slice A20 kv9.2.length c21), (17, .i (kv9.2.length : Int)), (18, .i (wr .i64 (x3 + (kv9.2.length : Int)))), (3, .i (wr .i64 (x3 + (kv9.2.length : Int))))] J8e ?_
   exact Goes.jp 20 [(3, .i (wr .i64 (x3 + (kv9.2.length : Int)))), (10, (pt u8o 0))] (u8t _ _ (Nat.lt_of_lt_of_eq l18 hn) h _ _ (hx.trans z3) u8o u8p u8q u8r (u8s.push b14) p3 f15 (u8v.ext z3) (fs2.ext z3) u8w)
 exact fun a r h => main _ a r rfl h

def Q6t := sub [1, 1, 0, 1] B57
def J8l : List Item := .code Q6t :: J8b
def Q6u := sub [1, 1, 0, 0] B57
def J8m : List Item := .inRegion (opsOf Q6u) [3, 4] :: J8l

theorem W.z1n (u5 : Nat) (u1 : List (List (ByteArray × (List Int)))) (r : Int) (h : M.post_lists_string_uint64_size u5 u1 = some r) {nz wz S0 w0 Lr} (gx0 u4 u2) (p0 : Hp nz wz S0 w0 ((some gx0, .row 69 [.map (some u4)] 1 0) :: (none, .seg 65 u2) :: Lr)) (u6 : Pa 65 S0 u5 u4) (u3 : Pl (oMap Value.string (kSl (kInt .u64))) S0 w0 u2 u1) :
  Calls Try.prog 57 #[(pt gx0 0)] w0 (Rets (Post.z1n nz wz S0 w0 Lr gx0 u4 u2 u5 u1 r)) := by
 refine calls_of_goes (fn := Try.f57) (c := B57) (by kernel_rfl) (by kernel_rfl) 19 (by kernel_rfl) ?_
 refine Goes.jp 20 [(0, (pt gx0 0))] (fun junk => ?_)
 delta M.post_lists_string_uint64_size at h
 refine Goes.rn 14 [(2, .i 0), (3, .i 0), (6, (pt gx0 0)), (7, (pt gx0 0)), (8, (pt gx0 0))] J8m ?_
 refine Goes.ld 65 (.tmp 8) 9 65 ⟨gx0, 0, none⟩ (.map (some u4)) (p0.c 0 0) ?_
 refine Op_.rgM 65 (.tmp 9) 10 0 9 22 1 p0 rfl u3 u6 Goes.v (by kernel_rfl) (by kernel_rfl) ?_
 intro r2 w2 es3 ck4 z2 p2 e6 f5
 have p2 : Hp nz wz S0 w2 ((some r2, .obj (.mapIter (some u4) ck4 (#[]) ck4)) :: (some gx0, .row 69 [.map (some u4)] 1 0) :: (none, .seg 65 u2) :: Lr) := p2
 refine Goes.rn 3 [] J8e ?_
 exact Goes.jp 20 [(3, .i 0), (10, (pt r2 0))] (W.z1o gx0 u4 u2 _ _ h _ _ ((Ext.refl S0 w0).trans z2) r2 u4 es3 ck4 (#[]) p2 f5 (u6.ext z2) (u3.ext z2) e6)

def Q6v := sub [1, 1] B40
def J8n : List Item := [.code Q6v]
def Q6w := sub [1, 0, 1] B40
def J8o : List Item := .code Q6w :: J8n
def Q6x := sub [1, 0, 0] B40
def J8p : List Item := .inRegion (opsOf Q6x) [1, 2] :: J8o
def Q6y := sub [1, 1, 1] B40
def J8q : List Item := [.code Q6y]
def Q6z := sub [1, 1, 0] B40
def J8r : List Item := .inRegion (opsOf Q6z) [3, 4] :: J8q

def Post.z1p (gx0 : Nat) (u4 : Nat) (u2 : List (Nat × Obj)) (u5 : Nat) (u1 : List (List (ByteArray × (List Int)))) (r : Int) (v : Value) (w' : World) : Prop :=
 ∃ S', v = .i r ∧ Ext S0 w0 S' w' ∧ Hp nz wz S' w' ((some gx0, .row 69 [.map (some u4)] 1 0) :: (none, .seg 65 u2) :: Lr)

theorem W.z1p (u5 : Nat) (u1 : List (List (ByteArray × (List Int)))) (r : Int) (h : M.post_Index_Size u5 u1 = some r) {nz wz S0 w0 Lr} (gx0 u4 u2) (p0 : Hp nz wz S0 w0 ((some gx0, .row 69 [.map (some u4)] 1 0) :: (none, .seg 65 u2) :: Lr)) (u6 : Pa 65 S0 u5 u4) (u3 : Pl (oMap Value.string (kSl (kInt .u64))) S0 w0 u2 u1) :
  Calls Try.prog 40 #[(pt gx0 0)] w0 (Rets (Post.z1p nz wz S0 w0 Lr gx0 u4 u2 u5 u1 r)) := by
 refine calls_of_goes (fn := Try.f40) (c := B40) (by kernel_rfl) (by kernel_rfl) 9 (by kernel_rfl) ?_
 refine Goes.jp 10 [(0, (pt gx0 0))] (fun junk => ?_)
 delta M.post_Index_Size at h
 refine Goes.rn 8 [(2, .i 0), (3, (pt gx0 0))] J8p ?_
 refine bind_some' h fun y2 e3 h => ?_
 refine Goes.cal (kc 52 [3] #[47]) 4 4 52 _ (W.z2 u5 y2 e3 gx0 u4 p0 u6) ?_
 rintro _ w2 ⟨S2, rfl, z2, p2⟩
 refine Goes.rn 9 [(5, .bool (!true)), (6, (pt gx0 0)), (7, (pt gx0 0)), (8, (pt gx0 0))] J8r ?_
 refine bind_some' h fun y4 e5 h => ?_
 refine Goes.cal (kc 57 [8] #[67]) 9 3 57 _ (W.z1n u5 u1 y4 e5 gx0 u4 u2 p2 (u6.ext z2) (u3.ext z2)) ?_
 rintro _ w3 ⟨S3, rfl, z3, p3⟩
 refine Goes.rn 2 [(2, .i y4)] J8q ?_
 obtain rfl := Option.some.inj h
 exact Goes.rt Try.f40 (.i y4) ⟨S3, rfl, (((Ext.refl S0 w0).trans z2).trans z3), p3⟩

def Q70 := sub [1, 1] B44
def J8s : List Item := [.code Q70]

def Post.z1q (r : Bool) (v : Value) (w' : World) : Prop :=
 ∃ S', v = .bool r ∧ Ext S0 w0 S' w' ∧ Hp nz wz S' w' (Lr)

theorem W.z1q (x0 : Int) (r : Bool) (h : M.post_first x0 = some r) {nz wz S0 w0 Lr} (p0 : Hp nz wz S0 w0 (Lr)) :
  Calls Try.prog 44 #[.i x0] w0 (Rets (Post.z1q nz wz S0 w0 Lr r)) := by
 refine calls_of_goes (fn := Try.f44) (c := B44) (by kernel_rfl) (by kernel_rfl) 4 (by kernel_rfl) ?_
 refine Goes.jp 5 [(0, .i x0)] (fun junk => ?_)
 delta M.post_first at h
 refine Goes.rn 10 [(2, .bool (decide (x0 = 1))), (3, .i x0), (4, .bool (decide (x0 = 1)))] J8s ?_
 obtain rfl := Option.some.inj h
 exact Goes.rt Try.f44 (.bool (decide (x0 = 1))) ⟨S0, rfl, (Ext.refl S0 w0), p0⟩

def Post.z1r (lk : Nat) (rk : Nat) (jkk : Nat → Value) (ui : Nat) (uj : Nat) (uk : Nat) (ul : Option Addr) (um : Nat) (un : Nat) (uo : Nat) (up : Option Addr) (uq : Nat) (ur : Nat) (ut : List Int) (uu : List Int) (r : List Int) (v : Value) (w' : World) : Prop :=
 ∃ S' uv uw ux uy, v = .bool true ∧ Ext S0 w0 S' w' ∧ Hp nz wz S' w' ((some lk, .obj (lpst 58 (lfr 23 [(5, (pt ui 0)), (7, (pt uj 0)), (12, .func (.func 68) #[] #[(pt uk 0), (pt uo 0)])] jkk) #[13, 14] (rfAssign (Q10)) (rfBody (Q10)) rk .ready none)) :: (some ui, .row 72 [.func (.func 44) #[] #[]] 1 0) :: (some uj, .row 22 [.slice (Gp uv) uw ux] 1 0) :: (uv, .row 35 uy (ux * (kInt .u64).size) 0) :: (some uk, .row 22 [.slice ul um un] 1 0) :: (some uo, .row 22 [.slice up uq ur] 1 0) :: Lr) ∧ Els (kInt .u64) S' w' uy r ∧ r.length = uw

theorem W.z1r (uz : List Int) (ut : List Int) (uu : List Int) (a0 : Int) (a1 : Int) (r : List Int) (h : M.post_those_uint64__r_2 uz ut uu a0 a1 = some r) {nz wz S0 w0 Lr} (lk rk jkk ui uj u10 u11 u12 u13 uk ul um un uo up uq ur) (p0 : Hp nz wz S0 w0 ((some lk, .obj (lpst 58 (lfr 23 [(5, (pt ui 0)), (7, (pt uj 0)), (12, .func (.func 68) #[] #[(pt uk 0), (pt uo 0)])] jkk) #[13, 14] (rfAssign (Q10)) (rfBody (Q10)) rk .ready none)) :: (some ui, .row 72 [.func (.func 44) #[] #[]] 1 0) :: (some uj, .row 22 [.slice (Gp u10) u11 u12] 1 0) :: (u10, .row 35 u13 (u12 * (kInt .u64).size) 0) :: (some uk, .row 22 [.slice ul um un] 1 0) :: (some uo, .row 22 [.slice up uq ur] 1 0) :: Lr)) (u14 : Els (kInt .u64) S0 w0 u13 uz) (u15 : uz.length = u11) (u16 : Rd (kInt .u64) S0 w0 ul un ut) (u17 : ut.length = um) (u18 : Rd (kInt .u64) S0 w0 up ur uu) (u19 : uu.length = uq) :
  Goes Try.prog (rbase 58 lk) [.code (rfAssign (Q10)), .beginRound, .code (rfBody (Q10))] ⟨setp (lfr 23 [(5, (pt ui 0)), (7, (pt uj 0)), (12, .func (.func 68) #[] #[(pt uk 0), (pt uo 0)])] jkk) #[13, 14] #[.u a0, .i a1], []⟩ w0 (DoneR (Post.z1r nz wz S0 w0 Lr lk rk jkk ui uj uk ul um un uo up uq ur ut uu r)) := by
 subst u15
 subst u17
 subst u19
 refine Goes.jp 23 [(5, (pt ui 0)), (7, (pt uj 0)), (12, .func (.func 68) #[] #[(pt uk 0), (pt uo 0)]), (13, .u a0), (14, .i a1)] (fun junk => ?_)
 delta M.post_those_uint64__r_2 at h
 refine Goes.rn 7 [(8, .u a0), (9, .i a1)] [.beginRound, .code (Q11)] ?_
 refine Goes.beginR 0 rfl p0 rfl ?_
 intro w2 z2 p2
 refine Goes.rn 3 [] J14 ?_
 refine Goes.ld 72 (.tmp 5) 15 72 ⟨ui, 0, none⟩ (.func (.func 44) #[] #[]) (p2.c 1 0) ?_
 refine Goes.rn 1 [(16, .i a1)] J15 ?_
 refine bind_some' h fun y7 e8 h => ?_
 refine Goes.cal (.call { callee := .value (.tmp 15), args := #[(.tmp 16)], argTypes := #[3] }) 17 4 44 _ (W.z1q a1 y7 e8  p2 ) ?_
 rintro _ w3 ⟨S3, rfl, z3, p3⟩
 refine Goes.rn 1 [] J13 ?_
 refine ite_some h (fun h9 h => ?_) (fun h9 h => ?_)
 ·
  rw [h9]
  refine Goes.rn 2 [] J16 ?_
  refine Goes.ld 22 (.tmp 7) 18 22 ⟨uj, 0, none⟩ (.slice (Gp u10) uz.length u12) (p3.c 2 0) ?_
  refine Goes.rn 1 [(19, .u a0)] J17 ?_
  have f11 : Els (kInt .u64) S3 w3 ([.u a0] : List Value) [a0] := by exact (Els.cons (K := (kInt .u64)) (vs := [.u a0]) (x := a0) rfl Els.nil)
  refine Op_.made (.buildSlice 22 1 #[(0, (.tmp 19))]) 20 22 (fun b => .slice (Gp (some b)) 1 1) 35 ([.u a0] : List Value) p3 Goes.v (by kernel_rfl) ?_
  intro b10 w4 z4 p4
  have p4 : Hp nz wz S3 w4 (((some b10), .row 35 ([.u a0] : List Value) (1 * (kInt .u64).size) 0) :: (some lk, .obj (lpst 58 (lfr 23 [(5, (pt ui 0)), (7, (pt uj 0)), (12, .func (.func 68) #[] #[(pt uk 0), (pt uo 0)])] jkk) #[13, 14] (rfAssign (Q10)) (rfBody (Q10)) rk .busy none)) :: (some ui, .row 72 [.func (.func 44) #[] #[]] 1 0) :: (some uj, .row 22 [.slice (Gp u10) uz.length u12] 1 0) :: (u10, .row 35 u13 (u12 * (kInt .u64).size) 0) :: (some uk, .row 22 [.slice ul ut.length un] 1 0) :: (some uo, .row 22 [.slice up uu.length ur] 1 0) :: Lr) := p4
  refine guard_some' h fun g16 h => ?_
  refine Op_.ap_n (K := (kInt .u64)) 22 (.tmp 18) (.tmp 20) 21 22 35 4 (.u 0) 8 uz.length u12 1 uz [a0] (uz ++ [a0]) (Gp (some b10)) 1 rfl rfl rfl p4 rfl (u14.ext ((z2.trans z3).trans z4)) Goes.v (by kernel_rfl) (by kernel_rfl) (by kernel_rfl) (by kernel_rfl) rfl (by decide) (f11.ext z4) (src_own p4 (q := 0) rfl) (by have := g16; omega) (by have := g16; omega) ?_
  intro w5 G17 c18 u1a z5 p5 f20
  refine Op_.st 22 (.tmp 7) (.tmp 21) 0 3 uj 0 (.slice (Gp G17) ((uz ++ [a0]).length) c18) [.slice (Gp G17) ((uz ++ [a0]).length) c18] p5 rfl Goes.s (by kernel_rfl) (by kernel_rfl) (by kernel_rfl) (by kernel_rfl) (Nat.zero_le _) (by simp only [List.length_cons, List.length_nil]; omega) (by simp [Value.oneCell']) ?_
  intro w6 z6 p6
  have p6 : Hp nz wz S3 w6 (((some b10), .row 35 ([.u a0] : List Value) (1 * (kInt .u64).size) 0) :: (some lk, .obj (lpst 58 (lfr 23 [(5, (pt ui 0)), (7, (pt uj 0)), (12, .func (.func 68) #[] #[(pt uk 0), (pt uo 0)])] jkk) #[13, 14] (rfAssign (Q10)) (rfBody (Q10)) rk .busy none)) :: (some ui, .row 72 [.func (.func 44) #[] #[]] 1 0) :: (some uj, .row 22 [.slice (Gp G17) ((uz ++ [a0]).length) c18] 1 0) :: (G17, .row 35 u1a (c18 * (kInt .u64).size) 0) :: (some uk, .row 22 [.slice ul ut.length un] 1 0) :: (some uo, .row 22 [.slice up uu.length ur] 1 0) :: Lr) := p6
  refine Goes.rn 2 [] [] ?_
  have p6 := p6.dp 0
  obtain rfl := Option.some.inj h
  refine Goes.endR 0 p6 rfl ?_
  intro w7 z7 p7
  exact ⟨S3, G17, (uz ++ [a0]).length, c18, u1a, rfl, (((((((Ext.refl S0 w0).trans z2).trans z3).trans z4).trans z5).trans z6).trans z7), p7, (f20.ext (z6.trans z7)), rfl⟩
 ·
  have h9' : y7 = false := by simpa using h9
  rw [h9']
  refine Goes.rn 3 [] [] ?_
  obtain rfl := Option.some.inj h
  refine Goes.endR 0 p3 rfl ?_
  intro w8 z8 p8
  exact ⟨S3, u10, uz.length, u12, u13, rfl, ((((Ext.refl S0 w0).trans z2).trans z3).trans z8), p8, (u14.ext ((z2.trans z3).trans z8)), rfl⟩

def Post.z1s (lx0 : Nat) (rx0 : Nat) (u1b : Nat → Value) (u1c : Nat) (u1d : Nat) (u1e : Nat) (u1f : Nat) (r : (List Int) × (List Int) × (List Int)) (v : Value) (w' : World) : Prop :=
 ∃ S' uv uw ux uy u1g u1h u1i u1j u1k u1l, v = .tuple #[] ∧ Ext S0 w0 S' w' ∧ Hp nz wz S' w' ((some lx0, .obj (lpst 58 (lfr 23 [(5, (pt u1c 0)), (7, (pt u1d 0)), (12, .func (.func 68) #[] #[(pt u1e 0), (pt u1f 0)])] u1b) #[13, 14] (rfAssign (Q10)) (rfBody (Q10)) rx0 .ready none)) :: (some u1c, .row 72 [.func (.func 44) #[] #[]] 1 0) :: (some u1d, .row 22 [.slice (Gp uv) uw ux] 1 0) :: (uv, .row 35 uy (ux * (kInt .u64).size) 0) :: (some u1e, .row 22 [.slice u1g u1h u1i] 1 0) :: (some u1f, .row 22 [.slice u1j u1k u1l] 1 0) :: Lr) ∧ Els (kInt .u64) S' w' uy r.1 ∧ r.1.length = uw ∧ Rd (kInt .u64) S' w' u1g u1i r.2.1 ∧ r.2.1.length = u1h ∧ Rd (kInt .u64) S' w' u1j u1l r.2.2 ∧ r.2.2.length = u1k

def L.z1t (lx0 : Nat) (rx0 : Nat) (u1b : Nat → Value) (u1c : Nat) (u1d : Nat) (u1e : Nat) (u1f : Nat) : (List Int) × (List Int) × (List Int) → ((List Int) × (List Int) × (List Int)) → Prop := fun ⟨u1m, u1n, u1o⟩ r => ∀ S1 w1, Ext S0 w0 S1 w1 → ∀ uv uw ux uy u1g u1h u1i u1j u1k u1l (_ : Hp nz wz S1 w1 ((some lx0, .obj (lpst 58 (lfr 23 [(5, (pt u1c 0)), (7, (pt u1d 0)), (12, .func (.func 68) #[] #[(pt u1e 0), (pt u1f 0)])] u1b) #[13, 14] (rfAssign (Q10)) (rfBody (Q10)) rx0 .ready none)) :: (some u1c, .row 72 [.func (.func 44) #[] #[]] 1 0) :: (some u1d, .row 22 [.slice (Gp uv) uw ux] 1 0) :: (uv, .row 35 uy (ux * (kInt .u64).size) 0) :: (some u1e, .row 22 [.slice u1g u1h u1i] 1 0) :: (some u1f, .row 22 [.slice u1j u1k u1l] 1 0) :: Lr)) (_ : Els (kInt .u64) S1 w1 uy u1m) (_ : u1m.length = uw) (_ : Rd (kInt .u64) S1 w1 u1g u1i u1n) (_ : u1n.length = u1h) (_ : Rd (kInt .u64) S1 w1 u1j u1l u1o) (_ : u1o.length = u1k) (junk : Nat → Value),
 Goes Try.prog (base 68) J1a ⟨lfr 73 [(0, yieldV lx0), (1, (pt u1e 0)), (2, (pt u1f 0))] junk, []⟩ w1 (Done Try.prog 68 (Rets (Post.z1s nz wz S0 w0 Lr lx0 rx0 u1b u1c u1d u1e u1f r)))

def L.z1u (lx0 : Nat) (rx0 : Nat) (u1b : Nat → Value) (u1c : Nat) (u1d : Nat) (u1e : Nat) (u1f : Nat) : Bool × (List Int) × (List Int) × (List Int) → ((List Int) × (List Int) × (List Int)) → Prop := fun ⟨x13, u1m, u1n, u1o⟩ r => ∀ S1 w1, Ext S0 w0 S1 w1 → ∀ uv uw ux uy u1g u1h u1i u1j u1k u1l (_ : Hp nz wz S1 w1 ((some lx0, .obj (lpst 58 (lfr 23 [(5, (pt u1c 0)), (7, (pt u1d 0)), (12, .func (.func 68) #[] #[(pt u1e 0), (pt u1f 0)])] u1b) #[13, 14] (rfAssign (Q10)) (rfBody (Q10)) rx0 .ready none)) :: (some u1c, .row 72 [.func (.func 44) #[] #[]] 1 0) :: (some u1d, .row 22 [.slice (Gp uv) uw ux] 1 0) :: (uv, .row 35 uy (ux * (kInt .u64).size) 0) :: (some u1e, .row 22 [.slice u1g u1h u1i] 1 0) :: (some u1f, .row 22 [.slice u1j u1k u1l] 1 0) :: Lr)) (_ : Els (kInt .u64) S1 w1 uy u1m) (_ : u1m.length = uw) (_ : Rd (kInt .u64) S1 w1 u1g u1i u1n) (_ : u1n.length = u1h) (_ : Rd (kInt .u64) S1 w1 u1j u1l u1o) (_ : u1o.length = u1k) (junk : Nat → Value),
 Goes Try.prog (base 68) J1c ⟨lfr 73 [(0, yieldV lx0), (1, (pt u1e 0)), (2, (pt u1f 0)), (13, .bool x13)] junk, []⟩ w1 (Done Try.prog 68 (Rets (Post.z1s nz wz S0 w0 Lr lx0 rx0 u1b u1c u1d u1e u1f r)))

def L.z1v (lx0 : Nat) (rx0 : Nat) (u1b : Nat → Value) (u1c : Nat) (u1d : Nat) (u1e : Nat) (u1f : Nat) : Int × Bool × (List Int) × (List Int) × (List Int) → ((List Int) × (List Int) × (List Int)) → Prop := fun ⟨x4, x30, u1m, u1n, u1o⟩ r => ∀ S1 w1, Ext S0 w0 S1 w1 → ∀ uv uw ux uy u1g u1h u1i u1j u1k u1l (_ : Hp nz wz S1 w1 ((some lx0, .obj (lpst 58 (lfr 23 [(5, (pt u1c 0)), (7, (pt u1d 0)), (12, .func (.func 68) #[] #[(pt u1e 0), (pt u1f 0)])] u1b) #[13, 14] (rfAssign (Q10)) (rfBody (Q10)) rx0 .ready none)) :: (some u1c, .row 72 [.func (.func 44) #[] #[]] 1 0) :: (some u1d, .row 22 [.slice (Gp uv) uw ux] 1 0) :: (uv, .row 35 uy (ux * (kInt .u64).size) 0) :: (some u1e, .row 22 [.slice u1g u1h u1i] 1 0) :: (some u1f, .row 22 [.slice u1j u1k u1l] 1 0) :: Lr)) (_ : Els (kInt .u64) S1 w1 uy u1m) (_ : u1m.length = uw) (_ : Rd (kInt .u64) S1 w1 u1g u1i u1n) (_ : u1n.length = u1h) (_ : Rd (kInt .u64) S1 w1 u1j u1l u1o) (_ : u1o.length = u1k) (junk : Nat → Value),
 Goes Try.prog (base 68) J1f ⟨lfr 73 [(0, yieldV lx0), (1, (pt u1e 0)), (2, (pt u1f 0)), (4, .i x4), (30, .bool x30)] junk, []⟩ w1 (Done Try.prog 68 (Rets (Post.z1s nz wz S0 w0 Lr lx0 rx0 u1b u1c u1d u1e u1f r)))

def L.z1w (lx0 : Nat) (rx0 : Nat) (u1b : Nat → Value) (u1c : Nat) (u1d : Nat) (u1e : Nat) (u1f : Nat) : Int × (List Int) × (List Int) × (List Int) → ((List Int) × (List Int) × (List Int)) → Prop := fun ⟨x4, u1m, u1n, u1o⟩ r => ∀ S1 w1, Ext S0 w0 S1 w1 → ∀ uv uw ux uy u1g u1h u1i u1j u1k u1l (_ : Hp nz wz S1 w1 ((some lx0, .obj (lpst 58 (lfr 23 [(5, (pt u1c 0)), (7, (pt u1d 0)), (12, .func (.func 68) #[] #[(pt u1e 0), (pt u1f 0)])] u1b) #[13, 14] (rfAssign (Q10)) (rfBody (Q10)) rx0 .ready none)) :: (some u1c, .row 72 [.func (.func 44) #[] #[]] 1 0) :: (some u1d, .row 22 [.slice (Gp uv) uw ux] 1 0) :: (uv, .row 35 uy (ux * (kInt .u64).size) 0) :: (some u1e, .row 22 [.slice u1g u1h u1i] 1 0) :: (some u1f, .row 22 [.slice u1j u1k u1l] 1 0) :: Lr)) (_ : Els (kInt .u64) S1 w1 uy u1m) (_ : u1m.length = uw) (_ : Rd (kInt .u64) S1 w1 u1g u1i u1n) (_ : u1n.length = u1h) (_ : Rd (kInt .u64) S1 w1 u1j u1l u1o) (_ : u1o.length = u1k) (junk : Nat → Value),
 Goes Try.prog (base 68) J1e ⟨lfr 73 [(0, yieldV lx0), (1, (pt u1e 0)), (2, (pt u1f 0)), (4, .i x4)] junk, []⟩ w1 (Done Try.prog 68 (Rets (Post.z1s nz wz S0 w0 Lr lx0 rx0 u1b u1c u1d u1e u1f r)))

def L.z1x (lx0 : Nat) (rx0 : Nat) (u1b : Nat → Value) (u1c : Nat) (u1d : Nat) (u1e : Nat) (u1f : Nat) : Int × Bool × (List Int) × (List Int) × (List Int) → ((List Int) × (List Int) × (List Int)) → Prop := fun ⟨x4, x49, u1m, u1n, u1o⟩ r => ∀ S1 w1, Ext S0 w0 S1 w1 → ∀ uv uw ux uy u1g u1h u1i u1j u1k u1l (_ : Hp nz wz S1 w1 ((some lx0, .obj (lpst 58 (lfr 23 [(5, (pt u1c 0)), (7, (pt u1d 0)), (12, .func (.func 68) #[] #[(pt u1e 0), (pt u1f 0)])] u1b) #[13, 14] (rfAssign (Q10)) (rfBody (Q10)) rx0 .ready none)) :: (some u1c, .row 72 [.func (.func 44) #[] #[]] 1 0) :: (some u1d, .row 22 [.slice (Gp uv) uw ux] 1 0) :: (uv, .row 35 uy (ux * (kInt .u64).size) 0) :: (some u1e, .row 22 [.slice u1g u1h u1i] 1 0) :: (some u1f, .row 22 [.slice u1j u1k u1l] 1 0) :: Lr)) (_ : Els (kInt .u64) S1 w1 uy u1m) (_ : u1m.length = uw) (_ : Rd (kInt .u64) S1 w1 u1g u1i u1n) (_ : u1n.length = u1h) (_ : Rd (kInt .u64) S1 w1 u1j u1l u1o) (_ : u1o.length = u1k) (junk : Nat → Value),
 Goes Try.prog (base 68) J1h ⟨lfr 73 [(0, yieldV lx0), (1, (pt u1e 0)), (2, (pt u1f 0)), (4, .i x4), (49, .bool x49)] junk, []⟩ w1 (Done Try.prog 68 (Rets (Post.z1s nz wz S0 w0 Lr lx0 rx0 u1b u1c u1d u1e u1f r)))

def L.z1y (lx0 : Nat) (rx0 : Nat) (u1b : Nat → Value) (u1c : Nat) (u1d : Nat) (u1e : Nat) (u1f : Nat) : Int × (List Int) × (List Int) × (List Int) → ((List Int) × (List Int) × (List Int)) → Prop := fun ⟨x4, u1m, u1n, u1o⟩ r => ∀ S1 w1, Ext S0 w0 S1 w1 → ∀ uv uw ux uy u1g u1h u1i u1j u1k u1l (_ : Hp nz wz S1 w1 ((some lx0, .obj (lpst 58 (lfr 23 [(5, (pt u1c 0)), (7, (pt u1d 0)), (12, .func (.func 68) #[] #[(pt u1e 0), (pt u1f 0)])] u1b) #[13, 14] (rfAssign (Q10)) (rfBody (Q10)) rx0 .ready none)) :: (some u1c, .row 72 [.func (.func 44) #[] #[]] 1 0) :: (some u1d, .row 22 [.slice (Gp uv) uw ux] 1 0) :: (uv, .row 35 uy (ux * (kInt .u64).size) 0) :: (some u1e, .row 22 [.slice u1g u1h u1i] 1 0) :: (some u1f, .row 22 [.slice u1j u1k u1l] 1 0) :: Lr)) (_ : Els (kInt .u64) S1 w1 uy u1m) (_ : u1m.length = uw) (_ : Rd (kInt .u64) S1 w1 u1g u1i u1n) (_ : u1n.length = u1h) (_ : Rd (kInt .u64) S1 w1 u1j u1l u1o) (_ : u1o.length = u1k) (junk : Nat → Value),
 Goes Try.prog (base 68) J1g ⟨lfr 73 [(0, yieldV lx0), (1, (pt u1e 0)), (2, (pt u1f 0)), (4, .i x4)] junk, []⟩ w1 (Done Try.prog 68 (Rets (Post.z1s nz wz S0 w0 Lr lx0 rx0 u1b u1c u1d u1e u1f r)))

def L.z1z (lx0 : Nat) (rx0 : Nat) (u1b : Nat → Value) (u1c : Nat) (u1d : Nat) (u1e : Nat) (u1f : Nat) : Int × Int × (List Int) × (List Int) × (List Int) → ((List Int) × (List Int) × (List Int)) → Prop := fun ⟨x4, x5, u1m, u1n, u1o⟩ r => ∀ S1 w1, Ext S0 w0 S1 w1 → ∀ uv uw ux uy u1g u1h u1i u1j u1k u1l (_ : Hp nz wz S1 w1 ((some lx0, .obj (lpst 58 (lfr 23 [(5, (pt u1c 0)), (7, (pt u1d 0)), (12, .func (.func 68) #[] #[(pt u1e 0), (pt u1f 0)])] u1b) #[13, 14] (rfAssign (Q10)) (rfBody (Q10)) rx0 .ready none)) :: (some u1c, .row 72 [.func (.func 44) #[] #[]] 1 0) :: (some u1d, .row 22 [.slice (Gp uv) uw ux] 1 0) :: (uv, .row 35 uy (ux * (kInt .u64).size) 0) :: (some u1e, .row 22 [.slice u1g u1h u1i] 1 0) :: (some u1f, .row 22 [.slice u1j u1k u1l] 1 0) :: Lr)) (_ : Els (kInt .u64) S1 w1 uy u1m) (_ : u1m.length = uw) (_ : Rd (kInt .u64) S1 w1 u1g u1i u1n) (_ : u1n.length = u1h) (_ : Rd (kInt .u64) S1 w1 u1j u1l u1o) (_ : u1o.length = u1k) (junk : Nat → Value),
 Goes Try.prog (base 68) J1i ⟨lfr 73 [(0, yieldV lx0), (1, (pt u1e 0)), (2, (pt u1f 0)), (4, .i x4), (5, .u x5)] junk, []⟩ w1 (Done Try.prog 68 (Rets (Post.z1s nz wz S0 w0 Lr lx0 rx0 u1b u1c u1d u1e u1f r)))

def L.z20 (lx0 : Nat) (rx0 : Nat) (u1b : Nat → Value) (u1c : Nat) (u1d : Nat) (u1e : Nat) (u1f : Nat) : Int × Int × (List Int) × (List Int) × (List Int) → ((List Int) × (List Int) × (List Int)) → Prop := fun ⟨x4, x5, u1m, u1n, u1o⟩ r => ∀ S1 w1, Ext S0 w0 S1 w1 → ∀ uv uw ux uy u1g u1h u1i u1j u1k u1l (_ : Hp nz wz S1 w1 ((some lx0, .obj (lpst 58 (lfr 23 [(5, (pt u1c 0)), (7, (pt u1d 0)), (12, .func (.func 68) #[] #[(pt u1e 0), (pt u1f 0)])] u1b) #[13, 14] (rfAssign (Q10)) (rfBody (Q10)) rx0 .ready none)) :: (some u1c, .row 72 [.func (.func 44) #[] #[]] 1 0) :: (some u1d, .row 22 [.slice (Gp uv) uw ux] 1 0) :: (uv, .row 35 uy (ux * (kInt .u64).size) 0) :: (some u1e, .row 22 [.slice u1g u1h u1i] 1 0) :: (some u1f, .row 22 [.slice u1j u1k u1l] 1 0) :: Lr)) (_ : Els (kInt .u64) S1 w1 uy u1m) (_ : u1m.length = uw) (_ : Rd (kInt .u64) S1 w1 u1g u1i u1n) (_ : u1n.length = u1h) (_ : Rd (kInt .u64) S1 w1 u1j u1l u1o) (_ : u1o.length = u1k) (junk : Nat → Value),
 Goes Try.prog (base 68) J1j ⟨lfr 73 [(0, yieldV lx0), (1, (pt u1e 0)), (2, (pt u1f 0)), (4, .i x4), (5, .u x5)] junk, []⟩ w1 (Done Try.prog 68 (Rets (Post.z1s nz wz S0 w0 Lr lx0 rx0 u1b u1c u1d u1e u1f r)))

theorem W.z21 {nz wz S0 w0 Lr} (lx0 : Nat) (rx0 : Nat) (u1b : Nat → Value) (u1c : Nat) (u1d : Nat) (u1e : Nat) (u1f : Nat) : (∀ a r, M.post_merge_uint64_1_2_l0 a = some r → (L.z1t nz wz S0 w0 Lr lx0 rx0 u1b u1c u1d u1e u1f) a r) ∧ (∀ a r, M.post_merge_uint64_1_2_l1 a = some r → (L.z1u nz wz S0 w0 Lr lx0 rx0 u1b u1c u1d u1e u1f) a r) ∧ (∀ a r, M.post_merge_uint64_1_2_l2 a = some r → (L.z1v nz wz S0 w0 Lr lx0 rx0 u1b u1c u1d u1e u1f) a r) ∧ (∀ a r, M.post_merge_uint64_1_2_l3 a = some r → (L.z1w nz wz S0 w0 Lr lx0 rx0 u1b u1c u1d u1e u1f) a r) ∧ (∀ a r, M.post_merge_uint64_1_2_l4 a = some r → (L.z1x nz wz S0 w0 Lr lx0 rx0 u1b u1c u1d u1e u1f) a r) ∧ (∀ a r, M.post_merge_uint64_1_2_l5 a = some r → (L.z1y nz wz S0 w0 Lr lx0 rx0 u1b u1c u1d u1e u1f) a r) ∧ (∀ a r, M.post_merge_uint64_1_2_l6 a = some r → (L.z1z nz wz S0 w0 Lr lx0 rx0 u1b u1c u1d u1e u1f) a r) ∧ (∀ a r, M.post_merge_uint64_1_2_l7 a = some r → (L.z20 nz wz S0 w0 Lr lx0 rx0 u1b u1c u1d u1e u1f) a r) := by
 refine M.post_merge_uint64_1_2_l0.mutual_partial_correctness (L.z1t nz wz S0 w0 Lr lx0 rx0 u1b u1c u1d u1e u1f) (L.z1u nz wz S0 w0 Lr lx0 rx0 u1b u1c u1d u1e u1f) (L.z1v nz wz S0 w0 Lr lx0 rx0 u1b u1c u1d u1e u1f) (L.z1w nz wz S0 w0 Lr lx0 rx0 u1b u1c u1d u1e u1f) (L.z1x nz wz S0 w0 Lr lx0 rx0 u1b u1c u1d u1e u1f) (L.z1y nz wz S0 w0 Lr lx0 rx0 u1b u1c u1d u1e u1f) (L.z1z nz wz S0 w0 Lr lx0 rx0 u1b u1c u1d u1e u1f) (L.z20 nz wz S0 w0 Lr lx0 rx0 u1b u1c u1d u1e u1f) ?_ ?_ ?_ ?_ ?_ ?_ ?_ ?_
 ·
  intro u8y u8z ⟨u1m, u1n, u1o⟩ r h S1 w1 hx uv uw ux uy u1g u1h u1i u1j u1k u1l p1 u1r u1s u1t u1u u1v u1w junk
  try dsimp only at h
  subst u1s
  subst u1u
  subst u1w
  refine Goes.rn 3 [] J1k ?_
  refine Goes.ld 22 (.tmp 1) 6 22 ⟨u1e, 0, none⟩ (.slice u1g u1n.length u1i) (p1.c 4 0) ?_
  refine Goes.rn 3 [(7, .i (u1n.length : Int)), (8, .bool (decide ((u1n.length : Int) > 0))), (9, .bool (decide ((u1n.length : Int) > 0)))] J1l ?_
  refine ite_some h (fun h8 h => ?_) (fun h8 h => ?_)
  ·
   rw [decide_eq_true h8]
   refine Goes.rn 5 [(10, undef), (11, undef), (12, undef), (13, .bool true)] J1c ?_
   exact Goes.jp 73 [(0, yieldV lx0), (1, (pt u1e 0)), (2, (pt u1f 0)), (13, .bool true)] (u8z _ _ h _ _ hx uv u1m.length ux uy u1g u1n.length u1i u1j u1o.length u1l p1 u1r rfl u1t rfl u1v rfl)
  ·
   rw [decide_eq_false h8]
   refine Goes.ld 22 (.tmp 2) 10 22 ⟨u1f, 0, none⟩ (.slice u1j u1o.length u1l) (p1.c 5 0) ?_
   refine Goes.rn 4 [(11, .i (u1o.length : Int)), (12, .bool (decide ((u1o.length : Int) > 0))), (13, .bool (decide ((u1o.length : Int) > 0)))] J1c ?_
   exact Goes.jp 73 [(0, yieldV lx0), (1, (pt u1e 0)), (2, (pt u1f 0)), (13, .bool (decide ((u1o.length : Int) > 0)))] (u8z _ _ h _ _ hx uv u1m.length ux uy u1g u1n.length u1i u1j u1o.length u1l p1 u1r rfl u1t rfl u1v rfl)
 ·
  intro u90 u91 ⟨x13, u1m, u1n, u1o⟩ r h S1 w1 hx uv uw ux uy u1g u1h u1i u1j u1k u1l p1 u1r u1s u1t u1u u1v u1w junk
  try dsimp only at h
  subst u1s
  subst u1u
  subst u1w
  refine ite_some h (fun h10 h => ?_) (fun h10 h => ?_)
  ·
   rw [h10]
   refine Goes.rn 9 [(4, .i 0)] J1m ?_
   have z2 : Ext S1 w1 S1 (w1).drew := Ext.draw
   have p2 := p1.draw
   refine Goes.drawn (s := []) (F := Fc S1 (w1).drew [(⟨u1f, 0, none⟩, .slice u1j u1o.length u1l), (⟨u1e, 0, none⟩, .slice u1g u1n.length u1i)]) 2 17 (by kernel_rfl) (by kernel_rfl) (by kernel_rfl) (by kernel_rfl) ?_
   generalize (w1).drew = w2 at z2 p2 ⊢
   refine AnyG.ld1 (i := 0) 22 (.tmp 2) 14 22 ⟨u1f, 0, none⟩ (.slice u1j u1o.length u1l) (by kernel_rfl) (by kernel_rfl) (Fc.here (p2.cs [(5, 0, 1), (4, 0, 1)])) (by kernel_rfl) (by kernel_rfl) (fun _ h => h.2.at_ 0 rfl) ?_
   refine AnyG.pu 1 (.call { callee := .builtin .len, args := #[(.tmp 14)], argTypes := #[22] }) 15 3 (.i (u1o.length : Int)) (Fc.here (p2.cs [(5, 0, 1), (4, 0, 1)])) ?_
   refine AnyG.pu 2 (.binOp .eql 3 (.tmp 15) (.const (.int .i64 0)) 3) 16 4 (.bool (decide ((u1o.length : Int) = 0))) (Fc.here (p2.cs [(5, 0, 1), (4, 0, 1)])) ?_
   refine AnyG.pu 3 (.move (.tmp 16)) 17 4 (.bool (decide ((u1o.length : Int) = 0))) (Fc.here (p2.cs [(5, 0, 1), (4, 0, 1)])) ?_
   refine ite_some h (fun h11 h => ?_) (fun h11 h => ?_)
   ·
    rw [decide_eq_true h11]
    refine AnyG.s1 4 18 (Fc.here (p2.cs [(5, 0, 1), (4, 0, 1)])) ?_
    refine AnyG.s1 5 19 (Fc.here (p2.cs [(5, 0, 1), (4, 0, 1)])) ?_
    refine AnyG.s1 6 20 (Fc.here (p2.cs [(5, 0, 1), (4, 0, 1)])) ?_
    refine AnyG.s1 7 21 (Fc.here (p2.cs [(5, 0, 1), (4, 0, 1)])) ?_
    refine AnyG.s1 8 22 (Fc.here (p2.cs [(5, 0, 1), (4, 0, 1)])) ?_
    refine AnyG.s1 9 23 (Fc.here (p2.cs [(5, 0, 1), (4, 0, 1)])) ?_
    refine AnyG.s1 10 24 (Fc.here (p2.cs [(5, 0, 1), (4, 0, 1)])) ?_
    refine AnyG.s1 11 25 (Fc.here (p2.cs [(5, 0, 1), (4, 0, 1)])) ?_
    refine AnyG.s1 12 26 (Fc.here (p2.cs [(5, 0, 1), (4, 0, 1)])) ?_
    refine AnyG.s1 13 27 (Fc.here (p2.cs [(5, 0, 1), (4, 0, 1)])) ?_
    refine AnyG.s1 14 28 (Fc.here (p2.cs [(5, 0, 1), (4, 0, 1)])) ?_
    refine AnyG.s1 15 29 (Fc.here (p2.cs [(5, 0, 1), (4, 0, 1)])) ?_
    refine AnyG.pu 16 (.pick (.tmp 17) (.const (.bool true)) (.tmp 29)) 30 4 (.bool true) (Fc.here (p2.cs [(5, 0, 1), (4, 0, 1)])) ?_
    refine AnyG.done (by kernel_rfl) ?_ _
    exact Goes.jp 73 [(0, yieldV lx0), (1, (pt u1e 0)), (2, (pt u1f 0)), (4, .i 0), (30, .bool true)] (u91 _ _ h _ _ (hx.trans z2) uv u1m.length ux uy u1g u1n.length u1i u1j u1o.length u1l p2 (u1r.ext z2) rfl (u1t.ext z2) rfl (u1v.ext z2) rfl)
   ·
    rw [decide_eq_false h11]
    refine AnyG.ld1 (i := 4) 22 (.tmp 1) 18 22 ⟨u1e, 0, none⟩ (.slice u1g u1n.length u1i) (by kernel_rfl) (by kernel_rfl) (Fc.here (p2.cs [(5, 0, 1), (4, 0, 1)])) (by kernel_rfl) (by kernel_rfl) (fun _ h => h.2.at_ 1 rfl) ?_
    refine AnyG.pu 5 (.call { callee := .builtin .len, args := #[(.tmp 18)], argTypes := #[22] }) 19 3 (.i (u1n.length : Int)) (Fc.here (p2.cs [(5, 0, 1), (4, 0, 1)])) ?_
    refine AnyG.pu 6 (.binOp .gtr 3 (.tmp 19) (.const (.int .i64 0)) 3) 20 4 (.bool (decide ((u1n.length : Int) > 0))) (Fc.here (p2.cs [(5, 0, 1), (4, 0, 1)])) ?_
    refine AnyG.pu 7 (.move (.tmp 20)) 21 4 (.bool (decide ((u1n.length : Int) > 0))) (Fc.here (p2.cs [(5, 0, 1), (4, 0, 1)])) ?_
    refine ite_some h (fun h13 h => ?_) (fun h13 h => ?_)
    ·
     rw [decide_eq_true h13]
     refine AnyG.ld1 (i := 8) 22 (.tmp 1) 22 22 ⟨u1e, 0, none⟩ (.slice u1g u1n.length u1i) (by kernel_rfl) (by kernel_rfl) (Fc.here (p2.cs [(5, 0, 1), (4, 0, 1)])) (by kernel_rfl) (by kernel_rfl) (fun _ h => h.2.at_ 1 rfl) ?_
     refine guard_some' h fun g14 h => ?_
     refine AnyG.ixR_n (i := 9) 22 (.tmp 22) (.const (.int .i64 0)) 23 0 35 .i64 0 (gi u1n 0) rfl rfl (u1t.ext z2) (by kernel_rfl) (by kernel_rfl) (Fc.here (p2.cs [(5, 0, 1), (4, 0, 1)])) (by kernel_rfl) (by kernel_rfl) (by kernel_rfl) (by kernel_rfl) (by decide : (0 : Int) ≤ 0) g14 ?_
     intro a15 _ f16 q17
     obtain rfl := q17
     refine AnyG.ld1 (i := 10) 35 (.tmp 23) 24 35 a15 (.u (gi u1n 0)) (by kernel_rfl) (by kernel_rfl) (Fc.here (p2.cs [(5, 0, 1), (4, 0, 1)])) (by kernel_rfl) (by kernel_rfl) (fun _ h => f16.fc h 0 _ rfl) ?_
     refine AnyG.ld1 (i := 11) 22 (.tmp 2) 25 22 ⟨u1f, 0, none⟩ (.slice u1j u1o.length u1l) (by kernel_rfl) (by kernel_rfl) (Fc.here (p2.cs [(5, 0, 1), (4, 0, 1)])) (by kernel_rfl) (by kernel_rfl) (fun _ h => h.2.at_ 0 rfl) ?_
     refine guard_some' h fun g18 h => ?_
     refine AnyG.ixR_n (i := 12) 22 (.tmp 25) (.const (.int .i64 0)) 26 0 35 .i64 0 (gi u1o 0) rfl rfl (u1v.ext z2) (by kernel_rfl) (by kernel_rfl) (Fc.here (p2.cs [(5, 0, 1), (4, 0, 1)])) (by kernel_rfl) (by kernel_rfl) (by kernel_rfl) (by kernel_rfl) (by decide : (0 : Int) ≤ 0) g18 ?_
     intro a19 _ f20 q21
     obtain rfl := q21
     refine AnyG.ld1 (i := 13) 35 (.tmp 26) 27 35 a19 (.u (gi u1o 0)) (by kernel_rfl) (by kernel_rfl) (Fc.here (p2.cs [(5, 0, 1), (4, 0, 1)])) (by kernel_rfl) (by kernel_rfl) (fun _ h => f20.fc h 0 _ rfl) ?_
     refine AnyG.pu 14 (.binOp .leq 35 (.tmp 24) (.tmp 27) 35) 28 4 (.bool (decide (gi u1n 0 ≤ gi u1o 0))) (Fc.here (p2.cs [(5, 0, 1), (4, 0, 1)])) ?_
     refine AnyG.pu 15 (.pick (.tmp 21) (.tmp 28) (.const (.bool false))) 29 4 (.bool (decide (gi u1n 0 ≤ gi u1o 0))) (Fc.here (p2.cs [(5, 0, 1), (4, 0, 1)])) ?_
     refine AnyG.pu 16 (.pick (.tmp 17) (.const (.bool true)) (.tmp 29)) 30 4 (.bool (decide (gi u1n 0 ≤ gi u1o 0))) (Fc.here (p2.cs [(5, 0, 1), (4, 0, 1)])) ?_
     refine AnyG.done (by kernel_rfl) ?_ _
     exact Goes.jp 73 [(0, yieldV lx0), (1, (pt u1e 0)), (2, (pt u1f 0)), (4, .i 0), (30, .bool (decide (gi u1n 0 ≤ gi u1o 0)))] (u91 _ _ h _ _ (hx.trans z2) uv u1m.length ux uy u1g u1n.length u1i u1j u1o.length u1l p2 (u1r.ext z2) rfl (u1t.ext z2) rfl (u1v.ext z2) rfl)
    ·
     rw [decide_eq_false h13]
     refine AnyG.s1 8 22 (Fc.here (p2.cs [(5, 0, 1), (4, 0, 1)])) ?_
     refine AnyG.s1 9 23 (Fc.here (p2.cs [(5, 0, 1), (4, 0, 1)])) ?_
     refine AnyG.s1 10 24 (Fc.here (p2.cs [(5, 0, 1), (4, 0, 1)])) ?_
     refine AnyG.s1 11 25 (Fc.here (p2.cs [(5, 0, 1), (4, 0, 1)])) ?_
     refine AnyG.s1 12 26 (Fc.here (p2.cs [(5, 0, 1), (4, 0, 1)])) ?_
     refine AnyG.s1 13 27 (Fc.here (p2.cs [(5, 0, 1), (4, 0, 1)])) ?_
     refine AnyG.s1 14 28 (Fc.here (p2.cs [(5, 0, 1), (4, 0, 1)])) ?_
     refine AnyG.pu 15 (.pick (.tmp 21) (.tmp 28) (.const (.bool false))) 29 4 (.bool false) (Fc.here (p2.cs [(5, 0, 1), (4, 0, 1)])) ?_
     refine AnyG.pu 16 (.pick (.tmp 17) (.const (.bool true)) (.tmp 29)) 30 4 (.bool false) (Fc.here (p2.cs [(5, 0, 1), (4, 0, 1)])) ?_
     refine AnyG.done (by kernel_rfl) ?_ _
     exact Goes.jp 73 [(0, yieldV lx0), (1, (pt u1e 0)), (2, (pt u1f 0)), (4, .i 0), (30, .bool false)] (u91 _ _ h _ _ (hx.trans z2) uv u1m.length ux uy u1g u1n.length u1i u1j u1o.length u1l p2 (u1r.ext z2) rfl (u1t.ext z2) rfl (u1v.ext z2) rfl)
  ·
   have u1z : x13 = false := by simpa using h10
   rw [u1z]
   refine Goes.rn 2 [] [] ?_
   obtain rfl := Option.some.inj h
   exact Goes.end_ (fn := Try.f68) (by kernel_rfl) (v := .tuple #[]) (by kernel_rfl) ⟨S1, uv, u1m.length, ux, uy, u1g, u1n.length, u1i, u1j, u1o.length, u1l, rfl, hx, p1, u1r, rfl, u1t, rfl, u1v, rfl⟩
 ·
  intro u92 u93 ⟨x4, x30, u1m, u1n, u1o⟩ r h S1 w1 hx uv uw ux uy u1g u1h u1i u1j u1k u1l p1 u1r u1s u1t u1u u1v u1w junk
  try dsimp only at h
  subst u1s
  subst u1u
  subst u1w
  refine ite_some h (fun h22 h => ?_) (fun h22 h => ?_)
  ·
   rw [h22]
   refine Goes.rn 6 [(31, .i x4), (32, .i (ior .i64 x4 1)), (4, .i (ior .i64 x4 1))] J1e ?_
   exact Goes.jp 73 [(0, yieldV lx0), (1, (pt u1e 0)), (2, (pt u1f 0)), (4, .i (ior .i64 x4 1))] (u93 _ _ h _ _ hx uv u1m.length ux uy u1g u1n.length u1i u1j u1o.length u1l p1 u1r rfl u1t rfl u1v rfl)
  ·
   have u22 : x30 = false := by simpa using h22
   rw [u22]
   refine Goes.rn 2 [] J1e ?_
   exact Goes.jp 73 [(0, yieldV lx0), (1, (pt u1e 0)), (2, (pt u1f 0)), (4, .i x4)] (u93 _ _ h _ _ hx uv u1m.length ux uy u1g u1n.length u1i u1j u1o.length u1l p1 u1r rfl u1t rfl u1v rfl)
 ·
  intro u94 u95 ⟨x4, u1m, u1n, u1o⟩ r h S1 w1 hx uv uw ux uy u1g u1h u1i u1j u1k u1l p1 u1r u1s u1t u1u u1v u1w junk
  try dsimp only at h
  subst u1s
  subst u1u
  subst u1w
  refine Goes.rn 2 [] J1n ?_
  have z3 : Ext S1 w1 S1 (w1).drew := Ext.draw
  have p3 := p1.draw
  refine Goes.drawn (s := []) (F := Fc S1 (w1).drew [(⟨u1e, 0, none⟩, .slice u1g u1n.length u1i), (⟨u1f, 0, none⟩, .slice u1j u1o.length u1l)]) 4 17 (by kernel_rfl) (by kernel_rfl) (by kernel_rfl) (by kernel_rfl) ?_
  generalize (w1).drew = w3 at z3 p3 ⊢
  refine AnyG.ld1 (i := 0) 22 (.tmp 1) 33 22 ⟨u1e, 0, none⟩ (.slice u1g u1n.length u1i) (by kernel_rfl) (by kernel_rfl) (Fc.here (p3.cs [(4, 0, 1), (5, 0, 1)])) (by kernel_rfl) (by kernel_rfl) (fun _ h => h.2.at_ 0 rfl) ?_
  refine AnyG.pu 1 (.call { callee := .builtin .len, args := #[(.tmp 33)], argTypes := #[22] }) 34 3 (.i (u1n.length : Int)) (Fc.here (p3.cs [(4, 0, 1), (5, 0, 1)])) ?_
  refine AnyG.pu 2 (.binOp .eql 3 (.tmp 34) (.const (.int .i64 0)) 3) 35 4 (.bool (decide ((u1n.length : Int) = 0))) (Fc.here (p3.cs [(4, 0, 1), (5, 0, 1)])) ?_
  refine AnyG.pu 3 (.move (.tmp 35)) 36 4 (.bool (decide ((u1n.length : Int) = 0))) (Fc.here (p3.cs [(4, 0, 1), (5, 0, 1)])) ?_
  refine ite_some h (fun h24 h => ?_) (fun h24 h => ?_)
  ·
   rw [decide_eq_true h24]
   refine AnyG.s1 4 37 (Fc.here (p3.cs [(4, 0, 1), (5, 0, 1)])) ?_
   refine AnyG.s1 5 38 (Fc.here (p3.cs [(4, 0, 1), (5, 0, 1)])) ?_
   refine AnyG.s1 6 39 (Fc.here (p3.cs [(4, 0, 1), (5, 0, 1)])) ?_
   refine AnyG.s1 7 40 (Fc.here (p3.cs [(4, 0, 1), (5, 0, 1)])) ?_
   refine AnyG.s1 8 41 (Fc.here (p3.cs [(4, 0, 1), (5, 0, 1)])) ?_
   refine AnyG.s1 9 42 (Fc.here (p3.cs [(4, 0, 1), (5, 0, 1)])) ?_
   refine AnyG.s1 10 43 (Fc.here (p3.cs [(4, 0, 1), (5, 0, 1)])) ?_
   refine AnyG.s1 11 44 (Fc.here (p3.cs [(4, 0, 1), (5, 0, 1)])) ?_
   refine AnyG.s1 12 45 (Fc.here (p3.cs [(4, 0, 1), (5, 0, 1)])) ?_
   refine AnyG.s1 13 46 (Fc.here (p3.cs [(4, 0, 1), (5, 0, 1)])) ?_
   refine AnyG.s1 14 47 (Fc.here (p3.cs [(4, 0, 1), (5, 0, 1)])) ?_
   refine AnyG.s1 15 48 (Fc.here (p3.cs [(4, 0, 1), (5, 0, 1)])) ?_
   refine AnyG.pu 16 (.pick (.tmp 36) (.const (.bool true)) (.tmp 48)) 49 4 (.bool true) (Fc.here (p3.cs [(4, 0, 1), (5, 0, 1)])) ?_
   refine AnyG.done (by kernel_rfl) ?_ _
   exact Goes.jp 73 [(0, yieldV lx0), (1, (pt u1e 0)), (2, (pt u1f 0)), (4, .i x4), (49, .bool true)] (u95 _ _ h _ _ (hx.trans z3) uv u1m.length ux uy u1g u1n.length u1i u1j u1o.length u1l p3 (u1r.ext z3) rfl (u1t.ext z3) rfl (u1v.ext z3) rfl)
  ·
   rw [decide_eq_false h24]
   refine AnyG.ld1 (i := 4) 22 (.tmp 2) 37 22 ⟨u1f, 0, none⟩ (.slice u1j u1o.length u1l) (by kernel_rfl) (by kernel_rfl) (Fc.here (p3.cs [(4, 0, 1), (5, 0, 1)])) (by kernel_rfl) (by kernel_rfl) (fun _ h => h.2.at_ 1 rfl) ?_
   refine AnyG.pu 5 (.call { callee := .builtin .len, args := #[(.tmp 37)], argTypes := #[22] }) 38 3 (.i (u1o.length : Int)) (Fc.here (p3.cs [(4, 0, 1), (5, 0, 1)])) ?_
   refine AnyG.pu 6 (.binOp .gtr 3 (.tmp 38) (.const (.int .i64 0)) 3) 39 4 (.bool (decide ((u1o.length : Int) > 0))) (Fc.here (p3.cs [(4, 0, 1), (5, 0, 1)])) ?_
   refine AnyG.pu 7 (.move (.tmp 39)) 40 4 (.bool (decide ((u1o.length : Int) > 0))) (Fc.here (p3.cs [(4, 0, 1), (5, 0, 1)])) ?_
   refine ite_some h (fun h26 h => ?_) (fun h26 h => ?_)
   ·
    rw [decide_eq_true h26]
    refine AnyG.ld1 (i := 8) 22 (.tmp 2) 41 22 ⟨u1f, 0, none⟩ (.slice u1j u1o.length u1l) (by kernel_rfl) (by kernel_rfl) (Fc.here (p3.cs [(4, 0, 1), (5, 0, 1)])) (by kernel_rfl) (by kernel_rfl) (fun _ h => h.2.at_ 1 rfl) ?_
    refine guard_some' h fun g27 h => ?_
    refine AnyG.ixR_n (i := 9) 22 (.tmp 41) (.const (.int .i64 0)) 42 0 35 .i64 0 (gi u1o 0) rfl rfl (u1v.ext z3) (by kernel_rfl) (by kernel_rfl) (Fc.here (p3.cs [(4, 0, 1), (5, 0, 1)])) (by kernel_rfl) (by kernel_rfl) (by kernel_rfl) (by kernel_rfl) (by decide : (0 : Int) ≤ 0) g27 ?_
    intro a28 _ f29 q30
    obtain rfl := q30
    refine AnyG.ld1 (i := 10) 35 (.tmp 42) 43 35 a28 (.u (gi u1o 0)) (by kernel_rfl) (by kernel_rfl) (Fc.here (p3.cs [(4, 0, 1), (5, 0, 1)])) (by kernel_rfl) (by kernel_rfl) (fun _ h => f29.fc h 0 _ rfl) ?_
    refine AnyG.ld1 (i := 11) 22 (.tmp 1) 44 22 ⟨u1e, 0, none⟩ (.slice u1g u1n.length u1i) (by kernel_rfl) (by kernel_rfl) (Fc.here (p3.cs [(4, 0, 1), (5, 0, 1)])) (by kernel_rfl) (by kernel_rfl) (fun _ h => h.2.at_ 0 rfl) ?_
    refine guard_some' h fun g31 h => ?_
    refine AnyG.ixR_n (i := 12) 22 (.tmp 44) (.const (.int .i64 0)) 45 0 35 .i64 0 (gi u1n 0) rfl rfl (u1t.ext z3) (by kernel_rfl) (by kernel_rfl) (Fc.here (p3.cs [(4, 0, 1), (5, 0, 1)])) (by kernel_rfl) (by kernel_rfl) (by kernel_rfl) (by kernel_rfl) (by decide : (0 : Int) ≤ 0) g31 ?_
    intro a32 _ f33 q34
    obtain rfl := q34
    refine AnyG.ld1 (i := 13) 35 (.tmp 45) 46 35 a32 (.u (gi u1n 0)) (by kernel_rfl) (by kernel_rfl) (Fc.here (p3.cs [(4, 0, 1), (5, 0, 1)])) (by kernel_rfl) (by kernel_rfl) (fun _ h => f33.fc h 0 _ rfl) ?_
    refine AnyG.pu 14 (.binOp .leq 35 (.tmp 43) (.tmp 46) 35) 47 4 (.bool (decide (gi u1o 0 ≤ gi u1n 0))) (Fc.here (p3.cs [(4, 0, 1), (5, 0, 1)])) ?_
    refine AnyG.pu 15 (.pick (.tmp 40) (.tmp 47) (.const (.bool false))) 48 4 (.bool (decide (gi u1o 0 ≤ gi u1n 0))) (Fc.here (p3.cs [(4, 0, 1), (5, 0, 1)])) ?_
    refine AnyG.pu 16 (.pick (.tmp 36) (.const (.bool true)) (.tmp 48)) 49 4 (.bool (decide (gi u1o 0 ≤ gi u1n 0))) (Fc.here (p3.cs [(4, 0, 1), (5, 0, 1)])) ?_
    refine AnyG.done (by kernel_rfl) ?_ _
    exact Goes.jp 73 [(0, yieldV lx0), (1, (pt u1e 0)), (2, (pt u1f 0)), (4, .i x4), (49, .bool (decide (gi u1o 0 ≤ gi u1n 0)))] (u95 _ _ h _ _ (hx.trans z3) uv u1m.length ux uy u1g u1n.length u1i u1j u1o.length u1l p3 (u1r.ext z3) rfl (u1t.ext z3) rfl (u1v.ext z3) rfl)
   ·
    rw [decide_eq_false h26]
    refine AnyG.s1 8 41 (Fc.here (p3.cs [(4, 0, 1), (5, 0, 1)])) ?_
    refine AnyG.s1 9 42 (Fc.here (p3.cs [(4, 0, 1), (5, 0, 1)])) ?_
    refine AnyG.s1 10 43 (Fc.here (p3.cs [(4, 0, 1), (5, 0, 1)])) ?_
    refine AnyG.s1 11 44 (Fc.here (p3.cs [(4, 0, 1), (5, 0, 1)])) ?_
    refine AnyG.s1 12 45 (Fc.here (p3.cs [(4, 0, 1), (5, 0, 1)])) ?_
    refine AnyG.s1 13 46 (Fc.here (p3.cs [(4, 0, 1), (5, 0, 1)])) ?_
    refine AnyG.s1 14 47 (Fc.here (p3.cs [(4, 0, 1), (5, 0, 1)])) ?_
    refine AnyG.pu 15 (.pick (.tmp 40) (.tmp 47) (.const (.bool false))) 48 4 (.bool false) (Fc.here (p3.cs [(4, 0, 1), (5, 0, 1)])) ?_
    refine AnyG.pu 16 (.pick (.tmp 36) (.const (.bool true)) (.tmp 48)) 49 4 (.bool false) (Fc.here (p3.cs [(4, 0, 1), (5, 0, 1)])) ?_
    refine AnyG.done (by kernel_rfl) ?_ _
    exact Goes.jp 73 [(0, yieldV lx0), (1, (pt u1e 0)), (2, (pt u1f 0)), (4, .i x4), (49, .bool false)] (u95 _ _ h _ _ (hx.trans z3) uv u1m.length ux uy u1g u1n.length u1i u1j u1o.length u1l p3 (u1r.ext z3) rfl (u1t.ext z3) rfl (u1v.ext z3) rfl)
 ·
  intro u96 u97 ⟨x4, x49, u1m, u1n, u1o⟩ r h S1 w1 hx uv uw ux uy u1g u1h u1i u1j u1k u1l p1 u1r u1s u1t u1u u1v u1w junk
  try dsimp only at h
  subst u1s
  subst u1u
  subst u1w
  refine ite_some h (fun h35 h => ?_) (fun h35 h => ?_)
  ·
   rw [h35]
   refine Goes.rn 6 [(50, .i x4), (51, .i (ior .i64 x4 2)), (4, .i (ior .i64 x4 2))] J1g ?_
   exact Goes.jp 73 [(0, yieldV lx0), (1, (pt u1e 0)), (2, (pt u1f 0)), (4, .i (ior .i64 x4 2))] (u97 _ _ h _ _ hx uv u1m.length ux uy u1g u1n.length u1i u1j u1o.length u1l p1 u1r rfl u1t rfl u1v rfl)
  ·
   have u27 : x49 = false := by simpa using h35
   rw [u27]
   refine Goes.rn 2 [] J1g ?_
   exact Goes.jp 73 [(0, yieldV lx0), (1, (pt u1e 0)), (2, (pt u1f 0)), (4, .i x4)] (u97 _ _ h _ _ hx uv u1m.length ux uy u1g u1n.length u1i u1j u1o.length u1l p1 u1r rfl u1t rfl u1v rfl)
 ·
  intro u98 u99 ⟨x4, u1m, u1n, u1o⟩ r h S1 w1 hx uv uw ux uy u1g u1h u1i u1j u1k u1l p1 u1r u1s u1t u1u u1v u1w junk
  try dsimp only at h
  subst u1s
  subst u1u
  subst u1w
  refine Goes.rn 11 [(5, .u 0), (52, .i x4), (53, .i (iand .i64 x4 2)), (54, .bool (!(decide (iand .i64 x4 2 = 0))))] J1o ?_
  refine ite_some h (fun h37 h => ?_) (fun h37 h => ?_)
  ·
   rw [decide_eq_true h37]
   refine Goes.rn 2 [] J1i ?_
   exact Goes.jp 73 [(0, yieldV lx0), (1, (pt u1e 0)), (2, (pt u1f 0)), (4, .i x4), (5, .u 0)] (u99 _ _ h _ _ hx uv u1m.length ux uy u1g u1n.length u1i u1j u1o.length u1l p1 u1r rfl u1t rfl u1v rfl)
  ·
   rw [decide_eq_false h37]
   refine Goes.rn 1 [] J1p ?_
   have z4 : Ext S1 w1 S1 (w1).drew := Ext.draw
   have p4 := p1.draw
   refine Goes.drawn (s := [6]) (F := Fc S1 (w1).drew [(⟨u1f, 0, none⟩, .slice u1j u1o.length u1l)]) 8 7 (by kernel_rfl) (by kernel_rfl) (by kernel_rfl) (by kernel_rfl) ?_
   generalize (w1).drew = w4 at z4 p4 ⊢
   refine AnyG.ld1 (i := 0) 22 (.tmp 2) 55 22 ⟨u1f, 0, none⟩ (.slice u1j u1o.length u1l) (by kernel_rfl) (by kernel_rfl) (Fc.here (p4.cs [(5, 0, 1)])) (by kernel_rfl) (by kernel_rfl) (fun _ h => h.2.at_ 0 rfl) ?_
   refine guard_some' h fun g39 h => ?_
   refine AnyG.ixR_n (i := 1) 22 (.tmp 55) (.const (.int .i64 0)) 56 0 35 .i64 0 (gi u1o 0) rfl rfl (u1v.ext z4) (by kernel_rfl) (by kernel_rfl) (Fc.here (p4.cs [(5, 0, 1)])) (by kernel_rfl) (by kernel_rfl) (by kernel_rfl) (by kernel_rfl) (by decide : (0 : Int) ≤ 0) g39 ?_
   intro a40 _ f41 q42
   obtain rfl := q42
   refine AnyG.ld1 (i := 2) 35 (.tmp 56) 57 35 a40 (.u (gi u1o 0)) (by kernel_rfl) (by kernel_rfl) (Fc.here (p4.cs [(5, 0, 1)])) (by kernel_rfl) (by kernel_rfl) (fun _ h => f41.fc h 0 _ rfl) ?_
   refine AnyG.ld1 (i := 3) 22 (.tmp 2) 58 22 ⟨u1f, 0, none⟩ (.slice u1j u1o.length u1l) (by kernel_rfl) (by kernel_rfl) (Fc.here (p4.cs [(5, 0, 1)])) (by kernel_rfl) (by kernel_rfl) (fun _ h => h.2.at_ 0 rfl) ?_
   refine guard_some' h fun g43 h => ?_
   refine AnyG.slR_n (i := 4) 22 (.tmp 58) (some (.const (.int .i64 1))) none 59 22 35 1 (u1o.length : Int) (sl u1o 1 (u1o.length : Int)) rfl rfl (u1v.ext z4) (by kernel_rfl) (by kernel_rfl) (Fc.here (p4.cs [(5, 0, 1)])) (by kernel_rfl) (by kernel_rfl) (by kernel_rfl) (Bnd.at_ .i64 (by kernel_rfl)) Bnd.no (by decide : (0 : Int) ≤ 1) g43 (Int.le_refl _) ?_
   intro A44 c45 f46
   refine AnyG.pu 5 (.assign (.tmp 57)) 5 35 (.u (gi u1o 0)) (Fc.here (p4.cs [(5, 0, 1)])) ?_
   refine Op_.st 22 (.tmp 2) (.tmp 59) 0 5 u1f 0 (.slice A44 ((sl u1o 1 (u1o.length : Int)).length) c45) [.slice A44 ((sl u1o 1 (u1o.length : Int)).length) c45] p4 rfl (AnyG.ss (i := 6) (by kernel_rfl) (by kernel_rfl)) (by kernel_rfl) (by kernel_rfl) (by kernel_rfl) (by kernel_rfl) (Nat.zero_le _) (by simp only [List.length_cons, List.length_nil]; omega) (by simp [Value.oneCell']) ?_
   intro w5 z5 p5
   have p5 : Hp nz wz S1 w5 ((some lx0, .obj (lpst 58 (lfr 23 [(5, (pt u1c 0)), (7, (pt u1d 0)), (12, .func (.func 68) #[] #[(pt u1e 0), (pt u1f 0)])] u1b) #[13, 14] (rfAssign (Q10)) (rfBody (Q10)) rx0 .ready none)) :: (some u1c, .row 72 [.func (.func 44) #[] #[]] 1 0) :: (some u1d, .row 22 [.slice (Gp uv) u1m.length ux] 1 0) :: (uv, .row 35 uy (ux * (kInt .u64).size) 0) :: (some u1e, .row 22 [.slice u1g u1n.length u1i] 1 0) :: (some u1f, .row 22 [.slice A44 ((sl u1o 1 (u1o.length : Int)).length) c45] 1 0) :: Lr) := p5
   refine AnyG.last [] (Fc S1 w5 []) (by decide) ?_
   refine AnyG.done (by kernel_rfl) ?_ _
   exact Goes.jp 73 [(0, yieldV lx0), (1, (pt u1e 0)), (2, (pt u1f 0)), (4, .i x4), (5, .u (gi u1o 0))] (u99 _ _ h _ _ ((hx.trans z4).trans z5) uv u1m.length ux uy u1g u1n.length u1i A44 ((sl u1o 1 (u1o.length : Int)).length) c45 p5 (u1r.ext (z4.trans z5)) rfl (u1t.ext (z4.trans z5)) rfl (f46.ext z5) rfl)
 ·
  intro u9a u9b ⟨x4, x5, u1m, u1n, u1o⟩ r h S1 w1 hx uv uw ux uy u1g u1h u1i u1j u1k u1l p1 u1r u1s u1t u1u u1v u1w junk
  try dsimp only at h
  subst u1s
  subst u1u
  subst u1w
  refine Goes.rn 7 [(60, .i x4), (61, .i (iand .i64 x4 1)), (62, .bool (!(decide (iand .i64 x4 1 = 0))))] J1q ?_
  refine ite_some h (fun h47 h => ?_) (fun h47 h => ?_)
  ·
   rw [decide_eq_true h47]
   refine Goes.rn 2 [] J1j ?_
   exact Goes.jp 73 [(0, yieldV lx0), (1, (pt u1e 0)), (2, (pt u1f 0)), (4, .i x4), (5, .u x5)] (u9b _ _ h _ _ hx uv u1m.length ux uy u1g u1n.length u1i u1j u1o.length u1l p1 u1r rfl u1t rfl u1v rfl)
  ·
   rw [decide_eq_false h47]
   refine Goes.rn 1 [] J1r ?_
   have z6 : Ext S1 w1 S1 (w1).drew := Ext.draw
   have p6 := p1.draw
   refine Goes.drawn (s := [6]) (F := Fc S1 (w1).drew [(⟨u1e, 0, none⟩, .slice u1g u1n.length u1i)]) 10 7 (by kernel_rfl) (by kernel_rfl) (by kernel_rfl) (by kernel_rfl) ?_
   generalize (w1).drew = w6 at z6 p6 ⊢
   refine AnyG.ld1 (i := 0) 22 (.tmp 1) 63 22 ⟨u1e, 0, none⟩ (.slice u1g u1n.length u1i) (by kernel_rfl) (by kernel_rfl) (Fc.here (p6.cs [(4, 0, 1)])) (by kernel_rfl) (by kernel_rfl) (fun _ h => h.2.at_ 0 rfl) ?_
   refine guard_some' h fun g49 h => ?_
   refine AnyG.ixR_n (i := 1) 22 (.tmp 63) (.const (.int .i64 0)) 64 0 35 .i64 0 (gi u1n 0) rfl rfl (u1t.ext z6) (by kernel_rfl) (by kernel_rfl) (Fc.here (p6.cs [(4, 0, 1)])) (by kernel_rfl) (by kernel_rfl) (by kernel_rfl) (by kernel_rfl) (by decide : (0 : Int) ≤ 0) g49 ?_
   intro a50 _ f51 q52
   obtain rfl := q52
   refine AnyG.ld1 (i := 2) 35 (.tmp 64) 65 35 a50 (.u (gi u1n 0)) (by kernel_rfl) (by kernel_rfl) (Fc.here (p6.cs [(4, 0, 1)])) (by kernel_rfl) (by kernel_rfl) (fun _ h => f51.fc h 0 _ rfl) ?_
   refine AnyG.ld1 (i := 3) 22 (.tmp 1) 66 22 ⟨u1e, 0, none⟩ (.slice u1g u1n.length u1i) (by kernel_rfl) (by kernel_rfl) (Fc.here (p6.cs [(4, 0, 1)])) (by kernel_rfl) (by kernel_rfl) (fun _ h => h.2.at_ 0 rfl) ?_
   refine guard_some' h fun g53 h => ?_
   refine AnyG.slR_n (i := 4) 22 (.tmp 66) (some (.const (.int .i64 1))) none 67 22 35 1 (u1n.length : Int) (sl u1n 1 (u1n.length : Int)) rfl rfl (u1t.ext z6) (by kernel_rfl) (by kernel_rfl) (Fc.here (p6.cs [(4, 0, 1)])) (by kernel_rfl) (by kernel_rfl) (by kernel_rfl) (Bnd.at_ .i64 (by kernel_rfl)) Bnd.no (by decide : (0 : Int) ≤ 1) g53 (Int.le_refl _) ?_
   intro A54 c55 f56
   refine AnyG.pu 5 (.assign (.tmp 65)) 5 35 (.u (gi u1n 0)) (Fc.here (p6.cs [(4, 0, 1)])) ?_
   refine Op_.st 22 (.tmp 1) (.tmp 67) 0 4 u1e 0 (.slice A54 ((sl u1n 1 (u1n.length : Int)).length) c55) [.slice A54 ((sl u1n 1 (u1n.length : Int)).length) c55] p6 rfl (AnyG.ss (i := 6) (by kernel_rfl) (by kernel_rfl)) (by kernel_rfl) (by kernel_rfl) (by kernel_rfl) (by kernel_rfl) (Nat.zero_le _) (by simp only [List.length_cons, List.length_nil]; omega) (by simp [Value.oneCell']) ?_
   intro w7 z7 p7
   have p7 : Hp nz wz S1 w7 ((some lx0, .obj (lpst 58 (lfr 23 [(5, (pt u1c 0)), (7, (pt u1d 0)), (12, .func (.func 68) #[] #[(pt u1e 0), (pt u1f 0)])] u1b) #[13, 14] (rfAssign (Q10)) (rfBody (Q10)) rx0 .ready none)) :: (some u1c, .row 72 [.func (.func 44) #[] #[]] 1 0) :: (some u1d, .row 22 [.slice (Gp uv) u1m.length ux] 1 0) :: (uv, .row 35 uy (ux * (kInt .u64).size) 0) :: (some u1e, .row 22 [.slice A54 ((sl u1n 1 (u1n.length : Int)).length) c55] 1 0) :: (some u1f, .row 22 [.slice u1j u1o.length u1l] 1 0) :: Lr) := p7
   refine AnyG.last [] (Fc S1 w7 []) (by decide) ?_
   refine AnyG.done (by kernel_rfl) ?_ _
   exact Goes.jp 73 [(0, yieldV lx0), (1, (pt u1e 0)), (2, (pt u1f 0)), (4, .i x4), (5, .u (gi u1n 0))] (u9b _ _ h _ _ ((hx.trans z6).trans z7) uv u1m.length ux uy A54 ((sl u1n 1 (u1n.length : Int)).length) c55 u1j u1o.length u1l p7 (u1r.ext (z6.trans z7)) rfl (f56.ext z7) rfl (u1v.ext (z6.trans z7)) rfl)
 ·
  intro u9c u9d ⟨x4, x5, u1m, u1n, u1o⟩ r h S1 w1 hx uv uw ux uy u1g u1h u1i u1j u1k u1l p1 u1r u1s u1t u1u u1v u1w junk
  try dsimp only at h
  subst u1s
  subst u1u
  subst u1w
  refine Goes.rn 5 [(68, yieldV lx0), (69, .u x5), (70, .i x4)] J1t ?_
  refine bind_some' h fun y57 e58 h => ?_
  refine Goes.yieldAt (.call { callee := .value (.tmp 68), args := #[(.tmp 69), (.tmp 70)], argTypes := #[35, 3] }) 71 4 0 lx0 #[.u x5, .i x4] p1 rfl (by kernel_rfl) rfl (fun _ => by kernel_rfl) rfl (W.z1r u1m u1n u1o x5 x4 y57 e58 lx0 rx0 u1b u1c u1d uv u1m.length ux uy u1e u1g u1n.length u1i u1f u1j u1o.length u1l p1 u1r rfl u1t rfl u1v rfl) ?_
  rintro _ w8 ⟨S8, u2e, u2f, u2g, u2h, rfl, z8, p8, u2i, rfl⟩
  refine Goes.rn 6 [(72, .bool (!true))] J1a ?_
  exact Goes.jp 73 [(0, yieldV lx0), (1, (pt u1e 0)), (2, (pt u1f 0))] (u9d _ _ h _ _ (hx.trans z8) u2e y57.length u2g u2h u1g u1n.length u1i u1j u1o.length u1l p8 u2i rfl (u1t.ext z8) rfl (u1v.ext z8) rfl)

theorem W.z1t {nz wz S0 w0 Lr} (lx0 : Nat) (rx0 : Nat) (u1b : Nat → Value) (u1c : Nat) (u1d : Nat) (u1e : Nat) (u1f : Nat) : ∀ a r, M.post_merge_uint64_1_2_l0 a = some r → (L.z1t nz wz S0 w0 Lr lx0 rx0 u1b u1c u1d u1e u1f) a r := (W.z21 lx0 rx0 u1b u1c u1d u1e u1f).1

theorem W.z1u {nz wz S0 w0 Lr} (lx0 : Nat) (rx0 : Nat) (u1b : Nat → Value) (u1c : Nat) (u1d : Nat) (u1e : Nat) (u1f : Nat) : ∀ a r, M.post_merge_uint64_1_2_l1 a = some r → (L.z1u nz wz S0 w0 Lr lx0 rx0 u1b u1c u1d u1e u1f) a r := (W.z21 lx0 rx0 u1b u1c u1d u1e u1f).2.1

theorem W.z1v {nz wz S0 w0 Lr} (lx0 : Nat) (rx0 : Nat) (u1b : Nat → Value) (u1c : Nat) (u1d : Nat) (u1e : Nat) (u1f : Nat) : ∀ a r, M.post_merge_uint64_1_2_l2 a = some r → (L.z1v nz wz S0 w0 Lr lx0 rx0 u1b u1c u1d u1e u1f) a r := (W.z21 lx0 rx0 u1b u1c u1d u1e u1f).2.2.1

theorem W.z1w {nz wz S0 w0 Lr} (lx0 : Nat) (rx0 : Nat) (u1b : Nat → Value) (u1c : Nat) (u1d : Nat) (u1e : Nat) (u1f : Nat) : ∀ a r, M.post_merge_uint64_1_2_l3 a = some r → (L.z1w nz wz S0 w0 Lr lx0 rx0 u1b u1c u1d u1e u1f) a r := (W.z21 lx0 rx0 u1b u1c u1d u1e u1f).2.2.2.1

theorem W.z1x {nz wz S0 w0 Lr} (lx0 : Nat) (rx0 : Nat) (u1b : Nat → Value) (u1c : Nat) (u1d : Nat) (u1e : Nat) (u1f : Nat) : ∀ a r, M.post_merge_uint64_1_2_l4 a = some r → (L.z1x nz wz S0 w0 Lr lx0 rx0 u1b u1c u1d u1e u1f) a r := (W.z21 lx0 rx0 u1b u1c u1d u1e u1f).2.2.2.2.1

theorem W.z1y {nz wz S0 w0 Lr} (lx0 : Nat) (rx0 : Nat) (u1b : Nat → Value) (u1c : Nat) (u1d : Nat) (u1e : Nat) (u1f : Nat) : ∀ a r, M.post_merge_uint64_1_2_l5 a = some r → (L.z1y nz wz S0 w0 Lr lx0 rx0 u1b u1c u1d u1e u1f) a r := (W.z21 lx0 rx0 u1b u1c u1d u1e u1f).2.2.2.2.2.1

theorem W.z1z {nz wz S0 w0 Lr} (lx0 : Nat) (rx0 : Nat) (u1b : Nat → Value) (u1c : Nat) (u1d : Nat) (u1e : Nat) (u1f : Nat) : ∀ a r, M.post_merge_uint64_1_2_l6 a = some r → (L.z1z nz wz S0 w0 Lr lx0 rx0 u1b u1c u1d u1e u1f) a r := (W.z21 lx0 rx0 u1b u1c u1d u1e u1f).2.2.2.2.2.2.1

theorem W.z20 {nz wz S0 w0 Lr} (lx0 : Nat) (rx0 : Nat) (u1b : Nat → Value) (u1c : Nat) (u1d : Nat) (u1e : Nat) (u1f : Nat) : ∀ a r, M.post_merge_uint64_1_2_l7 a = some r → (L.z20 nz wz S0 w0 Lr lx0 rx0 u1b u1c u1d u1e u1f) a r := (W.z21 lx0 rx0 u1b u1c u1d u1e u1f).2.2.2.2.2.2.2

theorem W.z1s (u2j : List Int) (u2k : List Int) (u2l : List Int) (r : (List Int) × (List Int) × (List Int)) (h : M.post_merge_uint64_1_2 u2j u2k u2l = some r) {nz wz S0 w0 Lr} (lx0 rx0 u1b u1c u1d u2m u2n u2o u2p u1e u2q u2r u2s u1f u2t u2u u2v) (p0 : Hp nz wz S0 w0 ((some lx0, .obj (lpst 58 (lfr 23 [(5, (pt u1c 0)), (7, (pt u1d 0)), (12, .func (.func 68) #[] #[(pt u1e 0), (pt u1f 0)])] u1b) #[13, 14] (rfAssign (Q10)) (rfBody (Q10)) rx0 .ready none)) :: (some u1c, .row 72 [.func (.func 44) #[] #[]] 1 0) :: (some u1d, .row 22 [.slice (Gp u2m) u2n u2o] 1 0) :: (u2m, .row 35 u2p (u2o * (kInt .u64).size) 0) :: (some u1e, .row 22 [.slice u2q u2r u2s] 1 0) :: (some u1f, .row 22 [.slice u2t u2u u2v] 1 0) :: Lr)) (u2w : Els (kInt .u64) S0 w0 u2p u2j) (u2x : u2j.length = u2n) (u2y : Rd (kInt .u64) S0 w0 u2q u2s u2k) (u2z : u2k.length = u2r) (u30 : Rd (kInt .u64) S0 w0 u2t u2v u2l) (u31 : u2l.length = u2u) :
  Calls Try.prog 68 #[yieldV lx0, (pt u1e 0), (pt u1f 0)] w0 (Rets (Post.z1s nz wz S0 w0 Lr lx0 rx0 u1b u1c u1d u1e u1f r)) := by
 subst u2x
 subst u2z
 subst u31
 refine calls_of_goes (fn := Try.f68) (c := B68) (by kernel_rfl) (by kernel_rfl) 70 (by kernel_rfl) ?_
 refine Goes.jp 73 [(0, yieldV lx0), (1, (pt u1e 0)), (2, (pt u1f 0))] (fun junk => ?_)
 delta M.post_merge_uint64_1_2 at h
 refine Goes.rn 2 [] J1a ?_
 exact Goes.jp 73 [(0, yieldV lx0), (1, (pt u1e 0)), (2, (pt u1f 0))] (W.z1t lx0 rx0 u1b u1c u1d u1e u1f _ _ h _ _ (Ext.refl S0 w0) u2m u2j.length u2o u2p u2q u2k.length u2s u2t u2l.length u2v p0 u2w rfl u2y rfl u30 rfl)

def Post.z22 (r : List Int) (v : Value) (w' : World) : Prop :=
 ∃ S' Gq nq cq csq, v = .slice (Gp Gq) nq cq ∧ Ext S0 w0 S' w' ∧ Hp nz wz S' w' ((Gq, .row 35 csq (cq * (kInt .u64).size) 0) :: Lr) ∧ Els (kInt .u64) S' w' csq r ∧ r.length = nq

theorem W.z22 (x0 : List Int) (x1 : List Int) (r : List Int) (h : M.post_those_uint64_2 x0 x1 = some r) {nz wz S0 w0 Lr} (Ax0 nx0 cx0 Ax1 nx1 cx1) (p0 : Hp nz wz S0 w0 (Lr)) (fx0 : Rd (kInt .u64) S0 w0 Ax0 cx0 x0) (lx0 : x0.length = nx0) (fx1 : Rd (kInt .u64) S0 w0 Ax1 cx1 x1) (lx1 : x1.length = nx1) :
  Calls Try.prog 58 #[.slice Ax0 nx0 cx0, .slice Ax1 nx1 cx1, .func (.func 44) #[] #[]] w0 (Rets (Post.z22 nz wz S0 w0 Lr r)) := by
 subst lx0
 subst lx1
 refine calls_of_goes (fn := Try.f58) (c := B58) (by kernel_rfl) (by kernel_rfl) 20 (by kernel_rfl) ?_
 refine Goes.jp 23 [(0, .slice Ax0 x0.length cx0), (1, .slice Ax1 x1.length cx1), (2, .func (.func 44) #[] #[])] (fun junk => ?_)
 delta M.post_those_uint64_2 at h
 refine Goes.rn 2 [] J1v ?_
 refine Op_.box 72 (.tmp 2) 5 0 (.func (.func 44) #[] #[]) [.func (.func 44) #[] #[]] p0 Goes.v (by kernel_rfl) (by kernel_rfl) ?_
 intro b1 w2 z2 p2
 refine Goes.rn 4 [(6, .slice none 0 0)] J1x ?_
 refine Op_.alloc 22 7 0 (.slice none 0 0) [.slice none 0 0] p2 Goes.v (by kernel_rfl) (by kernel_rfl) ?_
 intro b3 w3 z3 p3
 refine Goes.rn 6 [(10, .slice Ax0 x0.length cx0), (11, .slice Ax1 x1.length cx1)] J20 ?_
 refine bind_some' h fun y5 e6 h => ?_
 refine Goes.cal (kc 63 [10, 11] #[22, 22]) 12 88 63 _ (W.z7 x0 x1 y5 e6 Ax0 x0.length cx0 Ax1 x1.length cx1 p3 (fx0.ext (z2.trans z3)) rfl (fx1.ext (z2.trans z3)) rfl) ?_
 rintro _ w4 ⟨S4, u32, u33, u34, u35, u36, u37, u38, u39, rfl, z4, p4, u3a, rfl, u3b, rfl⟩
 refine Goes.rn 2 [] J22 ?_
 refine Goes.jp 23 [(5, (pt b1 0)), (7, (pt b3 0)), (12, .func (.func 68) #[] #[(pt u32 0), (pt u36 0)])] (fun u3c => ?_)
 refine Goes.rangeF (f := 58) (.tmp 12) #[13, 14] 68 #[] #[(pt u32 0), (pt u36 0)] (by kernel_rfl) (by kernel_rfl) (fun _ => by kernel_rfl) p4 ?_
 intro r10 l11 w5 z5 p5
 have p5 : Hp nz wz S4 w5 ((none, .row 35 [] (0 * (kInt .u64).size) 0) :: (some l11, .obj (lpst 58 (lfr 23 [(5, (pt b1 0)), (7, (pt b3 0)), (12, .func (.func 68) #[] #[(pt u32 0), (pt u36 0)])] u3c) #[13, 14] (rfAssign (Q10)) (rfBody (Q10)) r10 .ready none)) :: (some r10, .obj (.deferred (some []))) :: (some u32, .row 22 [.slice u33 y5.1.length u35] 1 0) :: (some u36, .row 22 [.slice u37 y5.2.length u39] 1 0) :: (some b3, .row 22 [.slice none 0 0] 1 0) :: (some b1, .row 72 [.func (.func 44) #[] #[]] 1 0) :: Lr) := p5.nilRow' 35
 have p5 := (((((p5.fr 4).fr 4).fr 2).fr 5).fr 6).fr 5
 refine bind_some' h fun y15 e16 h => ?_
 refine ⟨_, W.z1s ([] : List Int) y5.1 y5.2 y15 e16 l11 r10 u3c b1 b3 none 0 0 [] u32 u33 y5.1.length u35 u36 u37 y5.2.length u39 p5 (Els.nil (K := (kInt .u64))) rfl (u3a.ext z5) rfl (u3b.ext z5) rfl, ?_⟩
 rintro _ w6 ⟨S6, u3d, u3e, u3f, u3g, u3h, u3i, u3j, u3k, u3l, u3m, rfl, z6, p6, u3n, rfl, u3o, rfl, u3p, rfl⟩
 refine Goes.endF 0 p6 rfl rfl ?_
 intro w7 z7 p7
 replace p7 : Hp nz wz S6 w7 ((some b1, .row 72 [.func (.func 44) #[] #[]] 1 0) :: (some b3, .row 22 [.slice (Gp u3d) y15.1.length u3f] 1 0) :: (u3d, .row 35 u3g (u3f * (kInt .u64).size) 0) :: (some u32, .row 22 [.slice u3h y15.2.1.length u3j] 1 0) :: (some u36, .row 22 [.slice u3k y15.2.2.length u3m] 1 0) :: (some r10, .obj (.deferred (some []))) :: Lr) := (p7.front 0 _ rfl).drop
 show Goes _ _ J21 _ _ _
 refine Goes.rn 3 [] J24 ?_
 refine Goes.ld 22 (.tmp 7) 22 22 ⟨b3, 0, none⟩ (.slice (Gp u3d) y15.1.length u3f) (p7.c 1 0) ?_
 refine Goes.rn 2 [(6, .slice (Gp u3d) y15.1.length u3f)] J23 ?_
 obtain rfl := Option.some.inj h
 have p7 := (((p7.dp 0).dp 0).dp 1).dp 1
 have p7 := (p7.fr 0).fr 1
 refine Goes.retL ?_
 refine lvs_mark 0 rfl rfl p7 rfl ?_
 intro w8 z8 p8
 replace p8 : Hp nz wz S6 w8 ((u3d, .row 35 u3g (u3f * (kInt .u64).size) 0) :: Lr) := p8.drop
 exact lvs_done (fn := Try.f58) rfl rfl rfl rfl (by kernel_rfl) (v := .slice (Gp u3d) y15.1.length u3f) (by kernel_rfl) ⟨S6, u3d, y15.1.length, u3f, u3g, rfl, ((((((((Ext.refl S0 w0).trans z2).trans z3).trans z4).trans z5).trans z6).trans z7).trans z8), p8, (u3n.ext (z7.trans z8)), rfl⟩

def Post.z23 (r : (List Int) × Int) (v : Value) (w' : World) : Prop :=
 ∃ S' u3q u3r u3s u3t, v = .tuple #[.slice (Gp u3q) u3r u3s, .i r.2] ∧ Ext S0 w0 S' w' ∧ Hp nz wz S' w' ((u3q, .row 35 u3t (u3s * (kInt .u64).size) 0) :: Lr) ∧ Els (kInt .u64) S' w' u3t r.1 ∧ r.1.length = u3r

def L.z24 : (List Int) × (List (List Int)) × Int × Int → ((List Int) × Int) → Prop := fun ⟨x9, x35, x36, x37⟩ r => ∀ S1 w1, Ext S0 w0 S1 w1 → ∀ Gx9 nx9 cx9 u3u u3v u3w u3x (_ : Hp nz wz S1 w1 ((Gx9, .row 35 u3u (cx9 * (kInt .u64).size) 0) :: Lr)) (_ : Els (kInt .u64) S1 w1 u3u x9) (_ : x9.length = nx9) (_ : Rd (kSl (kInt .u64)) S1 w1 u3v u3x x35) (_ : x35.length = u3w) (junk : Nat → Value),
 Goes Try.prog (base 43) J28 ⟨lfr 47 [(1, .func (.func 44) #[] #[]), (9, .slice (Gp Gx9) nx9 cx9), (35, .slice u3v u3w u3x), (36, .i x36), (37, .i x37)] junk, []⟩ w1 (Done Try.prog 43 (Rets (Post.z23 nz wz S0 w0 Lr r)))

theorem W.z24 {nz wz S0 w0 Lr} : ∀ a r, M.post_fold_2_l1 a = some r → (L.z24 nz wz S0 w0 Lr) a r := by
 refine M.post_fold_2_l1.partial_correctness (motive := (L.z24 nz wz S0 w0 Lr)) ?_
 intro u9e u9f ⟨x9, x35, x36, x37⟩ r h S1 w1 hx Gx9 nx9 cx9 u3u u3v u3w u3x p1 fx9 lx9 u40 u41 junk
 try dsimp only at h
 subst lx9
 subst u41
 refine Goes.rn 5 [(38, .bool (decide (x37 < x36)))] J2a ?_
 refine ite_some h (fun h33 h => ?_) (fun h33 h => ?_)
 ·
  rw [decide_eq_true h33]
  refine Goes.rn 6 [] J2e ?_
  refine guard_some' h fun g34 h => ?_
  refine guard_some' h fun g35 h => ?_
  refine Op_.ixR_n 38 (.tmp 35) (.tmp 37) 39 0 22 .i64 x37 (gi x35 x37) rfl rfl u40 Goes.v (by kernel_rfl) (by kernel_rfl) (by kernel_rfl) (by kernel_rfl) g34 g35 ?_
  intro a36 _ f37 q38
  obtain ⟨A39, c40, rfl, f41⟩ := q38
  refine Goes.ld 22 (.tmp 39) 40 22 a36 (.slice A39 ((gi x35 x37).length) c40) (f37.cell 0 _ rfl) ?_
  refine Goes.rn 6 [(11, .slice A39 ((gi x35 x37).length) c40), (41, .slice (Gp Gx9) x9.length cx9), (42, .slice A39 ((gi x35 x37).length) c40), (43, .func (.func 44) #[] #[])] J2f ?_
  obtain ⟨S4, z4, p4, f42⟩ := p1.freezeRd 0 rfl fx9 (by decide)
  refine bind_some' h fun y43 e44 h => ?_
  refine Goes.cal (kc 58 [41, 42, 43] #[22, 22, 72]) 44 22 58 _ (W.z22 x9 (gi x35 x37) y43 e44 (Gp Gx9) x9.length cx9 A39 ((gi x35 x37).length) c40 p4 f42 rfl (f41.ext z4) rfl) ?_
  rintro _ w5 ⟨S5, u42, u43, u44, u45, rfl, z5, p5, u46, rfl⟩
  have p5 := p5.dp 1
  refine Goes.rn 8 [(9, .slice (Gp u42) y43.length u44), (45, .i (wr .i64 (x37 + 1))), (37, .i (wr .i64 (x37 + 1)))] J28 ?_
  exact Goes.jp 47 [(1, .func (.func 44) #[] #[]), (9, .slice (Gp u42) y43.length u44), (35, .slice u3v x35.length u3x), (36, .i x36), (37, .i (wr .i64 (x37 + 1)))] (u9f _ _ h _ _ ((hx.trans z4).trans z5) u42 y43.length u44 u45 u3v x35.length u3x p5 u46 rfl (u40.ext (z4.trans z5)) rfl)
 ·
  rw [decide_eq_false h33]
  refine Goes.rn 8 [(46, .slice (Gp Gx9) x9.length cx9), (4, .slice (Gp Gx9) x9.length cx9), (5, .i 0)] J2g ?_
  obtain rfl := Option.some.inj h
  exact Goes.rt Try.f43 (.tuple #[.slice (Gp Gx9) x9.length cx9, .i 0]) ⟨S1, Gx9, x9.length, cx9, u3u, rfl, hx, p1, fx9, rfl⟩

def L.z25 : (List (List Int)) × (List (List Int)) × Int × Int → ((List Int) × Int) → Prop := fun ⟨x0, x15, x16, x17⟩ r => ∀ S1 w1, Ext S0 w0 S1 w1 → ∀ Ax0 nx0 cx0 u47 u48 u49 (_ : Hp nz wz S1 w1 (Lr)) (_ : Rd (kSl (kInt .u64)) S1 w1 Ax0 cx0 x0) (_ : x0.length = nx0) (_ : Rd (kSl (kInt .u64)) S1 w1 u47 u49 x15) (_ : x15.length = u48) (junk : Nat → Value),
 Goes Try.prog (base 43) J2k ⟨lfr 47 [(0, .slice Ax0 nx0 cx0), (1, .func (.func 44) #[] #[]), (15, .slice u47 u48 u49), (16, .i x16), (17, .i x17)] junk, []⟩ w1 (Done Try.prog 43 (Rets (Post.z23 nz wz S0 w0 Lr r)))

theorem W.z25 {nz wz S0 w0 Lr} : ∀ a r, M.post_fold_2_l0 a = some r → (L.z25 nz wz S0 w0 Lr) a r := by
 refine M.post_fold_2_l0.partial_correctness (motive := (L.z25 nz wz S0 w0 Lr)) ?_
 intro u9g u9h ⟨x0, x15, x16, x17⟩ r h S1 w1 hx Ax0 nx0 cx0 u47 u48 u49 p1 fx0 lx0 u4c u4d junk
 try dsimp only at h
 subst lx0
 subst u4d
 refine Goes.rn 5 [(18, .bool (decide (x17 < x16)))] J2m ?_
 refine ite_some h (fun h3 h => ?_) (fun h3 h => ?_)
 ·
  rw [decide_eq_true h3]
  refine Goes.rn 6 [] J2q ?_
  refine guard_some' h fun g4 h => ?_
  refine guard_some' h fun g5 h => ?_
  refine Op_.ixR_n 38 (.tmp 15) (.tmp 17) 19 0 22 .i64 x17 (gi x15 x17) rfl rfl u4c Goes.v (by kernel_rfl) (by kernel_rfl) (by kernel_rfl) (by kernel_rfl) g4 g5 ?_
  intro a6 _ f7 q8
  obtain ⟨A9, c10, rfl, f11⟩ := q8
  refine Goes.ld 22 (.tmp 19) 20 22 a6 (.slice A9 ((gi x15 x17).length) c10) (f7.cell 0 _ rfl) ?_
  refine Goes.rn 5 [(7, .slice A9 ((gi x15 x17).length) c10), (21, .slice A9 ((gi x15 x17).length) c10)] J2s ?_
  refine bind_some' h fun y12 e13 h => ?_
  refine Goes.cal (kc 23 [21] #[22]) 22 25 23 _ (W.z5 (gi x15 x17) y12 e13 A9 ((gi x15 x17).length) c10 p1 f11 rfl) ?_
  rintro _ w2 ⟨S2, rfl, z2, p2⟩
  refine Goes.rn 7 [(8, .i y12), (23, .i y12), (24, .bool (!(decide (y12 = 0))))] J2t ?_
  refine ite_some h (fun h14 h => ?_) (fun h14 h => ?_)
  ·
   rw [decide_eq_true h14]
   refine Goes.rn 8 [(26, .i (wr .i64 (x17 + 1))), (17, .i (wr .i64 (x17 + 1)))] J2k ?_
   exact Goes.jp 47 [(0, .slice Ax0 x0.length cx0), (1, .func (.func 44) #[] #[]), (15, .slice u47 x15.length u49), (16, .i x16), (17, .i (wr .i64 (x17 + 1)))] (u9h _ _ h _ _ (hx.trans z2) Ax0 x0.length cx0 u47 x15.length u49 p2 (fx0.ext z2) rfl (u4c.ext z2) rfl)
  ·
   rw [decide_eq_false h14]
   refine Goes.rn 7 [(25, .i y12), (4, .slice none 0 0), (5, .i y12)] J2u ?_
   have p2 : Hp nz wz S2 w2 ((none, .row 35 [] (0 * (kInt .u64).size) 0) :: Lr) := p2.nilRow' 35
   obtain rfl := Option.some.inj h
   exact Goes.rt Try.f43 (.tuple #[.slice (Gp none) 0 0, .i y12]) ⟨S2, none, 0, 0, [], rfl, (hx.trans z2), p2, (Els.nil (K := (kInt .u64))), rfl⟩
 ·
  rw [decide_eq_false h3]
  refine Goes.rn 9 [(27, .slice Ax0 x0.length cx0), (28, .i (x0.length : Int)), (29, .bool (decide ((x0.length : Int) = 0)))] J2w ?_
  refine ite_some h (fun h16 h => ?_) (fun h16 h => ?_)
  ·
   rw [decide_eq_true h16]
   refine Goes.rn 6 [(4, .slice none 0 0), (5, .i 0)] J2x ?_
   have p1 : Hp nz wz S1 w1 ((none, .row 35 [] (0 * (kInt .u64).size) 0) :: Lr) := p1.nilRow' 35
   obtain rfl := Option.some.inj h
   exact Goes.rt Try.f43 (.tuple #[.slice (Gp none) 0 0, .i 0]) ⟨S1, none, 0, 0, [], rfl, hx, p1, (Els.nil (K := (kInt .u64))), rfl⟩
  ·
   rw [decide_eq_false h16]
   refine Goes.rn 5 [(30, .slice Ax0 x0.length cx0)] J2z ?_
   refine guard_some' h fun g18 h => ?_
   refine Op_.ixR_n 38 (.tmp 30) (.const (.int .i64 0)) 31 0 22 .i64 0 (gi x0 0) rfl rfl fx0 Goes.v (by kernel_rfl) (by kernel_rfl) (by kernel_rfl) (by kernel_rfl) (by decide : (0 : Int) ≤ 0) g18 ?_
   intro a19 _ f20 q21
   obtain ⟨A22, c23, rfl, f24⟩ := q21
   refine Goes.ld 22 (.tmp 31) 32 22 a19 (.slice A22 ((gi x0 0).length) c23) (f20.cell 0 _ rfl) ?_
   refine bind_some' h fun y25 e26 h => ?_
   refine Goes.cal (kc 55 [32] #[22]) 33 22 55 _ (W.z6 (gi x0 0) y25 e26 A22 ((gi x0 0).length) c23 p1 f24 rfl) ?_
   rintro _ w3 ⟨S3, u4e, u4f, u4g, u4h, rfl, z3, p3, u4i, rfl⟩
   refine Goes.rn 6 [(9, .slice (Gp u4e) y25.length u4g), (34, .slice Ax0 x0.length cx0)] J31 ?_
   refine guard_some' h fun g28 h => ?_
   refine Op_.slR_n 38 (.tmp 34) (some (.const (.int .i64 1))) none 35 38 22 1 (x0.length : Int) (sl x0 1 (x0.length : Int)) rfl rfl (fx0.ext z3) Goes.v (by kernel_rfl) (by kernel_rfl) (by kernel_rfl) (Bnd.at_ .i64 (by kernel_rfl)) Bnd.no (by decide : (0 : Int) ≤ 1) g28 (Int.le_refl _) ?_
   intro A29 c30 f31
   refine Goes.rn 5 [(36, .i ((sl x0 1 (x0.length : Int)).length : Int)), (37, .i 0)] J28 ?_
   exact Goes.jp 47 [(1, .func (.func 44) #[] #[]), (9, .slice (Gp u4e) y25.length u4g), (35, .slice A29 ((sl x0 1 (x0.length : Int)).length) c30), (36, .i ((sl x0 1 (x0.length : Int)).length : Int)), (37, .i 0)] (W.z24 _ _ h _ _ (hx.trans z3) u4e y25.length u4g u4h A29 ((sl x0 1 (x0.length : Int)).length) c30 p3 u4i rfl f31 rfl)

theorem W.z23 (x0 : List (List Int)) (r : (List Int) × Int) (h : M.post_fold_2 x0 = some r) {nz wz S0 w0 Lr} (Ax0 nx0 cx0) (p0 : Hp nz wz S0 w0 (Lr)) (fx0 : Rd (kSl (kInt .u64)) S0 w0 Ax0 cx0 x0) (lx0 : x0.length = nx0) :
  Calls Try.prog 43 #[.slice Ax0 nx0 cx0, .func (.func 44) #[] #[]] w0 (Rets (Post.z23 nz wz S0 w0 Lr r)) := by
 subst lx0
 refine calls_of_goes (fn := Try.f43) (c := B43) (by kernel_rfl) (by kernel_rfl) 45 (by kernel_rfl) ?_
 refine Goes.jp 47 [(0, .slice Ax0 x0.length cx0), (1, .func (.func 44) #[] #[])] (fun junk => ?_)
 delta M.post_fold_2 at h
 refine Goes.rn 12 [(4, .slice none 0 0), (5, .i 0), (12, .slice Ax0 x0.length cx0), (13, .i (x0.length : Int)), (14, .bool (decide ((x0.length : Int) > 4096)))] J33 ?_
 refine ite_some h (fun h1 h => ?_) (fun h1 h => ?_)
 ·
  rw [decide_eq_true h1]
  refine Goes.rn 6 [(4, .slice none 0 0), (5, .i 3)] J34 ?_
  have p0 : Hp nz wz S0 w0 ((none, .row 35 [] (0 * (kInt .u64).size) 0) :: Lr) := p0.nilRow' 35
  obtain rfl := Option.some.inj h
  exact Goes.rt Try.f43 (.tuple #[.slice (Gp none) 0 0, .i 3]) ⟨S0, none, 0, 0, [], rfl, (Ext.refl S0 w0), p0, (Els.nil (K := (kInt .u64))), rfl⟩
 ·
  rw [decide_eq_false h1]
  refine Goes.rn 11 [(15, .slice Ax0 x0.length cx0), (16, .i (x0.length : Int)), (17, .i 0)] J2k ?_
  exact Goes.jp 47 [(0, .slice Ax0 x0.length cx0), (1, .func (.func 44) #[] #[]), (15, .slice Ax0 x0.length cx0), (16, .i (x0.length : Int)), (17, .i 0)] (W.z25 _ _ h _ _ (Ext.refl S0 w0) Ax0 x0.length cx0 Ax0 x0.length cx0 p0 fx0 rfl fx0 rfl)

def Q71 := sub [1, 1] B10
def J8t : List Item := [.code Q71]
def Q72 := sub [1, 0] B10
def J8u : List Item := .inRegion (opsOf Q72) [2, 3, 4, 5, 6, 7] :: J8t

def Post.z26 (r : (List Int) × Int) (v : Value) (w' : World) : Prop :=
 ∃ S' u3q u3r u3s u3t, v = .tuple #[.slice (Gp u3q) u3r u3s, .i r.2] ∧ Ext S0 w0 S' w' ∧ Hp nz wz S' w' ((u3q, .row 35 u3t (u3s * (kInt .u64).size) 0) :: Lr) ∧ Els (kInt .u64) S' w' u3t r.1 ∧ r.1.length = u3r

theorem W.z26 (x0 : List Int) (x1 : List Int) (r : (List Int) × Int) (h : M.post_But x0 x1 = some r) {nz wz S0 w0 Lr} (Ax0 nx0 cx0 Ax1 nx1 cx1) (p0 : Hp nz wz S0 w0 (Lr)) (fx0 : Rd (kInt .u64) S0 w0 Ax0 cx0 x0) (lx0 : x0.length = nx0) (fx1 : Rd (kInt .u64) S0 w0 Ax1 cx1 x1) (lx1 : x1.length = nx1) :
  Calls Try.prog 10 #[.slice Ax0 nx0 cx0, .slice Ax1 nx1 cx1] w0 (Rets (Post.z26 nz wz S0 w0 Lr r)) := by
 subst lx0
 subst lx1
 refine calls_of_goes (fn := Try.f10) (c := B10) (by kernel_rfl) (by kernel_rfl) 10 (by kernel_rfl) ?_
 refine Goes.jp 12 [(0, .slice Ax0 x0.length cx0), (1, .slice Ax1 x1.length cx1)] (fun junk => ?_)
 delta M.post_But at h
 refine Goes.rn 9 [(4, .slice none 0 0), (5, .i 0), (6, .slice Ax0 x0.length cx0), (7, .slice Ax1 x1.length cx1)] J8u ?_
 have f2 : Els (kSl (kInt .u64)) S0 w0 ([.slice Ax0 x0.length cx0, .slice Ax1 x1.length cx1] : List Value) [x0, x1] := by exact (Els.cons (K := (kSl (kInt .u64))) (vs := [.slice Ax0 x0.length cx0]) (x := x0) ⟨_, _, rfl, fx0⟩ (Els.cons (K := (kSl (kInt .u64))) (vs := [.slice Ax1 x1.length cx1]) (x := x1) ⟨_, _, rfl, fx1⟩ Els.nil))
 refine Op_.made (.buildSlice 38 2 #[(0, (.tmp 6)), (1, (.tmp 7))]) 8 38 (fun b => .slice (Gp (some b)) 2 2) 22 ([.slice Ax0 x0.length cx0, .slice Ax1 x1.length cx1] : List Value) p0 Goes.v (by kernel_rfl) ?_
 intro b1 w2 z2 p2
 have p2 : Hp nz wz S0 w2 (((some b1), .row 22 ([.slice Ax0 x0.length cx0, .slice Ax1 x1.length cx1] : List Value) (2 * (kSl (kInt .u64)).size) 0) :: Lr) := p2
 obtain ⟨S3, z3, p3, f4⟩ := p2.freezeRd 0 rfl (f2.ext z2) (by decide)
 refine bind_some' h fun y5 e6 h => ?_
 refine Goes.cal (.call { callee := .value (.func 43), args := #[(.tmp 8), (.func 44)], argTypes := #[38, 72] }) 9 26 43 _ (W.z23 [x0, x1] y5 e6 (Gp (some b1)) 2 2 p3 f4 rfl) ?_
 rintro _ w4 ⟨S4, u6k, u6l, u6m, u6n, rfl, z4, p4, u6o, rfl⟩
 have p4 := p4.dp 1
 refine Goes.rn 5 [(10, .slice (Gp u6k) y5.1.length u6m), (11, .i y5.2), (4, .slice (Gp u6k) y5.1.length u6m), (5, .i y5.2)] J8t ?_
 obtain rfl := Option.some.inj h
 exact Goes.rt Try.f10 (.tuple #[.slice (Gp u6k) y5.1.length u6m, .i y5.2]) ⟨S4, u6k, y5.1.length, u6m, u6n, rfl, ((((Ext.refl S0 w0).trans z2).trans z3).trans z4), p4, u6o, rfl⟩

def Q73 := sub [1, 1] B28
def J8v : List Item := [.code Q73]
def Q74 := sub [1, 0] B28
def J8w : List Item := .inRegion (opsOf Q74) [2, 3, 4, 5, 6, 7] :: J8v

def Post.z27 (r : (List Int) × Int) (v : Value) (w' : World) : Prop :=
 ∃ S' u3q u3r u3s u3t, v = .tuple #[.slice (Gp u3q) u3r u3s, .i r.2] ∧ Ext S0 w0 S' w' ∧ Hp nz wz S' w' ((u3q, .row 35 u3t (u3s * (kInt .u64).size) 0) :: Lr) ∧ Els (kInt .u64) S' w' u3t r.1 ∧ r.1.length = u3r

theorem W.z27 (x0 : List Int) (x1 : Int) (r : (List Int) × Int) (h : M.post_Drop x0 x1 = some r) {nz wz S0 w0 Lr} (Ax0 nx0 cx0) (p0 : Hp nz wz S0 w0 (Lr)) (fx0 : Rd (kInt .u64) S0 w0 Ax0 cx0 x0) (lx0 : x0.length = nx0) :
  Calls Try.prog 28 #[.slice Ax0 nx0 cx0, .u x1] w0 (Rets (Post.z27 nz wz S0 w0 Lr r)) := by
 subst lx0
 refine calls_of_goes (fn := Try.f28) (c := B28) (by kernel_rfl) (by kernel_rfl) 10 (by kernel_rfl) ?_
 refine Goes.jp 12 [(0, .slice Ax0 x0.length cx0), (1, .u x1)] (fun junk => ?_)
 delta M.post_Drop at h
 refine Goes.rn 9 [(4, .slice none 0 0), (5, .i 0), (6, .slice Ax0 x0.length cx0), (7, .u x1)] J8w ?_
 have f2 : Els (kInt .u64) S0 w0 ([.u x1] : List Value) [x1] := by exact (Els.cons (K := (kInt .u64)) (vs := [.u x1]) (x := x1) rfl Els.nil)
 refine Op_.made (.buildSlice 22 1 #[(0, (.tmp 7))]) 8 22 (fun b => .slice (Gp (some b)) 1 1) 35 ([.u x1] : List Value) p0 Goes.v (by kernel_rfl) ?_
 intro b1 w2 z2 p2
 have p2 : Hp nz wz S0 w2 (((some b1), .row 35 ([.u x1] : List Value) (1 * (kInt .u64).size) 0) :: Lr) := p2
 obtain ⟨S3, z3, p3, f4⟩ := p2.freezeRd 0 rfl (f2.ext z2) (by decide)
 refine bind_some' h fun y5 e6 h => ?_
 refine Goes.cal (kc 10 [6, 8] #[22, 22]) 9 26 10 _ (W.z26 x0 [x1] y5 e6 Ax0 x0.length cx0 (Gp (some b1)) 1 1 p3 (fx0.ext (z2.trans z3)) rfl f4 rfl) ?_
 rintro _ w4 ⟨S4, u6k, u6l, u6m, u6n, rfl, z4, p4, u6o, rfl⟩
 have p4 := p4.dp 1
 refine Goes.rn 5 [(10, .slice (Gp u6k) y5.1.length u6m), (11, .i y5.2), (4, .slice (Gp u6k) y5.1.length u6m), (5, .i y5.2)] J8v ?_
 obtain rfl := Option.some.inj h
 exact Goes.rt Try.f28 (.tuple #[.slice (Gp u6k) y5.1.length u6m, .i y5.2]) ⟨S4, u6k, y5.1.length, u6m, u6n, rfl, ((((Ext.refl S0 w0).trans z2).trans z3).trans z4), p4, u6o, rfl⟩

def Q75 := sub [1, 1] B35
def J8x : List Item := [.code Q75]
def Q76 := sub [1, 0, 1] B35
def J8y : List Item := .code Q76 :: J8x
def Q77 := sub [1, 0, 0] B35
def J8z : List Item := .inRegion (opsOf Q77) [1, 2] :: J8y
def Q78 := sub [1, 1, 1] B35
def J90 : List Item := [.code Q78]
def Q79 := sub [1, 1, 0] B35
def J91 : List Item := .inRegion (opsOf Q79) [4, 5, 6, 7, 8, 9, 10, 11, 12, 13] :: J90
def J92 : List Item := .inRegion (opsOf Q79) [6, 7, 8, 9, 10, 11, 12, 13] :: J90
def J93 : List Item := .inRegion (opsOf Q79) [8, 9, 10, 11, 12, 13] :: J90
def Q7a := sub [1, 1, 1, 1] B35
def J94 : List Item := [.code Q7a]
def Q7b := sub [1, 1, 1, 0] B35
def J95 : List Item := .inRegion (opsOf Q7b) [5] :: J94
def Q7c := sub [1, 1, 1, 1, 1] B35
def J96 : List Item := [.code Q7c]

def Post.z28 (gx0 : Nat) (u4 : Nat) (u5 : Nat) (r : Int × (List (List (ByteArray × (List Int))))) (v : Value) (w' : World) : Prop :=
 ∃ S' Ee1, v = .i r.1 ∧ Ext S0 w0 S' w' ∧ Hp nz wz S' w' ((some gx0, .row 69 [.map (some u4)] 1 0) :: (none, .seg 65 Ee1) :: Lr) ∧ Pl (oMap Value.string (kSl (kInt .u64))) S' w' Ee1 r.2

theorem W.z28 (u5 : Nat) (x1 : ByteArray) (x2 : Int) (u1 : List (List (ByteArray × (List Int)))) (r : Int × (List (List (ByteArray × (List Int))))) (h : M.post_Index_Take u5 x1 x2 u1 = some r) {nz wz S0 w0 Lr} (gx0 u4 u2) (p0 : Hp nz wz S0 w0 ((some gx0, .row 69 [.map (some u4)] 1 0) :: (none, .seg 65 u2) :: Lr)) (u6 : Pa 65 S0 u5 u4) (u3 : Pl (oMap Value.string (kSl (kInt .u64))) S0 w0 u2 u1) :
  Calls Try.prog 35 #[(pt gx0 0), .string x1, .u x2] w0 (Rets (Post.z28 nz wz S0 w0 Lr gx0 u4 u5 r)) := by
 refine calls_of_goes (fn := Try.f35) (c := B35) (by kernel_rfl) (by kernel_rfl) 28 (by kernel_rfl) ?_
 refine Goes.jp 31 [(0, (pt gx0 0)), (1, .string x1), (2, .u x2)] (fun junk => ?_)
 delta M.post_Index_Take at h
 refine Goes.rn 8 [(6, .i 0), (9, (pt gx0 0))] J8z ?_
 refine bind_some' h fun y2 e3 h => ?_
 refine Goes.cal (kc 52 [9] #[47]) 10 4 52 _ (W.z2 u5 y2 e3 gx0 u4 p0 u6) ?_
 rintro _ w2 ⟨S2, rfl, z2, p2⟩
 refine Goes.rn 10 [(11, .bool (!true)), (13, (pt gx0 0)), (14, (pt gx0 0)), (15, (pt gx0 0)), (16, (pt gx0 0))] J91 ?_
 refine Goes.ld 65 (.tmp 16) 17 65 ⟨gx0, 0, none⟩ (.map (some u4)) (p2.c 0 0) ?_
 refine Goes.rn 1 [(18, .string x1)] J92 ?_
 refine let_some h fun v4 e5 h => ?_
 refine Op_.lkM 65 (.tmp 17) (.tmp 18) 19 22 9 22 1 (.slice none 0 0) ([] : List Int) x1 v4 p2 rfl (u3.ext z2) (u6.ext z2) Goes.v (by kernel_rfl) (by kernel_rfl) (by kernel_rfl) (kok_str (by kernel_rfl)) (by kernel_rfl) ⟨none, 0, rfl, Rd.none_⟩ e5 ?_
 intro v6 f7
 obtain ⟨A8, c9, rfl, f10⟩ := one_sl f7
 refine Goes.rn 1 [(20, .u x2)] J93 ?_
 refine bind_some' h fun y11 e12 h => ?_
 refine Goes.cal (kc 28 [19, 20] #[22, 35]) 21 26 28 _ (W.z27 v4 x2 y11 e12 A8 v4.length c9 p2 f10 rfl) ?_
 rintro _ w3 ⟨S3, u4t, u4u, u4v, u4w, rfl, z3, p3, u4x, rfl⟩
 refine Goes.rn 13 [(12, .tuple #[.slice (Gp u4t) y11.1.length u4v, .i y11.2]), (22, .slice (Gp u4t) y11.1.length u4v), (23, .i y11.2), (7, .slice (Gp u4t) y11.1.length u4v), (8, .i y11.2), (24, (pt gx0 0)), (25, (pt gx0 0)), (26, (pt gx0 0)), (27, .string x1), (28, .slice (Gp u4t) y11.1.length u4v)] J95 ?_
 obtain ⟨S4, z4, p4, f14⟩ := p3.freezeRd 0 rfl u4x (by decide)
 have p4 := (p4.fr 2).fr 2
 refine bind_some' h fun y15 e16 h => ?_
 refine Goes.cal (kc 53 [26, 27, 28] #[67, 9, 22]) 29 0 53 _ (W.zq u5 x1 y11.1 u1 y15 e16 gx0 u4 (Gp u4t) y11.1.length u4v u2 p4 (u6.ext ((z2.trans z3).trans z4)) f14 rfl (u3.ext ((z2.trans z3).trans z4))) ?_
 rintro _ w5 ⟨S5, u4y, rfl, z5, p5, u4z⟩
 have p5 := p5.dp 2
 refine Goes.rn 6 [(30, .i y11.2), (6, .i y11.2)] J96 ?_
 obtain rfl := Option.some.inj h
 exact Goes.rt Try.f35 (.i y11.2) ⟨S5, u4y, rfl, (((((Ext.refl S0 w0).trans z2).trans z3).trans z4).trans z5), p5, u4z⟩

def Q7d := sub [1, 1] B49
def J97 : List Item := [.code Q7d]
def J98 : List Item := .inBlock 0 :: J97
def Q7e := sub [1, 0, 1, 0, 0] B49
def J99 : List Item := .inLoop Q7e :: J98
def J9a : List Item := .code Q7e :: J99
def Q7f := sub [1, 0, 1, 0, 0, 1] B49
def J9b : List Item := .code Q7f :: J99
def Q7g := sub [1, 0, 1, 0, 0, 0, 1] B49
def J9c : List Item := .code Q7g :: J9b
def Q7h := sub [1, 0, 1, 0, 0, 1, 1] B49
def J9d : List Item := .code Q7h :: J99
def J9e : List Item := .inBlock 1 :: J9d
def Q7i := sub [1, 0, 1, 0, 0, 1, 0, 0, 1] B49
def J9f : List Item := .code Q7i :: J9e
def Q7j := sub [1, 0, 1, 0, 0, 1, 0, 0, 0] B49
def J9g : List Item := .inRegion (opsOf Q7j) [2, 3, 4, 5] :: J9f
def Q7k := sub [1, 0, 1, 0, 0, 1, 0, 0, 1, 0, 1] B49
def J9h : List Item := .code Q7k :: J9e
def Q7l := sub [1, 1, 1] B49
def J9i : List Item := [.code Q7l]

def Post.z29 (r : Bool) (v : Value) (w' : World) : Prop :=
 ∃ S', v = .bool r ∧ Ext S0 w0 S' w' ∧ Hp nz wz S' w' (Lr)

def L.z2a : (List Int) × Int × Int → Bool → Prop := fun ⟨x0, x1, x5⟩ r => ∀ S1 w1, Ext S0 w0 S1 w1 → ∀ Ax0 nx0 cx0 (_ : Hp nz wz S1 w1 (Lr)) (_ : Rd (kInt .u64) S1 w1 Ax0 cx0 x0) (_ : x0.length = nx0) (junk : Nat → Value),
 Goes Try.prog (base 49) J9a ⟨lfr 18 [(0, .slice Ax0 nx0 cx0), (1, .u x1), (5, .i x5)] junk, []⟩ w1 (Done Try.prog 49 (Rets (Post.z29 nz wz S0 w0 Lr r)))

theorem W.z2a {nz wz S0 w0 Lr} : ∀ a r, M.tidepoleref13_in_l0 a = some r → (L.z2a nz wz S0 w0 Lr) a r := by
 refine M.tidepoleref13_in_l0.partial_correctness (motive := (L.z2a nz wz S0 w0 Lr)) ?_
 intro u9i u9j ⟨x0, x1, x5⟩ r h S1 w1 hx Ax0 nx0 cx0 p1 fx0 lx0 junk
 try dsimp only at h
 subst lx0
 refine Goes.rn 8 [(6, .i x5), (7, .slice Ax0 x0.length cx0), (8, .i (x0.length : Int)), (9, .bool (decide (x5 < (x0.length : Int))))] J9c ?_
 refine ite_some h (fun h1 h => ?_) (fun h1 h => ?_)
 ·
  rw [decide_eq_true h1]
  refine Goes.rn 8 [(12, .slice Ax0 x0.length cx0), (13, .i x5)] J9g ?_
  refine guard_some' h fun g2 h => ?_
  refine Op_.ixR_n 22 (.tmp 12) (.tmp 13) 14 0 35 .i64 x5 (gi x0 x5) rfl rfl fx0 Goes.v (by kernel_rfl) (by kernel_rfl) (by kernel_rfl) (by kernel_rfl) g2 h1 ?_
  intro a3 _ f4 q5
  obtain rfl := q5
  refine Goes.ld 35 (.tmp 14) 15 35 a3 (.u (gi x0 x5)) (f4.cell 0 _ rfl) ?_
  refine Goes.rn 3 [(16, .u x1), (17, .bool (decide (gi x0 x5 = x1)))] J9f ?_
  refine ite_some h (fun h6 h => ?_) (fun h6 h => ?_)
  ·
   rw [decide_eq_true h6]
   refine Goes.rn 5 [(4, .bool true)] J9h ?_
   obtain rfl := Option.some.inj h
   exact Goes.rt Try.f49 (.bool true) ⟨S1, rfl, hx, p1⟩
  ·
   rw [decide_eq_false h6]
   refine Goes.rn 9 [(10, .i x5), (11, .i (wr .i64 (x5 + 1))), (5, .i (wr .i64 (x5 + 1)))] J9a ?_
   exact Goes.jp 18 [(0, .slice Ax0 x0.length cx0), (1, .u x1), (5, .i (wr .i64 (x5 + 1)))] (u9j _ _ h _ _ hx Ax0 x0.length cx0 p1 fx0 rfl)
 ·
  rw [decide_eq_false h1]
  refine Goes.rn 6 [(4, .bool false)] J9i ?_
  obtain rfl := Option.some.inj h
  exact Goes.rt Try.f49 (.bool false) ⟨S1, rfl, hx, p1⟩

theorem W.z29 (x0 : List Int) (x1 : Int) (r : Bool) (h : M.tidepoleref13_in x0 x1 = some r) {nz wz S0 w0 Lr} (Ax0 nx0 cx0) (p0 : Hp nz wz S0 w0 (Lr)) (fx0 : Rd (kInt .u64) S0 w0 Ax0 cx0 x0) (lx0 : x0.length = nx0) :
  Calls Try.prog 49 #[.slice Ax0 nx0 cx0, .u x1] w0 (Rets (Post.z29 nz wz S0 w0 Lr r)) := by
 subst lx0
 refine calls_of_goes (fn := Try.f49) (c := B49) (by kernel_rfl) (by kernel_rfl) 16 (by kernel_rfl) ?_
 refine Goes.jp 18 [(0, .slice Ax0 x0.length cx0), (1, .u x1)] (fun junk => ?_)
 delta M.tidepoleref13_in at h
 refine Goes.rn 11 [(4, .bool false), (5, .i 0)] J9a ?_
 exact Goes.jp 18 [(0, .slice Ax0 x0.length cx0), (1, .u x1), (5, .i 0)] (W.z2a _ _ h _ _ (Ext.refl S0 w0) Ax0 x0.length cx0 p0 fx0 rfl)

def Q7m := sub [1, 1, 1, 1] B25
def J9j : List Item := [.code Q7m]
def J9k : List Item := .inBlock 0 :: J9j
def Q7n := sub [1, 1, 1, 0, 1, 0, 0] B25
def J9l : List Item := .inLoop Q7n :: J9k
def J9m : List Item := .code Q7n :: J9l
def Q7o := sub [1, 1, 1, 0, 1, 0, 0, 1, 1] B25
def J9n : List Item := .code Q7o :: J9l
def J9o : List Item := .inBlock 1 :: J9n
def Q7p := sub [1, 1, 1, 0, 1, 0, 0, 1] B25
def J9p : List Item := .code Q7p :: J9l
def Q7q := sub [1, 1, 1, 0, 1, 0, 0, 0, 1] B25
def J9q : List Item := .code Q7q :: J9p
def Q7r := sub [1, 1, 1, 0, 1, 0, 0, 1, 0, 0, 1] B25
def J9r : List Item := .code Q7r :: J9o
def Q7s := sub [1, 1, 1, 0, 1, 0, 0, 1, 0, 0, 0] B25
def J9s : List Item := .inRegion (opsOf Q7s) [3, 4, 5, 6] :: J9r
def Q7t := sub [1, 1, 1, 0, 1, 0, 0, 1, 0, 0, 1, 0] B25
def J9t : List Item := .inRegion (opsOf Q7t) [3, 4, 5, 6, 7] :: J9o
def Q7u := sub [1, 1, 1, 1, 1] B25
def J9u : List Item := [.code Q7u]

def Post.z2b (r : (List Int) × Int) (v : Value) (w' : World) : Prop :=
 ∃ S' u3q u3r u3s u3t, v = .tuple #[.slice (Gp u3q) u3r u3s, .i r.2] ∧ Ext S0 w0 S' w' ∧ Hp nz wz S' w' ((u3q, .row 35 u3t (u3s * (kInt .u64).size) 0) :: Lr) ∧ Els (kInt .u64) S' w' u3t r.1 ∧ r.1.length = u3r

def L.z2c : (List Int) × (List Int) × (List Int) × Int → ((List Int) × Int) → Prop := fun ⟨x0, x1, x6, x7⟩ r => ∀ S1 w1, Ext S0 w0 S1 w1 → ∀ Ax0 nx0 cx0 Ax1 nx1 cx1 Gx6 nx6 cx6 u5f (_ : Hp nz wz S1 w1 ((Gx6, .row 35 u5f (cx6 * (kInt .u64).size) 0) :: Lr)) (_ : Rd (kInt .u64) S1 w1 Ax0 cx0 x0) (_ : x0.length = nx0) (_ : Rd (kInt .u64) S1 w1 Ax1 cx1 x1) (_ : x1.length = nx1) (_ : Els (kInt .u64) S1 w1 u5f x6) (_ : x6.length = nx6) (junk : Nat → Value),
 Goes Try.prog (base 25) J9m ⟨lfr 38 [(0, .slice Ax0 nx0 cx0), (1, .slice Ax1 nx1 cx1), (6, .slice (Gp Gx6) nx6 cx6), (7, .i x7)] junk, []⟩ w1 (Done Try.prog 25 (Rets (Post.z2b nz wz S0 w0 Lr r)))

def L.z2d : (List Int) × (List Int) × (List Int) × Int → ((List Int) × Int) → Prop := fun ⟨x0, x1, x6, x7⟩ r => ∀ S1 w1, Ext S0 w0 S1 w1 → ∀ Ax0 nx0 cx0 Ax1 nx1 cx1 Gx6 nx6 cx6 u5f (_ : Hp nz wz S1 w1 ((Gx6, .row 35 u5f (cx6 * (kInt .u64).size) 0) :: Lr)) (_ : Rd (kInt .u64) S1 w1 Ax0 cx0 x0) (_ : x0.length = nx0) (_ : Rd (kInt .u64) S1 w1 Ax1 cx1 x1) (_ : x1.length = nx1) (_ : Els (kInt .u64) S1 w1 u5f x6) (_ : x6.length = nx6) (junk : Nat → Value),
 Goes Try.prog (base 25) J9o ⟨lfr 38 [(0, .slice Ax0 nx0 cx0), (1, .slice Ax1 nx1 cx1), (6, .slice (Gp Gx6) nx6 cx6), (7, .i x7)] junk, []⟩ w1 (Done Try.prog 25 (Rets (Post.z2b nz wz S0 w0 Lr r)))

theorem W.z2e {nz wz S0 w0 Lr} : (∀ a r, M.tidepoleref13_But_l1 a = some r → (L.z2c nz wz S0 w0 Lr) a r) ∧ (∀ a r, M.tidepoleref13_But_l2 a = some r → (L.z2d nz wz S0 w0 Lr) a r) := by
 refine M.tidepoleref13_But_l1.mutual_partial_correctness (L.z2c nz wz S0 w0 Lr) (L.z2d nz wz S0 w0 Lr) ?_ ?_
 ·
  intro u9k u9l ⟨x0, x1, x6, x7⟩ r h S1 w1 hx Ax0 nx0 cx0 Ax1 nx1 cx1 Gx6 nx6 cx6 u5f p1 fx0 lx0 fx1 lx1 fx6 lx6 junk
  try dsimp only at h
  subst lx0
  subst lx1
  subst lx6
  refine Goes.rn 8 [(17, .i x7), (18, .slice Ax0 x0.length cx0), (19, .i (x0.length : Int)), (20, .bool (decide (x7 < (x0.length : Int))))] J9q ?_
  refine ite_some h (fun h12 h => ?_) (fun h12 h => ?_)
  ·
   rw [decide_eq_true h12]
   refine Goes.rn 9 [(23, .slice Ax1 x1.length cx1), (24, .slice Ax0 x0.length cx0), (25, .i x7)] J9s ?_
   refine guard_some' h fun g13 h => ?_
   refine Op_.ixR_n 22 (.tmp 24) (.tmp 25) 26 0 35 .i64 x7 (gi x0 x7) rfl rfl fx0 Goes.v (by kernel_rfl) (by kernel_rfl) (by kernel_rfl) (by kernel_rfl) g13 h12 ?_
   intro a14 _ f15 q16
   obtain rfl := q16
   refine Goes.ld 35 (.tmp 26) 27 35 a14 (.u (gi x0 x7)) (f15.cell 0 _ rfl) ?_
   refine bind_some' h fun y17 e18 h => ?_
   refine Goes.cal (kc 49 [23, 27] #[22, 35]) 28 4 49 _ (W.z29 x1 (gi x0 x7) y17 e18 Ax1 x1.length cx1 p1 fx1 rfl) ?_
   rintro _ w5 ⟨S5, rfl, z5, p5⟩
   refine Goes.rn 2 [(29, .bool (!y17))] J9r ?_
   refine ite_some h (fun h19 h => ?_) (fun h19 h => ?_)
   ·
    rw [h19]
    refine Goes.rn 2 [] J9o ?_
    exact Goes.jp 38 [(0, .slice Ax0 x0.length cx0), (1, .slice Ax1 x1.length cx1), (6, .slice (Gp Gx6) x6.length cx6), (7, .i x7)] (u9l _ _ h _ _ (hx.trans z5) Ax0 x0.length cx0 Ax1 x1.length cx1 Gx6 x6.length cx6 u5f p5 (fx0.ext z5) rfl (fx1.ext z5) rfl (fx6.ext z5) rfl)
   ·
    have u9m : y17 = false := by simpa using h19
    rw [u9m]
    refine Goes.rn 5 [(30, .slice (Gp Gx6) x6.length cx6), (31, .slice Ax0 x0.length cx0), (32, .i x7)] J9t ?_
    refine Op_.ixR_n 22 (.tmp 31) (.tmp 32) 33 0 35 .i64 x7 (gi x0 x7) rfl rfl (fx0.ext z5) Goes.v (by kernel_rfl) (by kernel_rfl) (by kernel_rfl) (by kernel_rfl) g13 h12 ?_
    intro a21 _ f22 q23
    obtain rfl := q23
    refine Goes.ld 35 (.tmp 33) 34 35 a21 (.u (gi x0 x7)) (f22.cell 0 _ rfl) ?_
    have f25 : Els (kInt .u64) S5 w5 ([.u (gi x0 x7)] : List Value) [gi x0 x7] := by exact (Els.cons (K := (kInt .u64)) (vs := [.u (gi x0 x7)]) (x := gi x0 x7) rfl Els.nil)
    refine Op_.made (.buildSlice 22 1 #[(0, (.tmp 34))]) 35 22 (fun b => .slice (Gp (some b)) 1 1) 35 ([.u (gi x0 x7)] : List Value) p5 Goes.v (by kernel_rfl) ?_
    intro b24 w6 z6 p6
    have p6 : Hp nz wz S5 w6 (((some b24), .row 35 ([.u (gi x0 x7)] : List Value) (1 * (kInt .u64).size) 0) :: (Gx6, .row 35 u5f (cx6 * (kInt .u64).size) 0) :: Lr) := p6
    refine guard_some' h fun g30 h => ?_
    refine Op_.ap_n (K := (kInt .u64)) 22 (.tmp 30) (.tmp 35) 36 22 35 1 (.u 0) 8 x6.length cx6 1 x6 [gi x0 x7] (x6 ++ [gi x0 x7]) (Gp (some b24)) 1 rfl rfl rfl p6 rfl (fx6.ext (z5.trans z6)) Goes.v (by kernel_rfl) (by kernel_rfl) (by kernel_rfl) (by kernel_rfl) rfl (by decide) (f25.ext z6) (src_own p6 (q := 0) rfl) (by have := g30; omega) (by have := g30; omega) ?_
    intro w7 G31 c32 u9n z7 p7 f34
    refine Goes.rn 2 [(6, .slice (Gp G31) ((x6 ++ [gi x0 x7]).length) c32)] J9o ?_
    have p7 := p7.dp 0
    exact Goes.jp 38 [(0, .slice Ax0 x0.length cx0), (1, .slice Ax1 x1.length cx1), (6, .slice (Gp G31) ((x6 ++ [gi x0 x7]).length) c32), (7, .i x7)] (u9l _ _ h _ _ (((hx.trans z5).trans z6).trans z7) Ax0 x0.length cx0 Ax1 x1.length cx1 G31 ((x6 ++ [gi x0 x7]).length) c32 u9n p7 (fx0.ext ((z5.trans z6).trans z7)) rfl (fx1.ext ((z5.trans z6).trans z7)) rfl f34 rfl)
  ·
   rw [decide_eq_false h12]
   refine Goes.rn 8 [(37, .slice (Gp Gx6) x6.length cx6), (4, .slice (Gp Gx6) x6.length cx6), (5, .i 0)] J9u ?_
   obtain rfl := Option.some.inj h
   exact Goes.rt Try.f25 (.tuple #[.slice (Gp Gx6) x6.length cx6, .i 0]) ⟨S1, Gx6, x6.length, cx6, u5f, rfl, hx, p1, fx6, rfl⟩
 ·
  intro u9o u9p ⟨x0, x1, x6, x7⟩ r h S1 w1 hx Ax0 nx0 cx0 Ax1 nx1 cx1 Gx6 nx6 cx6 u5f p1 fx0 lx0 fx1 lx1 fx6 lx6 junk
  try dsimp only at h
  subst lx0
  subst lx1
  subst lx6
  refine Goes.rn 7 [(21, .i x7), (22, .i (wr .i64 (x7 + 1))), (7, .i (wr .i64 (x7 + 1)))] J9m ?_
  exact Goes.jp 38 [(0, .slice Ax0 x0.length cx0), (1, .slice Ax1 x1.length cx1), (6, .slice (Gp Gx6) x6.length cx6), (7, .i (wr .i64 (x7 + 1)))] (u9p _ _ h _ _ hx Ax0 x0.length cx0 Ax1 x1.length cx1 Gx6 x6.length cx6 u5f p1 fx0 rfl fx1 rfl fx6 rfl)

theorem W.z2c {nz wz S0 w0 Lr} : ∀ a r, M.tidepoleref13_But_l1 a = some r → (L.z2c nz wz S0 w0 Lr) a r := (W.z2e).1

theorem W.z2d {nz wz S0 w0 Lr} : ∀ a r, M.tidepoleref13_But_l2 a = some r → (L.z2d nz wz S0 w0 Lr) a r := (W.z2e).2

def Q7v := sub [1, 1] B25
def J9v : List Item := [.code Q7v]
def Q7w := sub [1, 0, 1] B25
def J9w : List Item := .code Q7w :: J9v
def Q7x := sub [1, 0, 1, 0, 1] B25
def J9x : List Item := .code Q7x :: J9v
def Q7y := sub [1, 1, 1] B25
def J9y : List Item := [.code Q7y]
def Q7z := sub [1, 1, 0] B25
def J9z : List Item := .inRegion (opsOf Q7z) [0, 1] :: J9y

def L.z2f : (List Int) × (List Int) × Bool → ((List Int) × Int) → Prop := fun ⟨x0, x1, x15⟩ r => ∀ S1 w1, Ext S0 w0 S1 w1 → ∀ Ax0 nx0 cx0 Ax1 nx1 cx1 (_ : Hp nz wz S1 w1 (Lr)) (_ : Rd (kInt .u64) S1 w1 Ax0 cx0 x0) (_ : x0.length = nx0) (_ : Rd (kInt .u64) S1 w1 Ax1 cx1 x1) (_ : x1.length = nx1) (junk : Nat → Value),
 Goes Try.prog (base 25) J9w ⟨lfr 38 [(0, .slice Ax0 nx0 cx0), (1, .slice Ax1 nx1 cx1), (15, .bool x15)] junk, []⟩ w1 (Done Try.prog 25 (Rets (Post.z2b nz wz S0 w0 Lr r)))

theorem W.z2f {nz wz S0 w0 Lr} : ∀ a r, M.tidepoleref13_But_l0 a = some r → L.z2f nz wz S0 w0 Lr a r := by
 intro ⟨x0, x1, x15⟩ r h S1 w1 hx Ax0 nx0 cx0 Ax1 nx1 cx1 p1 fx0 lx0 fx1 lx1 junk
 rw [M.tidepoleref13_But_l0] at h
 try dsimp only at h
 subst lx0
 subst lx1
 refine ite_some h (fun h6 h => ?_) (fun h6 h => ?_)
 ·
  rw [h6]
  refine Goes.rn 6 [(4, .slice none 0 0), (5, .i 2)] J9x ?_
  have p1 : Hp nz wz S1 w1 ((none, .row 35 [] (0 * (kInt .u64).size) 0) :: Lr) := p1.nilRow' 35
  obtain rfl := Option.some.inj h
  exact Goes.rt Try.f25 (.tuple #[.slice (Gp none) 0 0, .i 2]) ⟨S1, none, 0, 0, [], rfl, hx, p1, (Els.nil (K := (kInt .u64))), rfl⟩
 ·
  have h6' : x15 = false := by simpa using h6
  rw [h6']
  refine Goes.rn 4 [] J9z ?_
  have f9 : Els (kInt .u64) S1 w1 ([] : List Value) ([] : List Int) := by exact Els.nil
  refine Op_.made (.buildSlice 22 0 #[]) 16 22 (fun b => .slice (Gp (some b)) 0 0) 35 ([] : List Value) p1 Goes.v (by kernel_rfl) ?_
  intro b8 w4 z4 p4
  have p4 : Hp nz wz S1 w4 (((some b8), .row 35 ([] : List Value) (0 * (kInt .u64).size) 0) :: Lr) := p4
  refine Goes.rn 9 [(6, .slice (Gp (some b8)) 0 0), (7, .i 0)] J9m ?_
  exact Goes.jp 38 [(0, .slice Ax0 x0.length cx0), (1, .slice Ax1 x1.length cx1), (6, .slice (Gp (some b8)) 0 0), (7, .i 0)] (W.z2c _ _ h _ _ (hx.trans z4) Ax0 x0.length cx0 Ax1 x1.length cx1 (some b8) 0 0 ([] : List Value) p4 (fx0.ext z4) rfl (fx1.ext z4) rfl (f9.ext z4) rfl)

def Q80 := sub [1, 0, 0] B25
def Ja0 : List Item := .inRegion (opsOf Q80) [1, 2, 3, 4, 5, 6, 7] :: J9w
def Ja1 : List Item := .inRegion (opsOf Q80) [4, 5, 6, 7] :: J9w
def Ja2 : List Item := .inRegion (opsOf Q80) [5, 6, 7] :: J9w

theorem W.z2b (x0 : List Int) (x1 : List Int) (r : (List Int) × Int) (h : M.tidepoleref13_But x0 x1 = some r) {nz wz S0 w0 Lr} (Ax0 nx0 cx0 Ax1 nx1 cx1) (p0 : Hp nz wz S0 w0 (Lr)) (fx0 : Rd (kInt .u64) S0 w0 Ax0 cx0 x0) (lx0 : x0.length = nx0) (fx1 : Rd (kInt .u64) S0 w0 Ax1 cx1 x1) (lx1 : x1.length = nx1) :
  Calls Try.prog 25 #[.slice Ax0 nx0 cx0, .slice Ax1 nx1 cx1] w0 (Rets (Post.z2b nz wz S0 w0 Lr r)) := by
 subst lx0
 subst lx1
 refine calls_of_goes (fn := Try.f25) (c := B25) (by kernel_rfl) (by kernel_rfl) 36 (by kernel_rfl) ?_
 refine Goes.jp 38 [(0, .slice Ax0 x0.length cx0), (1, .slice Ax1 x1.length cx1)] (fun junk => ?_)
 delta M.tidepoleref13_But at h
 refine Goes.rn 9 [(4, .slice none 0 0), (5, .i 0), (8, .slice Ax0 x0.length cx0)] Ja0 ?_
 refine bind_some' h fun y1 e2 h => ?_
 refine Goes.cal (kc 24 [8] #[22]) 9 25 24 _ (W.zu x0 y1 e2 Ax0 x0.length cx0 p0 fx0 rfl) ?_
 rintro _ w2 ⟨S2, rfl, z2, p2⟩
 refine Goes.rn 2 [(10, .bool (!(decide (y1 = 0)))), (11, .bool (!(decide (y1 = 0))))] Ja1 ?_
 refine ite_some h (fun h3 h => ?_) (fun h3 h => ?_)
 ·
  rw [decide_eq_true h3]
  refine Goes.rn 1 [(12, .slice Ax1 x1.length cx1)] Ja2 ?_
  refine bind_some' h fun y4 e5 h => ?_
  refine Goes.cal (kc 24 [12] #[22]) 13 25 24 _ (W.zu x1 y4 e5 Ax1 x1.length cx1 p2 (fx1.ext z2) rfl) ?_
  rintro _ w3 ⟨S3, rfl, z3, p3⟩
  refine Goes.rn 3 [(14, .bool (!(decide (y4 = 0)))), (15, .bool (!(decide (y4 = 0))))] J9w ?_
  exact Goes.jp 38 [(0, .slice Ax0 x0.length cx0), (1, .slice Ax1 x1.length cx1), (15, .bool (!(decide (y4 = 0))))] (W.z2f _ _ h _ _ (((Ext.refl S0 w0).trans z2).trans z3) Ax0 x0.length cx0 Ax1 x1.length cx1 p3 (fx0.ext (z2.trans z3)) rfl (fx1.ext (z2.trans z3)) rfl)
 ·
  rw [decide_eq_false h3]
  refine Goes.rn 5 [(12, undef), (13, undef), (14, undef), (15, .bool true)] J9w ?_
  exact Goes.jp 38 [(0, .slice Ax0 x0.length cx0), (1, .slice Ax1 x1.length cx1), (15, .bool true)] (W.z2f _ _ h _ _ ((Ext.refl S0 w0).trans z2) Ax0 x0.length cx0 Ax1 x1.length cx1 p2 (fx0.ext z2) rfl (fx1.ext z2) rfl)

def Q81 := sub [1, 1] B29
def Ja3 : List Item := [.code Q81]
def Q82 := sub [1, 0] B29
def Ja4 : List Item := .inRegion (opsOf Q82) [2, 3, 4, 5, 6, 7] :: Ja3

def Post.z2g (r : (List Int) × Int) (v : Value) (w' : World) : Prop :=
 ∃ S' u3q u3r u3s u3t, v = .tuple #[.slice (Gp u3q) u3r u3s, .i r.2] ∧ Ext S0 w0 S' w' ∧ Hp nz wz S' w' ((u3q, .row 35 u3t (u3s * (kInt .u64).size) 0) :: Lr) ∧ Els (kInt .u64) S' w' u3t r.1 ∧ r.1.length = u3r

theorem W.z2g (x0 : List Int) (x1 : Int) (r : (List Int) × Int) (h : M.tidepoleref13_Drop x0 x1 = some r) {nz wz S0 w0 Lr} (Ax0 nx0 cx0) (p0 : Hp nz wz S0 w0 (Lr)) (fx0 : Rd (kInt .u64) S0 w0 Ax0 cx0 x0) (lx0 : x0.length = nx0) :
  Calls Try.prog 29 #[.slice Ax0 nx0 cx0, .u x1] w0 (Rets (Post.z2g nz wz S0 w0 Lr r)) := by
 subst lx0
 refine calls_of_goes (fn := Try.f29) (c := B29) (by kernel_rfl) (by kernel_rfl) 10 (by kernel_rfl) ?_
 refine Goes.jp 12 [(0, .slice Ax0 x0.length cx0), (1, .u x1)] (fun junk => ?_)
 delta M.tidepoleref13_Drop at h
 refine Goes.rn 9 [(4, .slice none 0 0), (5, .i 0), (6, .slice Ax0 x0.length cx0), (7, .u x1)] Ja4 ?_
 have f2 : Els (kInt .u64) S0 w0 ([.u x1] : List Value) [x1] := by exact (Els.cons (K := (kInt .u64)) (vs := [.u x1]) (x := x1) rfl Els.nil)
 refine Op_.made (.buildSlice 22 1 #[(0, (.tmp 7))]) 8 22 (fun b => .slice (Gp (some b)) 1 1) 35 ([.u x1] : List Value) p0 Goes.v (by kernel_rfl) ?_
 intro b1 w2 z2 p2
 have p2 : Hp nz wz S0 w2 (((some b1), .row 35 ([.u x1] : List Value) (1 * (kInt .u64).size) 0) :: Lr) := p2
 obtain ⟨S3, z3, p3, f4⟩ := p2.freezeRd 0 rfl (f2.ext z2) (by decide)
 refine bind_some' h fun y5 e6 h => ?_
 refine Goes.cal (kc 25 [6, 8] #[22, 22]) 9 26 25 _ (W.z2b x0 [x1] y5 e6 Ax0 x0.length cx0 (Gp (some b1)) 1 1 p3 (fx0.ext (z2.trans z3)) rfl f4 rfl) ?_
 rintro _ w4 ⟨S4, u6k, u6l, u6m, u6n, rfl, z4, p4, u6o, rfl⟩
 have p4 := p4.dp 1
 refine Goes.rn 5 [(10, .slice (Gp u6k) y5.1.length u6m), (11, .i y5.2), (4, .slice (Gp u6k) y5.1.length u6m), (5, .i y5.2)] Ja3 ?_
 obtain rfl := Option.some.inj h
 exact Goes.rt Try.f29 (.tuple #[.slice (Gp u6k) y5.1.length u6m, .i y5.2]) ⟨S4, u6k, y5.1.length, u6m, u6n, rfl, ((((Ext.refl S0 w0).trans z2).trans z3).trans z4), p4, u6o, rfl⟩

def Q83 := sub [1] B36
def Ja5 : List Item := [.code Q83]
def Q84 := sub [0] B36
def Ja6 : List Item := .inRegion (opsOf Q84) [2, 3, 4, 5, 6, 7, 8, 9] :: Ja5
def Ja7 : List Item := .inRegion (opsOf Q84) [4, 5, 6, 7, 8, 9] :: Ja5
def Ja8 : List Item := [.inRegion (opsOf Q83) [3]]

def Post.z2h (gx0 : Nat) (r : List T58) (v : Value) (w' : World) : Prop :=
 ∃ S' u5t u5u u5v u5w, v = .tuple #[] ∧ Ext S0 w0 S' w' ∧ Hp nz wz S' w' ((some gx0, .row 52 [.slice (Gp u5t) u5u u5v] 1 0) :: (u5t, .row 59 u5w (u5v * kT58.size) 0) :: Lr) ∧ Els kT58 S' w' u5w r ∧ r.length = u5u

theorem W.z2h (u54 : List T58) (x1 : ByteArray) (x2 : Int) (r : List T58) (h : M.tidepoleref13_Index_Take u54 x1 x2 = some r) {nz wz S0 w0 Lr} (gx0 u50 u51 u52 u53) (p0 : Hp nz wz S0 w0 ((some gx0, .row 52 [.slice (Gp u50) u51 u52] 1 0) :: (u50, .row 59 u53 (u52 * kT58.size) 0) :: Lr)) (u5b : Els kT58 S0 w0 u53 u54) (u5c : u54.length = u51) :
  Calls Try.prog 36 #[(pt gx0 0), .string x1, .u x2] w0 (Rets (Post.z2h nz wz S0 w0 Lr gx0 r)) := by
 subst u5c
 refine calls_of_goes (fn := Try.f36) (c := B36) (by kernel_rfl) (by kernel_rfl) 17 (by kernel_rfl) ?_
 refine Goes.jp 20 [(0, (pt gx0 0)), (1, .string x1), (2, .u x2)] (fun junk => ?_)
 delta M.tidepoleref13_Index_Take at h
 refine Goes.rn 4 [(9, (pt gx0 0)), (10, .string x1)] Ja6 ?_
 refine bind_some' h fun y3 e4 h => ?_
 refine Goes.cal (kc 41 [9, 10] #[49, 9]) 11 22 41 _ (W.zs u54 x1 y3 e4 gx0 u50 u54.length u52 u53 p0 u5b rfl) ?_
 rintro _ w2 ⟨S2, u6f, u6g, u6h, u6i, rfl, z2, p2, u6j, rfl⟩
 refine Goes.rn 1 [(12, .u x2)] Ja7 ?_
 obtain ⟨S3, z3, p3, f6⟩ := p2.freezeRd 0 rfl u6j (by decide)
 refine bind_some' h fun y7 e8 h => ?_
 refine Goes.cal (kc 29 [11, 12] #[22, 35]) 13 26 29 _ (W.z2g y3 x2 y7 e8 (Gp u6f) y3.length u6h p3 f6 rfl) ?_
 rintro _ w4 ⟨S4, u6k, u6l, u6m, u6n, rfl, z4, p4, u6o, rfl⟩
 have p4 := p4.dp 1
 refine Goes.rn 10 [(8, .tuple #[.slice (Gp u6k) y7.1.length u6m, .i y7.2]), (14, .slice (Gp u6k) y7.1.length u6m), (15, .i y7.2), (6, .slice (Gp u6k) y7.1.length u6m), (7, .i y7.2), (16, (pt gx0 0)), (17, .string x1), (18, .slice (Gp u6k) y7.1.length u6m)] Ja8 ?_
 obtain ⟨S5, z5, p5, f10⟩ := p4.freezeRd 0 rfl u6o (by decide)
 have p5 := (p5.fr 2).fr 2
 refine bind_some' h fun y11 e12 h => ?_
 refine Goes.cal (kc 54 [16, 17, 18] #[49, 9, 22]) 19 0 54 _ (W.z12 u54 x1 y7.1 y11 e12 gx0 u50 u54.length u52 u53 (Gp u6k) y7.1.length u6m p5 (u5b.ext (((z2.trans z3).trans z4).trans z5)) rfl f10 rfl) ?_
 rintro _ w6 ⟨S6, u6p, u6q, u6r, u6s, rfl, z6, p6, u6t, rfl⟩
 have p6 := p6.dp 2
 refine Goes.rn 1 [] [] ?_
 obtain rfl := Option.some.inj h
 exact Goes.end_ (fn := Try.f36) (by kernel_rfl) (v := .tuple #[]) (by kernel_rfl) ⟨S6, u6p, y11.length, u6r, u6s, rfl, ((((((Ext.refl S0 w0).trans z2).trans z3).trans z4).trans z5).trans z6), p6, u6t, rfl⟩

def Q85 := sub [1, 1] B46
def Ja9 : List Item := [.code Q85]

def Post.z2i (r : Bool) (v : Value) (w' : World) : Prop :=
 ∃ S', v = .bool r ∧ Ext S0 w0 S' w' ∧ Hp nz wz S' w' (Lr)

theorem W.z2i (x0 : Int) (r : Bool) (h : M.post_both x0 = some r) {nz wz S0 w0 Lr} (p0 : Hp nz wz S0 w0 (Lr)) :
  Calls Try.prog 46 #[.i x0] w0 (Rets (Post.z2i nz wz S0 w0 Lr r)) := by
 refine calls_of_goes (fn := Try.f46) (c := B46) (by kernel_rfl) (by kernel_rfl) 4 (by kernel_rfl) ?_
 refine Goes.jp 5 [(0, .i x0)] (fun junk => ?_)
 delta M.post_both at h
 refine Goes.rn 10 [(2, .bool (decide (x0 = 3))), (3, .i x0), (4, .bool (decide (x0 = 3)))] Ja9 ?_
 obtain rfl := Option.some.inj h
 exact Goes.rt Try.f46 (.bool (decide (x0 = 3))) ⟨S0, rfl, (Ext.refl S0 w0), p0⟩

def Post.z2j (lk : Nat) (rk : Nat) (jkk : Nat → Value) (ui : Nat) (uj : Nat) (uk : Nat) (ul : Option Addr) (um : Nat) (un : Nat) (uo : Nat) (up : Option Addr) (uq : Nat) (ur : Nat) (ut : List Int) (uu : List Int) (r : List Int) (v : Value) (w' : World) : Prop :=
 ∃ S' uv uw ux uy, v = .bool true ∧ Ext S0 w0 S' w' ∧ Hp nz wz S' w' ((some lk, .obj (lpst 58 (lfr 23 [(5, (pt ui 0)), (7, (pt uj 0)), (12, .func (.func 68) #[] #[(pt uk 0), (pt uo 0)])] jkk) #[13, 14] (rfAssign (Q10)) (rfBody (Q10)) rk .ready none)) :: (some ui, .row 72 [.func (.func 46) #[] #[]] 1 0) :: (some uj, .row 22 [.slice (Gp uv) uw ux] 1 0) :: (uv, .row 35 uy (ux * (kInt .u64).size) 0) :: (some uk, .row 22 [.slice ul um un] 1 0) :: (some uo, .row 22 [.slice up uq ur] 1 0) :: Lr) ∧ Els (kInt .u64) S' w' uy r ∧ r.length = uw

theorem W.z2j (uz : List Int) (ut : List Int) (uu : List Int) (a0 : Int) (a1 : Int) (r : List Int) (h : M.post_those_uint64__r_3 uz ut uu a0 a1 = some r) {nz wz S0 w0 Lr} (lk rk jkk ui uj u10 u11 u12 u13 uk ul um un uo up uq ur) (p0 : Hp nz wz S0 w0 ((some lk, .obj (lpst 58 (lfr 23 [(5, (pt ui 0)), (7, (pt uj 0)), (12, .func (.func 68) #[] #[(pt uk 0), (pt uo 0)])] jkk) #[13, 14] (rfAssign (Q10)) (rfBody (Q10)) rk .ready none)) :: (some ui, .row 72 [.func (.func 46) #[] #[]] 1 0) :: (some uj, .row 22 [.slice (Gp u10) u11 u12] 1 0) :: (u10, .row 35 u13 (u12 * (kInt .u64).size) 0) :: (some uk, .row 22 [.slice ul um un] 1 0) :: (some uo, .row 22 [.slice up uq ur] 1 0) :: Lr)) (u14 : Els (kInt .u64) S0 w0 u13 uz) (u15 : uz.length = u11) (u16 : Rd (kInt .u64) S0 w0 ul un ut) (u17 : ut.length = um) (u18 : Rd (kInt .u64) S0 w0 up ur uu) (u19 : uu.length = uq) :
  Goes Try.prog (rbase 58 lk) [.code (rfAssign (Q10)), .beginRound, .code (rfBody (Q10))] ⟨setp (lfr 23 [(5, (pt ui 0)), (7, (pt uj 0)), (12, .func (.func 68) #[] #[(pt uk 0), (pt uo 0)])] jkk) #[13, 14] #[.u a0, .i a1], []⟩ w0 (DoneR (Post.z2j nz wz S0 w0 Lr lk rk jkk ui uj uk ul um un uo up uq ur ut uu r)) := by
 subst u15
 subst u17
 subst u19
 refine Goes.jp 23 [(5, (pt ui 0)), (7, (pt uj 0)), (12, .func (.func 68) #[] #[(pt uk 0), (pt uo 0)]), (13, .u a0), (14, .i a1)] (fun junk => ?_)
 delta M.post_those_uint64__r_3 at h
 refine Goes.rn 7 [(8, .u a0), (9, .i a1)] [.beginRound, .code (Q11)] ?_
 refine Goes.beginR 0 rfl p0 rfl ?_
 intro w2 z2 p2
 refine Goes.rn 3 [] J14 ?_
 refine Goes.ld 72 (.tmp 5) 15 72 ⟨ui, 0, none⟩ (.func (.func 46) #[] #[]) (p2.c 1 0) ?_
 refine Goes.rn 1 [(16, .i a1)] J15 ?_
 refine bind_some' h fun y7 e8 h => ?_
 refine Goes.cal (.call { callee := .value (.tmp 15), args := #[(.tmp 16)], argTypes := #[3] }) 17 4 46 _ (W.z2i a1 y7 e8  p2 ) ?_
 rintro _ w3 ⟨S3, rfl, z3, p3⟩
 refine Goes.rn 1 [] J13 ?_
 refine ite_some h (fun h9 h => ?_) (fun h9 h => ?_)
 ·
  rw [h9]
  refine Goes.rn 2 [] J16 ?_
  refine Goes.ld 22 (.tmp 7) 18 22 ⟨uj, 0, none⟩ (.slice (Gp u10) uz.length u12) (p3.c 2 0) ?_
  refine Goes.rn 1 [(19, .u a0)] J17 ?_
  have f11 : Els (kInt .u64) S3 w3 ([.u a0] : List Value) [a0] := by exact (Els.cons (K := (kInt .u64)) (vs := [.u a0]) (x := a0) rfl Els.nil)
  refine Op_.made (.buildSlice 22 1 #[(0, (.tmp 19))]) 20 22 (fun b => .slice (Gp (some b)) 1 1) 35 ([.u a0] : List Value) p3 Goes.v (by kernel_rfl) ?_
  intro b10 w4 z4 p4
  have p4 : Hp nz wz S3 w4 (((some b10), .row 35 ([.u a0] : List Value) (1 * (kInt .u64).size) 0) :: (some lk, .obj (lpst 58 (lfr 23 [(5, (pt ui 0)), (7, (pt uj 0)), (12, .func (.func 68) #[] #[(pt uk 0), (pt uo 0)])] jkk) #[13, 14] (rfAssign (Q10)) (rfBody (Q10)) rk .busy none)) :: (some ui, .row 72 [.func (.func 46) #[] #[]] 1 0) :: (some uj, .row 22 [.slice (Gp u10) uz.length u12] 1 0) :: (u10, .row 35 u13 (u12 * (kInt .u64).size) 0) :: (some uk, .row 22 [.slice ul ut.length un] 1 0) :: (some uo, .row 22 [.slice up uu.length ur] 1 0) :: Lr) := p4
  refine guard_some' h fun g16 h => ?_
  refine Op_.ap_n (K := (kInt .u64)) 22 (.tmp 18) (.tmp 20) 21 22 35 4 (.u 0) 8 uz.length u12 1 uz [a0] (uz ++ [a0]) (Gp (some b10)) 1 rfl rfl rfl p4 rfl (u14.ext ((z2.trans z3).trans z4)) Goes.v (by kernel_rfl) (by kernel_rfl) (by kernel_rfl) (by kernel_rfl) rfl (by decide) (f11.ext z4) (src_own p4 (q := 0) rfl) (by have := g16; omega) (by have := g16; omega) ?_
  intro w5 G17 c18 u1a z5 p5 f20
  refine Op_.st 22 (.tmp 7) (.tmp 21) 0 3 uj 0 (.slice (Gp G17) ((uz ++ [a0]).length) c18) [.slice (Gp G17) ((uz ++ [a0]).length) c18] p5 rfl Goes.s (by kernel_rfl) (by kernel_rfl) (by kernel_rfl) (by kernel_rfl) (Nat.zero_le _) (by simp only [List.length_cons, List.length_nil]; omega) (by simp [Value.oneCell']) ?_
  intro w6 z6 p6
  have p6 : Hp nz wz S3 w6 (((some b10), .row 35 ([.u a0] : List Value) (1 * (kInt .u64).size) 0) :: (some lk, .obj (lpst 58 (lfr 23 [(5, (pt ui 0)), (7, (pt uj 0)), (12, .func (.func 68) #[] #[(pt uk 0), (pt uo 0)])] jkk) #[13, 14] (rfAssign (Q10)) (rfBody (Q10)) rk .busy none)) :: (some ui, .row 72 [.func (.func 46) #[] #[]] 1 0) :: (some uj, .row 22 [.slice (Gp G17) ((uz ++ [a0]).length) c18] 1 0) :: (G17, .row 35 u1a (c18 * (kInt .u64).size) 0) :: (some uk, .row 22 [.slice ul ut.length un] 1 0) :: (some uo, .row 22 [.slice up uu.length ur] 1 0) :: Lr) := p6
  refine Goes.rn 2 [] [] ?_
  have p6 := p6.dp 0
  obtain rfl := Option.some.inj h
  refine Goes.endR 0 p6 rfl ?_
  intro w7 z7 p7
  exact ⟨S3, G17, (uz ++ [a0]).length, c18, u1a, rfl, (((((((Ext.refl S0 w0).trans z2).trans z3).trans z4).trans z5).trans z6).trans z7), p7, (f20.ext (z6.trans z7)), rfl⟩
 ·
  have h9' : y7 = false := by simpa using h9
  rw [h9']
  refine Goes.rn 3 [] [] ?_
  obtain rfl := Option.some.inj h
  refine Goes.endR 0 p3 rfl ?_
  intro w8 z8 p8
  exact ⟨S3, u10, uz.length, u12, u13, rfl, ((((Ext.refl S0 w0).trans z2).trans z3).trans z8), p8, (u14.ext ((z2.trans z3).trans z8)), rfl⟩

def Post.z2k (lx0 : Nat) (rx0 : Nat) (u1b : Nat → Value) (u1c : Nat) (u1d : Nat) (u1e : Nat) (u1f : Nat) (r : (List Int) × (List Int) × (List Int)) (v : Value) (w' : World) : Prop :=
 ∃ S' uv uw ux uy u1g u1h u1i u1j u1k u1l, v = .tuple #[] ∧ Ext S0 w0 S' w' ∧ Hp nz wz S' w' ((some lx0, .obj (lpst 58 (lfr 23 [(5, (pt u1c 0)), (7, (pt u1d 0)), (12, .func (.func 68) #[] #[(pt u1e 0), (pt u1f 0)])] u1b) #[13, 14] (rfAssign (Q10)) (rfBody (Q10)) rx0 .ready none)) :: (some u1c, .row 72 [.func (.func 46) #[] #[]] 1 0) :: (some u1d, .row 22 [.slice (Gp uv) uw ux] 1 0) :: (uv, .row 35 uy (ux * (kInt .u64).size) 0) :: (some u1e, .row 22 [.slice u1g u1h u1i] 1 0) :: (some u1f, .row 22 [.slice u1j u1k u1l] 1 0) :: Lr) ∧ Els (kInt .u64) S' w' uy r.1 ∧ r.1.length = uw ∧ Rd (kInt .u64) S' w' u1g u1i r.2.1 ∧ r.2.1.length = u1h ∧ Rd (kInt .u64) S' w' u1j u1l r.2.2 ∧ r.2.2.length = u1k

def L.z2l (lx0 : Nat) (rx0 : Nat) (u1b : Nat → Value) (u1c : Nat) (u1d : Nat) (u1e : Nat) (u1f : Nat) : (List Int) × (List Int) × (List Int) → ((List Int) × (List Int) × (List Int)) → Prop := fun ⟨u1m, u1n, u1o⟩ r => ∀ S1 w1, Ext S0 w0 S1 w1 → ∀ uv uw ux uy u1g u1h u1i u1j u1k u1l (_ : Hp nz wz S1 w1 ((some lx0, .obj (lpst 58 (lfr 23 [(5, (pt u1c 0)), (7, (pt u1d 0)), (12, .func (.func 68) #[] #[(pt u1e 0), (pt u1f 0)])] u1b) #[13, 14] (rfAssign (Q10)) (rfBody (Q10)) rx0 .ready none)) :: (some u1c, .row 72 [.func (.func 46) #[] #[]] 1 0) :: (some u1d, .row 22 [.slice (Gp uv) uw ux] 1 0) :: (uv, .row 35 uy (ux * (kInt .u64).size) 0) :: (some u1e, .row 22 [.slice u1g u1h u1i] 1 0) :: (some u1f, .row 22 [.slice u1j u1k u1l] 1 0) :: Lr)) (_ : Els (kInt .u64) S1 w1 uy u1m) (_ : u1m.length = uw) (_ : Rd (kInt .u64) S1 w1 u1g u1i u1n) (_ : u1n.length = u1h) (_ : Rd (kInt .u64) S1 w1 u1j u1l u1o) (_ : u1o.length = u1k) (junk : Nat → Value),
 Goes Try.prog (base 68) J1a ⟨lfr 73 [(0, yieldV lx0), (1, (pt u1e 0)), (2, (pt u1f 0))] junk, []⟩ w1 (Done Try.prog 68 (Rets (Post.z2k nz wz S0 w0 Lr lx0 rx0 u1b u1c u1d u1e u1f r)))

def L.z2m (lx0 : Nat) (rx0 : Nat) (u1b : Nat → Value) (u1c : Nat) (u1d : Nat) (u1e : Nat) (u1f : Nat) : Bool × (List Int) × (List Int) × (List Int) → ((List Int) × (List Int) × (List Int)) → Prop := fun ⟨x13, u1m, u1n, u1o⟩ r => ∀ S1 w1, Ext S0 w0 S1 w1 → ∀ uv uw ux uy u1g u1h u1i u1j u1k u1l (_ : Hp nz wz S1 w1 ((some lx0, .obj (lpst 58 (lfr 23 [(5, (pt u1c 0)), (7, (pt u1d 0)), (12, .func (.func 68) #[] #[(pt u1e 0), (pt u1f 0)])] u1b) #[13, 14] (rfAssign (Q10)) (rfBody (Q10)) rx0 .ready none)) :: (some u1c, .row 72 [.func (.func 46) #[] #[]] 1 0) :: (some u1d, .row 22 [.slice (Gp uv) uw ux] 1 0) :: (uv, .row 35 uy (ux * (kInt .u64).size) 0) :: (some u1e, .row 22 [.slice u1g u1h u1i] 1 0) :: (some u1f, .row 22 [.slice u1j u1k u1l] 1 0) :: Lr)) (_ : Els (kInt .u64) S1 w1 uy u1m) (_ : u1m.length = uw) (_ : Rd (kInt .u64) S1 w1 u1g u1i u1n) (_ : u1n.length = u1h) (_ : Rd (kInt .u64) S1 w1 u1j u1l u1o) (_ : u1o.length = u1k) (junk : Nat → Value),
 Goes Try.prog (base 68) J1c ⟨lfr 73 [(0, yieldV lx0), (1, (pt u1e 0)), (2, (pt u1f 0)), (13, .bool x13)] junk, []⟩ w1 (Done Try.prog 68 (Rets (Post.z2k nz wz S0 w0 Lr lx0 rx0 u1b u1c u1d u1e u1f r)))

def L.z2n (lx0 : Nat) (rx0 : Nat) (u1b : Nat → Value) (u1c : Nat) (u1d : Nat) (u1e : Nat) (u1f : Nat) : Int × Bool × (List Int) × (List Int) × (List Int) → ((List Int) × (List Int) × (List Int)) → Prop := fun ⟨x4, x30, u1m, u1n, u1o⟩ r => ∀ S1 w1, Ext S0 w0 S1 w1 → ∀ uv uw ux uy u1g u1h u1i u1j u1k u1l (_ : Hp nz wz S1 w1 ((some lx0, .obj (lpst 58 (lfr 23 [(5, (pt u1c 0)), (7, (pt u1d 0)), (12, .func (.func 68) #[] #[(pt u1e 0), (pt u1f 0)])] u1b) #[13, 14] (rfAssign (Q10)) (rfBody (Q10)) rx0 .ready none)) :: (some u1c, .row 72 [.func (.func 46) #[] #[]] 1 0) :: (some u1d, .row 22 [.slice (Gp uv) uw ux] 1 0) :: (uv, .row 35 uy (ux * (kInt .u64).size) 0) :: (some u1e, .row 22 [.slice u1g u1h u1i] 1 0) :: (some u1f, .row 22 [.slice u1j u1k u1l] 1 0) :: Lr)) (_ : Els (kInt .u64) S1 w1 uy u1m) (_ : u1m.length = uw) (_ : Rd (kInt .u64) S1 w1 u1g u1i u1n) (_ : u1n.length = u1h) (_ : Rd (kInt .u64) S1 w1 u1j u1l u1o) (_ : u1o.length = u1k) (junk : Nat → Value),
 Goes Try.prog (base 68) J1f ⟨lfr 73 [(0, yieldV lx0), (1, (pt u1e 0)), (2, (pt u1f 0)), (4, .i x4), (30, .bool x30)] junk, []⟩ w1 (Done Try.prog 68 (Rets (Post.z2k nz wz S0 w0 Lr lx0 rx0 u1b u1c u1d u1e u1f r)))

def L.z2o (lx0 : Nat) (rx0 : Nat) (u1b : Nat → Value) (u1c : Nat) (u1d : Nat) (u1e : Nat) (u1f : Nat) : Int × (List Int) × (List Int) × (List Int) → ((List Int) × (List Int) × (List Int)) → Prop := fun ⟨x4, u1m, u1n, u1o⟩ r => ∀ S1 w1, Ext S0 w0 S1 w1 → ∀ uv uw ux uy u1g u1h u1i u1j u1k u1l (_ : Hp nz wz S1 w1 ((some lx0, .obj (lpst 58 (lfr 23 [(5, (pt u1c 0)), (7, (pt u1d 0)), (12, .func (.func 68) #[] #[(pt u1e 0), (pt u1f 0)])] u1b) #[13, 14] (rfAssign (Q10)) (rfBody (Q10)) rx0 .ready none)) :: (some u1c, .row 72 [.func (.func 46) #[] #[]] 1 0) :: (some u1d, .row 22 [.slice (Gp uv) uw ux] 1 0) :: (uv, .row 35 uy (ux * (kInt .u64).size) 0) :: (some u1e, .row 22 [.slice u1g u1h u1i] 1 0) :: (some u1f, .row 22 [.slice u1j u1k u1l] 1 0) :: Lr)) (_ : Els (kInt .u64) S1 w1 uy u1m) (_ : u1m.length = uw) (_ : Rd (kInt .u64) S1 w1 u1g u1i u1n) (_ : u1n.length = u1h) (_ : Rd (kInt .u64) S1 w1 u1j u1l u1o) (_ : u1o.length = u1k) (junk : Nat → Value),
 Goes Try.prog (base 68) J1e ⟨lfr 73 [(0, yieldV lx0), (1, (pt u1e 0)), (2, (pt u1f 0)), (4, .i x4)] junk, []⟩ w1 (Done Try.prog 68 (Rets (Post.z2k nz wz S0 w0 Lr lx0 rx0 u1b u1c u1d u1e u1f r)))

def L.z2p (lx0 : Nat) (rx0 : Nat) (u1b : Nat → Value) (u1c : Nat) (u1d : Nat) (u1e : Nat) (u1f : Nat) : Int × Bool × (List Int) × (List Int) × (List Int) → ((List Int) × (List Int) × (List Int)) → Prop := fun ⟨x4, x49, u1m, u1n, u1o⟩ r => ∀ S1 w1, Ext S0 w0 S1 w1 → ∀ uv uw ux uy u1g u1h u1i u1j u1k u1l (_ : Hp nz wz S1 w1 ((some lx0, .obj (lpst 58 (lfr 23 [(5, (pt u1c 0)), (7, (pt u1d 0)), (12, .func (.func 68) #[] #[(pt u1e 0), (pt u1f 0)])] u1b) #[13, 14] (rfAssign (Q10)) (rfBody (Q10)) rx0 .ready none)) :: (some u1c, .row 72 [.func (.func 46) #[] #[]] 1 0) :: (some u1d, .row 22 [.slice (Gp uv) uw ux] 1 0) :: (uv, .row 35 uy (ux * (kInt .u64).size) 0) :: (some u1e, .row 22 [.slice u1g u1h u1i] 1 0) :: (some u1f, .row 22 [.slice u1j u1k u1l] 1 0) :: Lr)) (_ : Els (kInt .u64) S1 w1 uy u1m) (_ : u1m.length = uw) (_ : Rd (kInt .u64) S1 w1 u1g u1i u1n) (_ : u1n.length = u1h) (_ : Rd (kInt .u64) S1 w1 u1j u1l u1o) (_ : u1o.length = u1k) (junk : Nat → Value),
 Goes Try.prog (base 68) J1h ⟨lfr 73 [(0, yieldV lx0), (1, (pt u1e 0)), (2, (pt u1f 0)), (4, .i x4), (49, .bool x49)] junk, []⟩ w1 (Done Try.prog 68 (Rets (Post.z2k nz wz S0 w0 Lr lx0 rx0 u1b u1c u1d u1e u1f r)))

def L.z2q (lx0 : Nat) (rx0 : Nat) (u1b : Nat → Value) (u1c : Nat) (u1d : Nat) (u1e : Nat) (u1f : Nat) : Int × (List Int) × (List Int) × (List Int) → ((List Int) × (List Int) × (List Int)) → Prop := fun ⟨x4, u1m, u1n, u1o⟩ r => ∀ S1 w1, Ext S0 w0 S1 w1 → ∀ uv uw ux uy u1g u1h u1i u1j u1k u1l (_ : Hp nz wz S1 w1 ((some lx0, .obj (lpst 58 (lfr 23 [(5, (pt u1c 0)), (7, (pt u1d 0)), (12, .func (.func 68) #[] #[(pt u1e 0), (pt u1f 0)])] u1b) #[13, 14] (rfAssign (Q10)) (rfBody (Q10)) rx0 .ready none)) :: (some u1c, .row 72 [.func (.func 46) #[] #[]] 1 0) :: (some u1d, .row 22 [.slice (Gp uv) uw ux] 1 0) :: (uv, .row 35 uy (ux * (kInt .u64).size) 0) :: (some u1e, .row 22 [.slice u1g u1h u1i] 1 0) :: (some u1f, .row 22 [.slice u1j u1k u1l] 1 0) :: Lr)) (_ : Els (kInt .u64) S1 w1 uy u1m) (_ : u1m.length = uw) (_ : Rd (kInt .u64) S1 w1 u1g u1i u1n) (_ : u1n.length = u1h) (_ : Rd (kInt .u64) S1 w1 u1j u1l u1o) (_ : u1o.length = u1k) (junk : Nat → Value),
 Goes Try.prog (base 68) J1g ⟨lfr 73 [(0, yieldV lx0), (1, (pt u1e 0)), (2, (pt u1f 0)), (4, .i x4)] junk, []⟩ w1 (Done Try.prog 68 (Rets (Post.z2k nz wz S0 w0 Lr lx0 rx0 u1b u1c u1d u1e u1f r)))

def L.z2r (lx0 : Nat) (rx0 : Nat) (u1b : Nat → Value) (u1c : Nat) (u1d : Nat) (u1e : Nat) (u1f : Nat) : Int × Int × (List Int) × (List Int) × (List Int) → ((List Int) × (List Int) × (List Int)) → Prop := fun ⟨x4, x5, u1m, u1n, u1o⟩ r => ∀ S1 w1, Ext S0 w0 S1 w1 → ∀ uv uw ux uy u1g u1h u1i u1j u1k u1l (_ : Hp nz wz S1 w1 ((some lx0, .obj (lpst 58 (lfr 23 [(5, (pt u1c 0)), (7, (pt u1d 0)), (12, .func (.func 68) #[] #[(pt u1e 0), (pt u1f 0)])] u1b) #[13, 14] (rfAssign (Q10)) (rfBody (Q10)) rx0 .ready none)) :: (some u1c, .row 72 [.func (.func 46) #[] #[]] 1 0) :: (some u1d, .row 22 [.slice (Gp uv) uw ux] 1 0) :: (uv, .row 35 uy (ux * (kInt .u64).size) 0) :: (some u1e, .row 22 [.slice u1g u1h u1i] 1 0) :: (some u1f, .row 22 [.slice u1j u1k u1l] 1 0) :: Lr)) (_ : Els (kInt .u64) S1 w1 uy u1m) (_ : u1m.length = uw) (_ : Rd (kInt .u64) S1 w1 u1g u1i u1n) (_ : u1n.length = u1h) (_ : Rd (kInt .u64) S1 w1 u1j u1l u1o) (_ : u1o.length = u1k) (junk : Nat → Value),
 Goes Try.prog (base 68) J1i ⟨lfr 73 [(0, yieldV lx0), (1, (pt u1e 0)), (2, (pt u1f 0)), (4, .i x4), (5, .u x5)] junk, []⟩ w1 (Done Try.prog 68 (Rets (Post.z2k nz wz S0 w0 Lr lx0 rx0 u1b u1c u1d u1e u1f r)))

def L.z2s (lx0 : Nat) (rx0 : Nat) (u1b : Nat → Value) (u1c : Nat) (u1d : Nat) (u1e : Nat) (u1f : Nat) : Int × Int × (List Int) × (List Int) × (List Int) → ((List Int) × (List Int) × (List Int)) → Prop := fun ⟨x4, x5, u1m, u1n, u1o⟩ r => ∀ S1 w1, Ext S0 w0 S1 w1 → ∀ uv uw ux uy u1g u1h u1i u1j u1k u1l (_ : Hp nz wz S1 w1 ((some lx0, .obj (lpst 58 (lfr 23 [(5, (pt u1c 0)), (7, (pt u1d 0)), (12, .func (.func 68) #[] #[(pt u1e 0), (pt u1f 0)])] u1b) #[13, 14] (rfAssign (Q10)) (rfBody (Q10)) rx0 .ready none)) :: (some u1c, .row 72 [.func (.func 46) #[] #[]] 1 0) :: (some u1d, .row 22 [.slice (Gp uv) uw ux] 1 0) :: (uv, .row 35 uy (ux * (kInt .u64).size) 0) :: (some u1e, .row 22 [.slice u1g u1h u1i] 1 0) :: (some u1f, .row 22 [.slice u1j u1k u1l] 1 0) :: Lr)) (_ : Els (kInt .u64) S1 w1 uy u1m) (_ : u1m.length = uw) (_ : Rd (kInt .u64) S1 w1 u1g u1i u1n) (_ : u1n.length = u1h) (_ : Rd (kInt .u64) S1 w1 u1j u1l u1o) (_ : u1o.length = u1k) (junk : Nat → Value),
 Goes Try.prog (base 68) J1j ⟨lfr 73 [(0, yieldV lx0), (1, (pt u1e 0)), (2, (pt u1f 0)), (4, .i x4), (5, .u x5)] junk, []⟩ w1 (Done Try.prog 68 (Rets (Post.z2k nz wz S0 w0 Lr lx0 rx0 u1b u1c u1d u1e u1f r)))

theorem W.z2t {nz wz S0 w0 Lr} (lx0 : Nat) (rx0 : Nat) (u1b : Nat → Value) (u1c : Nat) (u1d : Nat) (u1e : Nat) (u1f : Nat) : (∀ a r, M.post_merge_uint64_1_3_l0 a = some r → (L.z2l nz wz S0 w0 Lr lx0 rx0 u1b u1c u1d u1e u1f) a r) ∧ (∀ a r, M.post_merge_uint64_1_3_l1 a = some r → (L.z2m nz wz S0 w0 Lr lx0 rx0 u1b u1c u1d u1e u1f) a r) ∧ (∀ a r, M.post_merge_uint64_1_3_l2 a = some r → (L.z2n nz wz S0 w0 Lr lx0 rx0 u1b u1c u1d u1e u1f) a r) ∧ (∀ a r, M.post_merge_uint64_1_3_l3 a = some r → (L.z2o nz wz S0 w0 Lr lx0 rx0 u1b u1c u1d u1e u1f) a r) ∧ (∀ a r, M.post_merge_uint64_1_3_l4 a = some r → (L.z2p nz wz S0 w0 Lr lx0 rx0 u1b u1c u1d u1e u1f) a r) ∧ (∀ a r, M.post_merge_uint64_1_3_l5 a = some r → (L.z2q nz wz S0 w0 Lr lx0 rx0 u1b u1c u1d u1e u1f) a r) ∧ (∀ a r, M.post_merge_uint64_1_3_l6 a = some r → (L.z2r nz wz S0 w0 Lr lx0 rx0 u1b u1c u1d u1e u1f) a r) ∧ (∀ a r, M.post_merge_uint64_1_3_l7 a = some r → (L.z2s nz wz S0 w0 Lr lx0 rx0 u1b u1c u1d u1e u1f) a r) := by
 refine M.post_merge_uint64_1_3_l0.mutual_partial_correctness (L.z2l nz wz S0 w0 Lr lx0 rx0 u1b u1c u1d u1e u1f) (L.z2m nz wz S0 w0 Lr lx0 rx0 u1b u1c u1d u1e u1f) (L.z2n nz wz S0 w0 Lr lx0 rx0 u1b u1c u1d u1e u1f) (L.z2o nz wz S0 w0 Lr lx0 rx0 u1b u1c u1d u1e u1f) (L.z2p nz wz S0 w0 Lr lx0 rx0 u1b u1c u1d u1e u1f) (L.z2q nz wz S0 w0 Lr lx0 rx0 u1b u1c u1d u1e u1f) (L.z2r nz wz S0 w0 Lr lx0 rx0 u1b u1c u1d u1e u1f) (L.z2s nz wz S0 w0 Lr lx0 rx0 u1b u1c u1d u1e u1f) ?_ ?_ ?_ ?_ ?_ ?_ ?_ ?_
 ·
  intro u9q u9r ⟨u1m, u1n, u1o⟩ r h S1 w1 hx uv uw ux uy u1g u1h u1i u1j u1k u1l p1 u1r u1s u1t u1u u1v u1w junk
  try dsimp only at h
  subst u1s
  subst u1u
  subst u1w
  refine Goes.rn 3 [] J1k ?_
  refine Goes.ld 22 (.tmp 1) 6 22 ⟨u1e, 0, none⟩ (.slice u1g u1n.length u1i) (p1.c 4 0) ?_
  refine Goes.rn 3 [(7, .i (u1n.length : Int)), (8, .bool (decide ((u1n.length : Int) > 0))), (9, .bool (decide ((u1n.length : Int) > 0)))] J1l ?_
  refine ite_some h (fun h8 h => ?_) (fun h8 h => ?_)
  ·
   rw [decide_eq_true h8]
   refine Goes.rn 5 [(10, undef), (11, undef), (12, undef), (13, .bool true)] J1c ?_
   exact Goes.jp 73 [(0, yieldV lx0), (1, (pt u1e 0)), (2, (pt u1f 0)), (13, .bool true)] (u9r _ _ h _ _ hx uv u1m.length ux uy u1g u1n.length u1i u1j u1o.length u1l p1 u1r rfl u1t rfl u1v rfl)
  ·
   rw [decide_eq_false h8]
   refine Goes.ld 22 (.tmp 2) 10 22 ⟨u1f, 0, none⟩ (.slice u1j u1o.length u1l) (p1.c 5 0) ?_
   refine Goes.rn 4 [(11, .i (u1o.length : Int)), (12, .bool (decide ((u1o.length : Int) > 0))), (13, .bool (decide ((u1o.length : Int) > 0)))] J1c ?_
   exact Goes.jp 73 [(0, yieldV lx0), (1, (pt u1e 0)), (2, (pt u1f 0)), (13, .bool (decide ((u1o.length : Int) > 0)))] (u9r _ _ h _ _ hx uv u1m.length ux uy u1g u1n.length u1i u1j u1o.length u1l p1 u1r rfl u1t rfl u1v rfl)
 ·
  intro u9s u9t ⟨x13, u1m, u1n, u1o⟩ r h S1 w1 hx uv uw ux uy u1g u1h u1i u1j u1k u1l p1 u1r u1s u1t u1u u1v u1w junk
  try dsimp only at h
  subst u1s
  subst u1u
  subst u1w
  refine ite_some h (fun h10 h => ?_) (fun h10 h => ?_)
  ·
   rw [h10]
   refine Goes.rn 9 [(4, .i 0)] J1m ?_
   have z2 : Ext S1 w1 S1 (w1).drew := Ext.draw
   have p2 := p1.draw
   refine Goes.drawn (s := []) (F := Fc S1 (w1).drew [(⟨u1f, 0, none⟩, .slice u1j u1o.length u1l), (⟨u1e, 0, none⟩, .slice u1g u1n.length u1i)]) 2 17 (by kernel_rfl) (by kernel_rfl) (by kernel_rfl) (by kernel_rfl) ?_
   generalize (w1).drew = w2 at z2 p2 ⊢
   refine AnyG.ld1 (i := 0) 22 (.tmp 2) 14 22 ⟨u1f, 0, none⟩ (.slice u1j u1o.length u1l) (by kernel_rfl) (by kernel_rfl) (Fc.here (p2.cs [(5, 0, 1), (4, 0, 1)])) (by kernel_rfl) (by kernel_rfl) (fun _ h => h.2.at_ 0 rfl) ?_
   refine AnyG.pu 1 (.call { callee := .builtin .len, args := #[(.tmp 14)], argTypes := #[22] }) 15 3 (.i (u1o.length : Int)) (Fc.here (p2.cs [(5, 0, 1), (4, 0, 1)])) ?_
   refine AnyG.pu 2 (.binOp .eql 3 (.tmp 15) (.const (.int .i64 0)) 3) 16 4 (.bool (decide ((u1o.length : Int) = 0))) (Fc.here (p2.cs [(5, 0, 1), (4, 0, 1)])) ?_
   refine AnyG.pu 3 (.move (.tmp 16)) 17 4 (.bool (decide ((u1o.length : Int) = 0))) (Fc.here (p2.cs [(5, 0, 1), (4, 0, 1)])) ?_
   refine ite_some h (fun h11 h => ?_) (fun h11 h => ?_)
   ·
    rw [decide_eq_true h11]
    refine AnyG.s1 4 18 (Fc.here (p2.cs [(5, 0, 1), (4, 0, 1)])) ?_
    refine AnyG.s1 5 19 (Fc.here (p2.cs [(5, 0, 1), (4, 0, 1)])) ?_
    refine AnyG.s1 6 20 (Fc.here (p2.cs [(5, 0, 1), (4, 0, 1)])) ?_
    refine AnyG.s1 7 21 (Fc.here (p2.cs [(5, 0, 1), (4, 0, 1)])) ?_
    refine AnyG.s1 8 22 (Fc.here (p2.cs [(5, 0, 1), (4, 0, 1)])) ?_
    refine AnyG.s1 9 23 (Fc.here (p2.cs [(5, 0, 1), (4, 0, 1)])) ?_
    refine AnyG.s1 10 24 (Fc.here (p2.cs [(5, 0, 1), (4, 0, 1)])) ?_
    refine AnyG.s1 11 25 (Fc.here (p2.cs [(5, 0, 1), (4, 0, 1)])) ?_
    refine AnyG.s1 12 26 (Fc.here (p2.cs [(5, 0, 1), (4, 0, 1)])) ?_
    refine AnyG.s1 13 27 (Fc.here (p2.cs [(5, 0, 1), (4, 0, 1)])) ?_
    refine AnyG.s1 14 28 (Fc.here (p2.cs [(5, 0, 1), (4, 0, 1)])) ?_
    refine AnyG.s1 15 29 (Fc.here (p2.cs [(5, 0, 1), (4, 0, 1)])) ?_
    refine AnyG.pu 16 (.pick (.tmp 17) (.const (.bool true)) (.tmp 29)) 30 4 (.bool true) (Fc.here (p2.cs [(5, 0, 1), (4, 0, 1)])) ?_
    refine AnyG.done (by kernel_rfl) ?_ _
    exact Goes.jp 73 [(0, yieldV lx0), (1, (pt u1e 0)), (2, (pt u1f 0)), (4, .i 0), (30, .bool true)] (u9t _ _ h _ _ (hx.trans z2) uv u1m.length ux uy u1g u1n.length u1i u1j u1o.length u1l p2 (u1r.ext z2) rfl (u1t.ext z2) rfl (u1v.ext z2) rfl)
   ·
    rw [decide_eq_false h11]
    refine AnyG.ld1 (i := 4) 22 (.tmp 1) 18 22 ⟨u1e, 0, none⟩ (.slice u1g u1n.length u1i) (by kernel_rfl) (by kernel_rfl) (Fc.here (p2.cs [(5, 0, 1), (4, 0, 1)])) (by kernel_rfl) (by kernel_rfl) (fun _ h => h.2.at_ 1 rfl) ?_
    refine AnyG.pu 5 (.call { callee := .builtin .len, args := #[(.tmp 18)], argTypes := #[22] }) 19 3 (.i (u1n.length : Int)) (Fc.here (p2.cs [(5, 0, 1), (4, 0, 1)])) ?_
    refine AnyG.pu 6 (.binOp .gtr 3 (.tmp 19) (.const (.int .i64 0)) 3) 20 4 (.bool (decide ((u1n.length : Int) > 0))) (Fc.here (p2.cs [(5, 0, 1), (4, 0, 1)])) ?_
    refine AnyG.pu 7 (.move (.tmp 20)) 21 4 (.bool (decide ((u1n.length : Int) > 0))) (Fc.here (p2.cs [(5, 0, 1), (4, 0, 1)])) ?_
    refine ite_some h (fun h13 h => ?_) (fun h13 h => ?_)
    ·
     rw [decide_eq_true h13]
     refine AnyG.ld1 (i := 8) 22 (.tmp 1) 22 22 ⟨u1e, 0, none⟩ (.slice u1g u1n.length u1i) (by kernel_rfl) (by kernel_rfl) (Fc.here (p2.cs [(5, 0, 1), (4, 0, 1)])) (by kernel_rfl) (by kernel_rfl) (fun _ h => h.2.at_ 1 rfl) ?_
     refine guard_some' h fun g14 h => ?_
     refine AnyG.ixR_n (i := 9) 22 (.tmp 22) (.const (.int .i64 0)) 23 0 35 .i64 0 (gi u1n 0) rfl rfl (u1t.ext z2) (by kernel_rfl) (by kernel_rfl) (Fc.here (p2.cs [(5, 0, 1), (4, 0, 1)])) (by kernel_rfl) (by kernel_rfl) (by kernel_rfl) (by kernel_rfl) (by decide : (0 : Int) ≤ 0) g14 ?_
     intro a15 _ f16 q17
     obtain rfl := q17
     refine AnyG.ld1 (i := 10) 35 (.tmp 23) 24 35 a15 (.u (gi u1n 0)) (by kernel_rfl) (by kernel_rfl) (Fc.here (p2.cs [(5, 0, 1), (4, 0, 1)])) (by kernel_rfl) (by kernel_rfl) (fun _ h => f16.fc h 0 _ rfl) ?_
     refine AnyG.ld1 (i := 11) 22 (.tmp 2) 25 22 ⟨u1f, 0, none⟩ (.slice u1j u1o.length u1l) (by kernel_rfl) (by kernel_rfl) (Fc.here (p2.cs [(5, 0, 1), (4, 0, 1)])) (by kernel_rfl) (by kernel_rfl) (fun _ h => h.2.at_ 0 rfl) ?_
     refine guard_some' h fun g18 h => ?_
     refine AnyG.ixR_n (i := 12) 22 (.tmp 25) (.const (.int .i64 0)) 26 0 35 .i64 0 (gi u1o 0) rfl rfl (u1v.ext z2) (by kernel_rfl) (by kernel_rfl) (Fc.here (p2.cs [(5, 0, 1), (4, 0, 1)])) (by kernel_rfl) (by kernel_rfl) (by kernel_rfl) (by kernel_rfl) (by decide : (0 : Int) ≤ 0) g18 ?_
     intro a19 _ f20 q21
     obtain rfl := q21
     refine AnyG.ld1 (i := 13) 35 (.tmp 26) 27 35 a19 (.u (gi u1o 0)) (by kernel_rfl) (by kernel_rfl) (Fc.here (p2.cs [(5, 0, 1), (4, 0, 1)])) (by kernel_rfl) (by kernel_rfl) (fun _ h => f20.fc h 0 _ rfl) ?_
     refine AnyG.pu 14 (.binOp .leq 35 (.tmp 24) (.tmp 27) 35) 28 4 (.bool (decide (gi u1n 0 ≤ gi u1o 0))) (Fc.here (p2.cs [(5, 0, 1), (4, 0, 1)])) ?_
     refine AnyG.pu 15 (.pick (.tmp 21) (.tmp 28) (.const (.bool false))) 29 4 (.bool (decide (gi u1n 0 ≤ gi u1o 0))) (Fc.here (p2.cs [(5, 0, 1), (4, 0, 1)])) ?_
     refine AnyG.pu 16 (.pick (.tmp 17) (.const (.bool true)) (.tmp 29)) 30 4 (.bool (decide (gi u1n 0 ≤ gi u1o 0))) (Fc.here (p2.cs [(5, 0, 1), (4, 0, 1)])) ?_
     refine AnyG.done (by kernel_rfl) ?_ _
     exact Goes.jp 73 [(0, yieldV lx0), (1, (pt u1e 0)), (2, (pt u1f 0)), (4, .i 0), (30, .bool (decide (gi u1n 0 ≤ gi u1o 0)))] (u9t _ _ h _ _ (hx.trans z2) uv u1m.length ux uy u1g u1n.length u1i u1j u1o.length u1l p2 (u1r.ext z2) rfl (u1t.ext z2) rfl (u1v.ext z2) rfl)
    ·
     rw [decide_eq_false h13]
     refine AnyG.s1 8 22 (Fc.here (p2.cs [(5, 0, 1), (4, 0, 1)])) ?_
     refine AnyG.s1 9 23 (Fc.here (p2.cs [(5, 0, 1), (4, 0, 1)])) ?_
     refine AnyG.s1 10 24 (Fc.here (p2.cs [(5, 0, 1), (4, 0, 1)])) ?_
     refine AnyG.s1 11 25 (Fc.here (p2.cs [(5, 0, 1), (4, 0, 1)])) ?_
     refine AnyG.s1 12 26 (Fc.here (p2.cs [(5, 0, 1), (4, 0, 1)])) ?_
     refine AnyG.s1 13 27 (Fc.here (p2.cs [(5, 0, 1), (4, 0, 1)])) ?_
     refine AnyG.s1 14 28 (Fc.here (p2.cs [(5, 0, 1), (4, 0, 1)])) ?_
     refine AnyG.pu 15 (.pick (.tmp 21) (.tmp 28) (.const (.bool false))) 29 4 (.bool false) (Fc.here (p2.cs [(5, 0, 1), (4, 0, 1)])) ?_
     refine AnyG.pu 16 (.pick (.tmp 17) (.const (.bool true)) (.tmp 29)) 30 4 (.bool false) (Fc.here (p2.cs [(5, 0, 1), (4, 0, 1)])) ?_
     refine AnyG.done (by kernel_rfl) ?_ _
     exact Goes.jp 73 [(0, yieldV lx0), (1, (pt u1e 0)), (2, (pt u1f 0)), (4, .i 0), (30, .bool false)] (u9t _ _ h _ _ (hx.trans z2) uv u1m.length ux uy u1g u1n.length u1i u1j u1o.length u1l p2 (u1r.ext z2) rfl (u1t.ext z2) rfl (u1v.ext z2) rfl)
  ·
   have u1z : x13 = false := by simpa using h10
   rw [u1z]
   refine Goes.rn 2 [] [] ?_
   obtain rfl := Option.some.inj h
   exact Goes.end_ (fn := Try.f68) (by kernel_rfl) (v := .tuple #[]) (by kernel_rfl) ⟨S1, uv, u1m.length, ux, uy, u1g, u1n.length, u1i, u1j, u1o.length, u1l, rfl, hx, p1, u1r, rfl, u1t, rfl, u1v, rfl⟩
 ·
  intro u9u u9v ⟨x4, x30, u1m, u1n, u1o⟩ r h S1 w1 hx uv uw ux uy u1g u1h u1i u1j u1k u1l p1 u1r u1s u1t u1u u1v u1w junk
  try dsimp only at h
  subst u1s
  subst u1u
  subst u1w
  refine ite_some h (fun h22 h => ?_) (fun h22 h => ?_)
  ·
   rw [h22]
   refine Goes.rn 6 [(31, .i x4), (32, .i (ior .i64 x4 1)), (4, .i (ior .i64 x4 1))] J1e ?_
   exact Goes.jp 73 [(0, yieldV lx0), (1, (pt u1e 0)), (2, (pt u1f 0)), (4, .i (ior .i64 x4 1))] (u9v _ _ h _ _ hx uv u1m.length ux uy u1g u1n.length u1i u1j u1o.length u1l p1 u1r rfl u1t rfl u1v rfl)
  ·
   have u22 : x30 = false := by simpa using h22
   rw [u22]
   refine Goes.rn 2 [] J1e ?_
   exact Goes.jp 73 [(0, yieldV lx0), (1, (pt u1e 0)), (2, (pt u1f 0)), (4, .i x4)] (u9v _ _ h _ _ hx uv u1m.length ux uy u1g u1n.length u1i u1j u1o.length u1l p1 u1r rfl u1t rfl u1v rfl)
 ·
  intro u9w u9x ⟨x4, u1m, u1n, u1o⟩ r h S1 w1 hx uv uw ux uy u1g u1h u1i u1j u1k u1l p1 u1r u1s u1t u1u u1v u1w junk
  try dsimp only at h
  subst u1s
  subst u1u
  subst u1w
  refine Goes.rn 2 [] J1n ?_
  have z3 : Ext S1 w1 S1 (w1).drew := Ext.draw
  have p3 := p1.draw
  refine Goes.drawn (s := []) (F := Fc S1 (w1).drew [(⟨u1e, 0, none⟩, .slice u1g u1n.length u1i), (⟨u1f, 0, none⟩, .slice u1j u1o.length u1l)]) 4 17 (by kernel_rfl) (by kernel_rfl) (by kernel_rfl) (by kernel_rfl) ?_
  generalize (w1).drew = w3 at z3 p3 ⊢
  refine AnyG.ld1 (i := 0) 22 (.tmp 1) 33 22 ⟨u1e, 0, none⟩ (.slice u1g u1n.length u1i) (by kernel_rfl) (by kernel_rfl) (Fc.here (p3.cs [(4, 0, 1), (5, 0, 1)])) (by kernel_rfl) (by kernel_rfl) (fun _ h => h.2.at_ 0 rfl) ?_
  refine AnyG.pu 1 (.call { callee := .builtin .len, args := #[(.tmp 33)], argTypes := #[22] }) 34 3 (.i (u1n.length : Int)) (Fc.here (p3.cs [(4, 0, 1), (5, 0, 1)])) ?_
  refine AnyG.pu 2 (.binOp .eql 3 (.tmp 34) (.const (.int .i64 0)) 3) 35 4 (.bool (decide ((u1n.length : Int) = 0))) (Fc.here (p3.cs [(4, 0, 1), (5, 0, 1)])) ?_
  refine AnyG.pu 3 (.move (.tmp 35)) 36 4 (.bool (decide ((u1n.length : Int) = 0))) (Fc.here (p3.cs [(4, 0, 1), (5, 0, 1)])) ?_
  refine ite_some h (fun h24 h => ?_) (fun h24 h => ?_)
  ·
   rw [decide_eq_true h24]
   refine AnyG.s1 4 37 (Fc.here (p3.cs [(4, 0, 1), (5, 0, 1)])) ?_
   refine AnyG.s1 5 38 (Fc.here (p3.cs [(4, 0, 1), (5, 0, 1)])) ?_
   refine AnyG.s1 6 39 (Fc.here (p3.cs [(4, 0, 1), (5, 0, 1)])) ?_
   refine AnyG.s1 7 40 (Fc.here (p3.cs [(4, 0, 1), (5, 0, 1)])) ?_
   refine AnyG.s1 8 41 (Fc.here (p3.cs [(4, 0, 1), (5, 0, 1)])) ?_
   refine AnyG.s1 9 42 (Fc.here (p3.cs [(4, 0, 1), (5, 0, 1)])) ?_
   refine AnyG.s1 10 43 (Fc.here (p3.cs [(4, 0, 1), (5, 0, 1)])) ?_
   refine AnyG.s1 11 44 (Fc.here (p3.cs [(4, 0, 1), (5, 0, 1)])) ?_
   refine AnyG.s1 12 45 (Fc.here (p3.cs [(4, 0, 1), (5, 0, 1)])) ?_
   refine AnyG.s1 13 46 (Fc.here (p3.cs [(4, 0, 1), (5, 0, 1)])) ?_
   refine AnyG.s1 14 47 (Fc.here (p3.cs [(4, 0, 1), (5, 0, 1)])) ?_
   refine AnyG.s1 15 48 (Fc.here (p3.cs [(4, 0, 1), (5, 0, 1)])) ?_
   refine AnyG.pu 16 (.pick (.tmp 36) (.const (.bool true)) (.tmp 48)) 49 4 (.bool true) (Fc.here (p3.cs [(4, 0, 1), (5, 0, 1)])) ?_
   refine AnyG.done (by kernel_rfl) ?_ _
   exact Goes.jp 73 [(0, yieldV lx0), (1, (pt u1e 0)), (2, (pt u1f 0)), (4, .i x4), (49, .bool true)] (u9x _ _ h _ _ (hx.trans z3) uv u1m.length ux uy u1g u1n.length u1i u1j u1o.length u1l p3 (u1r.ext z3) rfl (u1t.ext z3) rfl (u1v.ext z3) rfl)
  ·
   rw [decide_eq_false h24]
   refine AnyG.ld1 (i := 4) 22 (.tmp 2) 37 22 ⟨u1f, 0, none⟩ (.slice u1j u1o.length u1l) (by kernel_rfl) (by kernel_rfl) (Fc.here (p3.cs [(4, 0, 1), (5, 0, 1)])) (by kernel_rfl) (by kernel_rfl) (fun _ h => h.2.at_ 1 rfl) ?_
   refine AnyG.pu 5 (.call { callee := .builtin .len, args := #[(.tmp 37)], argTypes := #[22] }) 38 3 (.i (u1o.length : Int)) (Fc.here (p3.cs [(4, 0, 1), (5, 0, 1)])) ?_
   refine AnyG.pu 6 (.binOp .gtr 3 (.tmp 38) (.const (.int .i64 0)) 3) 39 4 (.bool (decide ((u1o.length : Int) > 0))) (Fc.here (p3.cs [(4, 0, 1), (5, 0, 1)])) ?_
   refine AnyG.pu 7 (.move (.tmp 39)) 40 4 (.bool (decide ((u1o.length : Int) > 0))) (Fc.here (p3.cs [(4, 0, 1), (5, 0, 1)])) ?_
   refine ite_some h (fun h26 h => ?_) (fun h26 h => ?_)
   ·
    rw [decide_eq_true h26]
    refine AnyG.ld1 (i := 8) 22 (.tmp 2) 41 22 ⟨u1f, 0, none⟩ (.slice u1j u1o.length u1l) (by kernel_rfl) (by kernel_rfl) (Fc.here (p3.cs [(4, 0, 1), (5, 0, 1)])) (by kernel_rfl) (by kernel_rfl) (fun _ h => h.2.at_ 1 rfl) ?_
    refine guard_some' h fun g27 h => ?_
    refine AnyG.ixR_n (i := 9) 22 (.tmp 41) (.const (.int .i64 0)) 42 0 35 .i64 0 (gi u1o 0) rfl rfl (u1v.ext z3) (by kernel_rfl) (by kernel_rfl) (Fc.here (p3.cs [(4, 0, 1), (5, 0, 1)])) (by kernel_rfl) (by kernel_rfl) (by kernel_rfl) (by kernel_rfl) (by decide : (0 : Int) ≤ 0) g27 ?_
    intro a28 _ f29 q30
    obtain rfl := q30
    refine AnyG.ld1 (i := 10) 35 (.tmp 42) 43 35 a28 (.u (gi u1o 0)) (by kernel_rfl) (by kernel_rfl) (Fc.here (p3.cs [(4, 0, 1), (5, 0, 1)])) (by kernel_rfl) (by kernel_rfl) (fun _ h => f29.fc h 0 _ rfl) ?_
    refine AnyG.ld1 (i := 11) 22 (.tmp 1) 44 22 ⟨u1e, 0, none⟩ (.slice u1g u1n.length u1i) (by kernel_rfl) (by kernel_rfl) (Fc.here (p3.cs [(4, 0, 1), (5, 0, 1)])) (by kernel_rfl) (by kernel_rfl) (fun _ h => h.2.at_ 0 rfl) ?_
    refine guard_some' h fun g31 h => ?_
    refine AnyG.ixR_n (i := 12) 22 (.tmp 44) (.const (.int .i64 0)) 45 0 35 .i64 0 (gi u1n 0) rfl rfl (u1t.ext z3) (by kernel_rfl) (by kernel_rfl) (Fc.here (p3.cs [(4, 0, 1), (5, 0, 1)])) (by kernel_rfl) (by kernel_rfl) (by kernel_rfl) (by kernel_rfl) (by decide : (0 : Int) ≤ 0) g31 ?_
    intro a32 _ f33 q34
    obtain rfl := q34
    refine AnyG.ld1 (i := 13) 35 (.tmp 45) 46 35 a32 (.u (gi u1n 0)) (by kernel_rfl) (by kernel_rfl) (Fc.here (p3.cs [(4, 0, 1), (5, 0, 1)])) (by kernel_rfl) (by kernel_rfl) (fun _ h => f33.fc h 0 _ rfl) ?_
    refine AnyG.pu 14 (.binOp .leq 35 (.tmp 43) (.tmp 46) 35) 47 4 (.bool (decide (gi u1o 0 ≤ gi u1n 0))) (Fc.here (p3.cs [(4, 0, 1), (5, 0, 1)])) ?_
    refine AnyG.pu 15 (.pick (.tmp 40) (.tmp 47) (.const (.bool false))) 48 4 (.bool (decide (gi u1o 0 ≤ gi u1n 0))) (Fc.here (p3.cs [(4, 0, 1), (5, 0, 1)])) ?_
    refine AnyG.pu 16 (.pick (.tmp 36) (.const (.bool true)) (.tmp 48)) 49 4 (.bool (decide (gi u1o 0 ≤ gi u1n 0))) (Fc.here (p3.cs [(4, 0, 1), (5, 0, 1)])) ?_
    refine AnyG.done (by kernel_rfl) ?_ _
    exact Goes.jp 73 [(0, yieldV lx0), (1, (pt u1e 0)), (2, (pt u1f 0)), (4, .i x4), (49, .bool (decide (gi u1o 0 ≤ gi u1n 0)))] (u9x _ _ h _ _ (hx.trans z3) uv u1m.length ux uy u1g u1n.length u1i u1j u1o.length u1l p3 (u1r.ext z3) rfl (u1t.ext z3) rfl (u1v.ext z3) rfl)
   ·
    rw [decide_eq_false h26]
    refine AnyG.s1 8 41 (Fc.here (p3.cs [(4, 0, 1), (5, 0, 1)])) ?_
    refine AnyG.s1 9 42 (Fc.here (p3.cs [(4, 0, 1), (5, 0, 1)])) ?_
    refine AnyG.s1 10 43 (Fc.here (p3.cs [(4, 0, 1), (5, 0, 1)])) ?_
    refine AnyG.s1 11 44 (Fc.here (p3.cs [(4, 0, 1), (5, 0, 1)])) ?_
    refine AnyG.s1 12 45 (Fc.here (p3.cs [(4, 0, 1), (5, 0, 1)])) ?_
    refine AnyG.s1 13 46 (Fc.here (p3.cs [(4, 0, 1), (5, 0, 1)])) ?_
    refine AnyG.s1 14 47 (Fc.here (p3.cs [(4, 0, 1), (5, 0, 1)])) ?_
    refine AnyG.pu 15 (.pick (.tmp 40) (.tmp 47) (.const (.bool false))) 48 4 (.bool false) (Fc.here (p3.cs [(4, 0, 1), (5, 0, 1)])) ?_
    refine AnyG.pu 16 (.pick (.tmp 36) (.const (.bool true)) (.tmp 48)) 49 4 (.bool false) (Fc.here (p3.cs [(4, 0, 1), (5, 0, 1)])) ?_
    refine AnyG.done (by kernel_rfl) ?_ _
    exact Goes.jp 73 [(0, yieldV lx0), (1, (pt u1e 0)), (2, (pt u1f 0)), (4, .i x4), (49, .bool false)] (u9x _ _ h _ _ (hx.trans z3) uv u1m.length ux uy u1g u1n.length u1i u1j u1o.length u1l p3 (u1r.ext z3) rfl (u1t.ext z3) rfl (u1v.ext z3) rfl)
 ·
  intro u9y u9z ⟨x4, x49, u1m, u1n, u1o⟩ r h S1 w1 hx uv uw ux uy u1g u1h u1i u1j u1k u1l p1 u1r u1s u1t u1u u1v u1w junk
  try dsimp only at h
  subst u1s
  subst u1u
  subst u1w
  refine ite_some h (fun h35 h => ?_) (fun h35 h => ?_)
  ·
   rw [h35]
   refine Goes.rn 6 [(50, .i x4), (51, .i (ior .i64 x4 2)), (4, .i (ior .i64 x4 2))] J1g ?_
   exact Goes.jp 73 [(0, yieldV lx0), (1, (pt u1e 0)), (2, (pt u1f 0)), (4, .i (ior .i64 x4 2))] (u9z _ _ h _ _ hx uv u1m.length ux uy u1g u1n.length u1i u1j u1o.length u1l p1 u1r rfl u1t rfl u1v rfl)
  ·
   have u27 : x49 = false := by simpa using h35
   rw [u27]
   refine Goes.rn 2 [] J1g ?_
   exact Goes.jp 73 [(0, yieldV lx0), (1, (pt u1e 0)), (2, (pt u1f 0)), (4, .i x4)] (u9z _ _ h _ _ hx uv u1m.length ux uy u1g u1n.length u1i u1j u1o.length u1l p1 u1r rfl u1t rfl u1v rfl)
 ·
  intro ua0 ua1 ⟨x4, u1m, u1n, u1o⟩ r h S1 w1 hx uv uw ux uy u1g u1h u1i u1j u1k u1l p1 u1r u1s u1t u1u u1v u1w junk
  try dsimp only at h
  subst u1s
  subst u1u
  subst u1w
  refine Goes.rn 11 [(5, .u 0), (52, .i x4), (53, .i (iand .i64 x4 2)), (54, .bool (!(decide (iand .i64 x4 2 = 0))))] J1o ?_
  refine ite_some h (fun h37 h => ?_) (fun h37 h => ?_)
  ·
   rw [decide_eq_true h37]
   refine Goes.rn 2 [] J1i ?_
   exact Goes.jp 73 [(0, yieldV lx0), (1, (pt u1e 0)), (2, (pt u1f 0)), (4, .i x4), (5, .u 0)] (ua1 _ _ h _ _ hx uv u1m.length ux uy u1g u1n.length u1i u1j u1o.length u1l p1 u1r rfl u1t rfl u1v rfl)
  ·
   rw [decide_eq_false h37]
   refine Goes.rn 1 [] J1p ?_
   have z4 : Ext S1 w1 S1 (w1).drew := Ext.draw
   have p4 := p1.draw
   refine Goes.drawn (s := [6]) (F := Fc S1 (w1).drew [(⟨u1f, 0, none⟩, .slice u1j u1o.length u1l)]) 8 7 (by kernel_rfl) (by kernel_rfl) (by kernel_rfl) (by kernel_rfl) ?_
   generalize (w1).drew = w4 at z4 p4 ⊢
   refine AnyG.ld1 (i := 0) 22 (.tmp 2) 55 22 ⟨u1f, 0, none⟩ (.slice u1j u1o.length u1l) (by kernel_rfl) (by kernel_rfl) (Fc.here (p4.cs [(5, 0, 1)])) (by kernel_rfl) (by kernel_rfl) (fun _ h => h.2.at_ 0 rfl) ?_
   refine guard_some' h fun g39 h => ?_
   refine AnyG.ixR_n (i := 1) 22 (.tmp 55) (.const (.int .i64 0)) 56 0 35 .i64 0 (gi u1o 0) rfl rfl (u1v.ext z4) (by kernel_rfl) (by kernel_rfl) (Fc.here (p4.cs [(5, 0, 1)])) (by kernel_rfl) (by kernel_rfl) (by kernel_rfl) (by kernel_rfl) (by decide : (0 : Int) ≤ 0) g39 ?_
   intro a40 _ f41 q42
   obtain rfl := q42
   refine AnyG.ld1 (i := 2) 35 (.tmp 56) 57 35 a40 (.u (gi u1o 0)) (by kernel_rfl) (by kernel_rfl) (Fc.here (p4.cs [(5, 0, 1)])) (by kernel_rfl) (by kernel_rfl) (fun _ h => f41.fc h 0 _ rfl) ?_
   refine AnyG.ld1 (i := 3) 22 (.tmp 2) 58 22 ⟨u1f, 0, none⟩ (.slice u1j u1o.length u1l) (by kernel_rfl) (by kernel_rfl) (Fc.here (p4.cs [(5, 0, 1)])) (by kernel_rfl) (by kernel_rfl) (fun _ h => h.2.at_ 0 rfl) ?_
   refine guard_some' h fun g43 h => ?_
   refine AnyG.slR_n (i := 4) 22 (.tmp 58) (some (.const (.int .i64 1))) none 59 22 35 1 (u1o.length : Int) (sl u1o 1 (u1o.length : Int)) rfl rfl (u1v.ext z4) (by kernel_rfl) (by kernel_rfl) (Fc.here (p4.cs [(5, 0, 1)])) (by kernel_rfl) (by kernel_rfl) (by kernel_rfl) (Bnd.at_ .i64 (by kernel_rfl)) Bnd.no (by decide : (0 : Int) ≤ 1) g43 (Int.le_refl _) ?_
   intro A44 c45 f46
   refine AnyG.pu 5 (.assign (.tmp 57)) 5 35 (.u (gi u1o 0)) (Fc.here (p4.cs [(5, 0, 1)])) ?_
   refine Op_.st 22 (.tmp 2) (.tmp 59) 0 5 u1f 0 (.slice A44 ((sl u1o 1 (u1o.length : Int)).length) c45) [.slice A44 ((sl u1o 1 (u1o.length : Int)).length) c45] p4 rfl (AnyG.ss (i := 6) (by kernel_rfl) (by kernel_rfl)) (by kernel_rfl) (by kernel_rfl) (by kernel_rfl) (by kernel_rfl) (Nat.zero_le _) (by simp only [List.length_cons, List.length_nil]; omega) (by simp [Value.oneCell']) ?_
   intro w5 z5 p5
   have p5 : Hp nz wz S1 w5 ((some lx0, .obj (lpst 58 (lfr 23 [(5, (pt u1c 0)), (7, (pt u1d 0)), (12, .func (.func 68) #[] #[(pt u1e 0), (pt u1f 0)])] u1b) #[13, 14] (rfAssign (Q10)) (rfBody (Q10)) rx0 .ready none)) :: (some u1c, .row 72 [.func (.func 46) #[] #[]] 1 0) :: (some u1d, .row 22 [.slice (Gp uv) u1m.length ux] 1 0) :: (uv, .row 35 uy (ux * (kInt .u64).size) 0) :: (some u1e, .row 22 [.slice u1g u1n.length u1i] 1 0) :: (some u1f, .row 22 [.slice A44 ((sl u1o 1 (u1o.length : Int)).length) c45] 1 0) :: Lr) := p5
   refine AnyG.last [] (Fc S1 w5 []) (by decide) ?_
   refine AnyG.done (by kernel_rfl) ?_ _
   exact Goes.jp 73 [(0, yieldV lx0), (1, (pt u1e 0)), (2, (pt u1f 0)), (4, .i x4), (5, .u (gi u1o 0))] (ua1 _ _ h _ _ ((hx.trans z4).trans z5) uv u1m.length ux uy u1g u1n.length u1i A44 ((sl u1o 1 (u1o.length : Int)).length) c45 p5 (u1r.ext (z4.trans z5)) rfl (u1t.ext (z4.trans z5)) rfl (f46.ext z5) rfl)
 ·
  intro ua2 ua3 ⟨x4, x5, u1m, u1n, u1o⟩ r h S1 w1 hx uv uw ux uy u1g u1h u1i u1j u1k u1l p1 u1r u1s u1t u1u u1v u1w junk
  try dsimp only at h
  subst u1s
  subst u1u
  subst u1w
  refine Goes.rn 7 [(60, .i x4), (61, .i (iand .i64 x4 1)), (62, .bool (!(decide (iand .i64 x4 1 = 0))))] J1q ?_
  refine ite_some h (fun h47 h => ?_) (fun h47 h => ?_)
  ·
   rw [decide_eq_true h47]
   refine Goes.rn 2 [] J1j ?_
   exact Goes.jp 73 [(0, yieldV lx0), (1, (pt u1e 0)), (2, (pt u1f 0)), (4, .i x4), (5, .u x5)] (ua3 _ _ h _ _ hx uv u1m.length ux uy u1g u1n.length u1i u1j u1o.length u1l p1 u1r rfl u1t rfl u1v rfl)
  ·
   rw [decide_eq_false h47]
   refine Goes.rn 1 [] J1r ?_
   have z6 : Ext S1 w1 S1 (w1).drew := Ext.draw
   have p6 := p1.draw
   refine Goes.drawn (s := [6]) (F := Fc S1 (w1).drew [(⟨u1e, 0, none⟩, .slice u1g u1n.length u1i)]) 10 7 (by kernel_rfl) (by kernel_rfl) (by kernel_rfl) (by kernel_rfl) ?_
   generalize (w1).drew = w6 at z6 p6 ⊢
   refine AnyG.ld1 (i := 0) 22 (.tmp 1) 63 22 ⟨u1e, 0, none⟩ (.slice u1g u1n.length u1i) (by kernel_rfl) (by kernel_rfl) (Fc.here (p6.cs [(4, 0, 1)])) (by kernel_rfl) (by kernel_rfl) (fun _ h => h.2.at_ 0 rfl) ?_
   refine guard_some' h fun g49 h => ?_
   refine AnyG.ixR_n (i := 1) 22 (.tmp 63) (.const (.int .i64 0)) 64 0 35 .i64 0 (gi u1n 0) rfl rfl (u1t.ext z6) (by kernel_rfl) (by kernel_rfl) (Fc.here (p6.cs [(4, 0, 1)])) (by kernel_rfl) (by kernel_rfl) (by kernel_rfl) (by kernel_rfl) (by decide : (0 : Int) ≤ 0) g49 ?_
   intro a50 _ f51 q52
   obtain rfl := q52
   refine AnyG.ld1 (i := 2) 35 (.tmp 64) 65 35 a50 (.u (gi u1n 0)) (by kernel_rfl) (by kernel_rfl) (Fc.here (p6.cs [(4, 0, 1)])) (by kernel_rfl) (by kernel_rfl) (fun _ h => f51.fc h 0 _ rfl) ?_
   refine AnyG.ld1 (i := 3) 22 (.tmp 1) 66 22 ⟨u1e, 0, none⟩ (.slice u1g u1n.length u1i) (by kernel_rfl) (by kernel_rfl) (Fc.here (p6.cs [(4, 0, 1)])) (by kernel_rfl) (by kernel_rfl) (fun _ h => h.2.at_ 0 rfl) ?_
   refine guard_some' h fun g53 h => ?_
   refine AnyG.slR_n (i := 4) 22 (.tmp 66) (some (.const (.int .i64 1))) none 67 22 35 1 (u1n.length : Int) (sl u1n 1 (u1n.length : Int)) rfl rfl (u1t.ext z6) (by kernel_rfl) (by kernel_rfl) (Fc.here (p6.cs [(4, 0, 1)])) (by kernel_rfl) (by kernel_rfl) (by kernel_rfl) (Bnd.at_ .i64 (by kernel_rfl)) Bnd.no (by decide : (0 : Int) ≤ 1) g53 (Int.le_refl _) ?_
   intro A54 c55 f56
   refine AnyG.pu 5 (.assign (.tmp 65)) 5 35 (.u (gi u1n 0)) (Fc.here (p6.cs [(4, 0, 1)])) ?_
   refine Op_.st 22 (.tmp 1) (.tmp 67) 0 4 u1e 0 (.slice A54 ((sl u1n 1 (u1n.length : Int)).length) c55) [.slice A54 ((sl u1n 1 (u1n.length : Int)).length) c55] p6 rfl (AnyG.ss (i := 6) (by kernel_rfl) (by kernel_rfl)) (by kernel_rfl) (by kernel_rfl) (by kernel_rfl) (by kernel_rfl) (Nat.zero_le _) (by simp only [List.length_cons, List.length_nil]; omega) (by simp [Value.oneCell']) ?_
   intro w7 z7 p7
   have p7 : Hp nz wz S1 w7 ((some lx0, .obj (lpst 58 (lfr 23 [(5, (pt u1c 0)), (7, (pt u1d 0)), (12, .func (.func 68) #[] #[(pt u1e 0), (pt u1f 0)])] u1b) #[13, 14] (rfAssign (Q10)) (rfBody (Q10)) rx0 .ready none)) :: (some u1c, .row 72 [.func (.func 46) #[] #[]] 1 0) :: (some u1d, .row 22 [.slice (Gp uv) u1m.length ux] 1 0) :: (uv, .row 35 uy (ux * (kInt .u64).size) 0) :: (some u1e, .row 22 [.slice A54 ((sl u1n 1 (u1n.length : Int)).length) c55] 1 0) :: (some u1f, .row 22 [.slice u1j u1o.length u1l] 1 0) :: Lr) := p7
   refine AnyG.last [] (Fc S1 w7 []) (by decide) ?_
   refine AnyG.done (by kernel_rfl) ?_ _
   exact Goes.jp 73 [(0, yieldV lx0), (1, (pt u1e 0)), (2, (pt u1f 0)), (4, .i x4), (5, .u (gi u1n 0))] (ua3 _ _ h _ _ ((hx.trans z6).trans z7) uv u1m.length ux uy A54 ((sl u1n 1 (u1n.length : Int)).length) c55 u1j u1o.length u1l p7 (u1r.ext (z6.trans z7)) rfl (f56.ext z7) rfl (u1v.ext (z6.trans z7)) rfl)
 ·
  intro ua4 ua5 ⟨x4, x5, u1m, u1n, u1o⟩ r h S1 w1 hx uv uw ux uy u1g u1h u1i u1j u1k u1l p1 u1r u1s u1t u1u u1v u1w junk
  try dsimp only at h
  subst u1s
  subst u1u
  subst u1w
  refine Goes.rn 5 [(68, yieldV lx0), (69, .u x5), (70, .i x4)] J1t ?_
  refine bind_some' h fun y57 e58 h => ?_
  refine Goes.yieldAt (.call { callee := .value (.tmp 68), args := #[(.tmp 69), (.tmp 70)], argTypes := #[35, 3] }) 71 4 0 lx0 #[.u x5, .i x4] p1 rfl (by kernel_rfl) rfl (fun _ => by kernel_rfl) rfl (W.z2j u1m u1n u1o x5 x4 y57 e58 lx0 rx0 u1b u1c u1d uv u1m.length ux uy u1e u1g u1n.length u1i u1f u1j u1o.length u1l p1 u1r rfl u1t rfl u1v rfl) ?_
  rintro _ w8 ⟨S8, u2e, u2f, u2g, u2h, rfl, z8, p8, u2i, rfl⟩
  refine Goes.rn 6 [(72, .bool (!true))] J1a ?_
  exact Goes.jp 73 [(0, yieldV lx0), (1, (pt u1e 0)), (2, (pt u1f 0))] (ua5 _ _ h _ _ (hx.trans z8) u2e y57.length u2g u2h u1g u1n.length u1i u1j u1o.length u1l p8 u2i rfl (u1t.ext z8) rfl (u1v.ext z8) rfl)

theorem W.z2l {nz wz S0 w0 Lr} (lx0 : Nat) (rx0 : Nat) (u1b : Nat → Value) (u1c : Nat) (u1d : Nat) (u1e : Nat) (u1f : Nat) : ∀ a r, M.post_merge_uint64_1_3_l0 a = some r → (L.z2l nz wz S0 w0 Lr lx0 rx0 u1b u1c u1d u1e u1f) a r := (W.z2t lx0 rx0 u1b u1c u1d u1e u1f).1

theorem W.z2m {nz wz S0 w0 Lr} (lx0 : Nat) (rx0 : Nat) (u1b : Nat → Value) (u1c : Nat) (u1d : Nat) (u1e : Nat) (u1f : Nat) : ∀ a r, M.post_merge_uint64_1_3_l1 a = some r → (L.z2m nz wz S0 w0 Lr lx0 rx0 u1b u1c u1d u1e u1f) a r := (W.z2t lx0 rx0 u1b u1c u1d u1e u1f).2.1

theorem W.z2n {nz wz S0 w0 Lr} (lx0 : Nat) (rx0 : Nat) (u1b : Nat → Value) (u1c : Nat) (u1d : Nat) (u1e : Nat) (u1f : Nat) : ∀ a r, M.post_merge_uint64_1_3_l2 a = some r → (L.z2n nz wz S0 w0 Lr lx0 rx0 u1b u1c u1d u1e u1f) a r := (W.z2t lx0 rx0 u1b u1c u1d u1e u1f).2.2.1

theorem W.z2o {nz wz S0 w0 Lr} (lx0 : Nat) (rx0 : Nat) (u1b : Nat → Value) (u1c : Nat) (u1d : Nat) (u1e : Nat) (u1f : Nat) : ∀ a r, M.post_merge_uint64_1_3_l3 a = some r → (L.z2o nz wz S0 w0 Lr lx0 rx0 u1b u1c u1d u1e u1f) a r := (W.z2t lx0 rx0 u1b u1c u1d u1e u1f).2.2.2.1

theorem W.z2p {nz wz S0 w0 Lr} (lx0 : Nat) (rx0 : Nat) (u1b : Nat → Value) (u1c : Nat) (u1d : Nat) (u1e : Nat) (u1f : Nat) : ∀ a r, M.post_merge_uint64_1_3_l4 a = some r → (L.z2p nz wz S0 w0 Lr lx0 rx0 u1b u1c u1d u1e u1f) a r := (W.z2t lx0 rx0 u1b u1c u1d u1e u1f).2.2.2.2.1

theorem W.z2q {nz wz S0 w0 Lr} (lx0 : Nat) (rx0 : Nat) (u1b : Nat → Value) (u1c : Nat) (u1d : Nat) (u1e : Nat) (u1f : Nat) : ∀ a r, M.post_merge_uint64_1_3_l5 a = some r → (L.z2q nz wz S0 w0 Lr lx0 rx0 u1b u1c u1d u1e u1f) a r := (W.z2t lx0 rx0 u1b u1c u1d u1e u1f).2.2.2.2.2.1

theorem W.z2r {nz wz S0 w0 Lr} (lx0 : Nat) (rx0 : Nat) (u1b : Nat → Value) (u1c : Nat) (u1d : Nat) (u1e : Nat) (u1f : Nat) : ∀ a r, M.post_merge_uint64_1_3_l6 a = some r → (L.z2r nz wz S0 w0 Lr lx0 rx0 u1b u1c u1d u1e u1f) a r := (W.z2t lx0 rx0 u1b u1c u1d u1e u1f).2.2.2.2.2.2.1

theorem W.z2s {nz wz S0 w0 Lr} (lx0 : Nat) (rx0 : Nat) (u1b : Nat → Value) (u1c : Nat) (u1d : Nat) (u1e : Nat) (u1f : Nat) : ∀ a r, M.post_merge_uint64_1_3_l7 a = some r → (L.z2s nz wz S0 w0 Lr lx0 rx0 u1b u1c u1d u1e u1f) a r := (W.z2t lx0 rx0 u1b u1c u1d u1e u1f).2.2.2.2.2.2.2

theorem W.z2k (u2j : List Int) (u2k : List Int) (u2l : List Int) (r : (List Int) × (List Int) × (List Int)) (h : M.post_merge_uint64_1_3 u2j u2k u2l = some r) {nz wz S0 w0 Lr} (lx0 rx0 u1b u1c u1d u2m u2n u2o u2p u1e u2q u2r u2s u1f u2t u2u u2v) (p0 : Hp nz wz S0 w0 ((some lx0, .obj (lpst 58 (lfr 23 [(5, (pt u1c 0)), (7, (pt u1d 0)), (12, .func (.func 68) #[] #[(pt u1e 0), (pt u1f 0)])] u1b) #[13, 14] (rfAssign (Q10)) (rfBody (Q10)) rx0 .ready none)) :: (some u1c, .row 72 [.func (.func 46) #[] #[]] 1 0) :: (some u1d, .row 22 [.slice (Gp u2m) u2n u2o] 1 0) :: (u2m, .row 35 u2p (u2o * (kInt .u64).size) 0) :: (some u1e, .row 22 [.slice u2q u2r u2s] 1 0) :: (some u1f, .row 22 [.slice u2t u2u u2v] 1 0) :: Lr)) (u2w : Els (kInt .u64) S0 w0 u2p u2j) (u2x : u2j.length = u2n) (u2y : Rd (kInt .u64) S0 w0 u2q u2s u2k) (u2z : u2k.length = u2r) (u30 : Rd (kInt .u64) S0 w0 u2t u2v u2l) (u31 : u2l.length = u2u) :
  Calls Try.prog 68 #[yieldV lx0, (pt u1e 0), (pt u1f 0)] w0 (Rets (Post.z2k nz wz S0 w0 Lr lx0 rx0 u1b u1c u1d u1e u1f r)) := by
 subst u2x
 subst u2z
 subst u31
 refine calls_of_goes (fn := Try.f68) (c := B68) (by kernel_rfl) (by kernel_rfl) 70 (by kernel_rfl) ?_
 refine Goes.jp 73 [(0, yieldV lx0), (1, (pt u1e 0)), (2, (pt u1f 0))] (fun junk => ?_)
 delta M.post_merge_uint64_1_3 at h
 refine Goes.rn 2 [] J1a ?_
 exact Goes.jp 73 [(0, yieldV lx0), (1, (pt u1e 0)), (2, (pt u1f 0))] (W.z2l lx0 rx0 u1b u1c u1d u1e u1f _ _ h _ _ (Ext.refl S0 w0) u2m u2j.length u2o u2p u2q u2k.length u2s u2t u2l.length u2v p0 u2w rfl u2y rfl u30 rfl)

def Post.z2u (r : List Int) (v : Value) (w' : World) : Prop :=
 ∃ S' Gq nq cq csq, v = .slice (Gp Gq) nq cq ∧ Ext S0 w0 S' w' ∧ Hp nz wz S' w' ((Gq, .row 35 csq (cq * (kInt .u64).size) 0) :: Lr) ∧ Els (kInt .u64) S' w' csq r ∧ r.length = nq

theorem W.z2u (x0 : List Int) (x1 : List Int) (r : List Int) (h : M.post_those_uint64_3 x0 x1 = some r) {nz wz S0 w0 Lr} (Ax0 nx0 cx0 Ax1 nx1 cx1) (p0 : Hp nz wz S0 w0 (Lr)) (fx0 : Rd (kInt .u64) S0 w0 Ax0 cx0 x0) (lx0 : x0.length = nx0) (fx1 : Rd (kInt .u64) S0 w0 Ax1 cx1 x1) (lx1 : x1.length = nx1) :
  Calls Try.prog 58 #[.slice Ax0 nx0 cx0, .slice Ax1 nx1 cx1, .func (.func 46) #[] #[]] w0 (Rets (Post.z2u nz wz S0 w0 Lr r)) := by
 subst lx0
 subst lx1
 refine calls_of_goes (fn := Try.f58) (c := B58) (by kernel_rfl) (by kernel_rfl) 20 (by kernel_rfl) ?_
 refine Goes.jp 23 [(0, .slice Ax0 x0.length cx0), (1, .slice Ax1 x1.length cx1), (2, .func (.func 46) #[] #[])] (fun junk => ?_)
 delta M.post_those_uint64_3 at h
 refine Goes.rn 2 [] J1v ?_
 refine Op_.box 72 (.tmp 2) 5 0 (.func (.func 46) #[] #[]) [.func (.func 46) #[] #[]] p0 Goes.v (by kernel_rfl) (by kernel_rfl) ?_
 intro b1 w2 z2 p2
 refine Goes.rn 4 [(6, .slice none 0 0)] J1x ?_
 refine Op_.alloc 22 7 0 (.slice none 0 0) [.slice none 0 0] p2 Goes.v (by kernel_rfl) (by kernel_rfl) ?_
 intro b3 w3 z3 p3
 refine Goes.rn 6 [(10, .slice Ax0 x0.length cx0), (11, .slice Ax1 x1.length cx1)] J20 ?_
 refine bind_some' h fun y5 e6 h => ?_
 refine Goes.cal (kc 63 [10, 11] #[22, 22]) 12 88 63 _ (W.z7 x0 x1 y5 e6 Ax0 x0.length cx0 Ax1 x1.length cx1 p3 (fx0.ext (z2.trans z3)) rfl (fx1.ext (z2.trans z3)) rfl) ?_
 rintro _ w4 ⟨S4, u32, u33, u34, u35, u36, u37, u38, u39, rfl, z4, p4, u3a, rfl, u3b, rfl⟩
 refine Goes.rn 2 [] J22 ?_
 refine Goes.jp 23 [(5, (pt b1 0)), (7, (pt b3 0)), (12, .func (.func 68) #[] #[(pt u32 0), (pt u36 0)])] (fun u3c => ?_)
 refine Goes.rangeF (f := 58) (.tmp 12) #[13, 14] 68 #[] #[(pt u32 0), (pt u36 0)] (by kernel_rfl) (by kernel_rfl) (fun _ => by kernel_rfl) p4 ?_
 intro r10 l11 w5 z5 p5
 have p5 : Hp nz wz S4 w5 ((none, .row 35 [] (0 * (kInt .u64).size) 0) :: (some l11, .obj (lpst 58 (lfr 23 [(5, (pt b1 0)), (7, (pt b3 0)), (12, .func (.func 68) #[] #[(pt u32 0), (pt u36 0)])] u3c) #[13, 14] (rfAssign (Q10)) (rfBody (Q10)) r10 .ready none)) :: (some r10, .obj (.deferred (some []))) :: (some u32, .row 22 [.slice u33 y5.1.length u35] 1 0) :: (some u36, .row 22 [.slice u37 y5.2.length u39] 1 0) :: (some b3, .row 22 [.slice none 0 0] 1 0) :: (some b1, .row 72 [.func (.func 46) #[] #[]] 1 0) :: Lr) := p5.nilRow' 35
 have p5 := (((((p5.fr 4).fr 4).fr 2).fr 5).fr 6).fr 5
 refine bind_some' h fun y15 e16 h => ?_
 refine ⟨_, W.z2k ([] : List Int) y5.1 y5.2 y15 e16 l11 r10 u3c b1 b3 none 0 0 [] u32 u33 y5.1.length u35 u36 u37 y5.2.length u39 p5 (Els.nil (K := (kInt .u64))) rfl (u3a.ext z5) rfl (u3b.ext z5) rfl, ?_⟩
 rintro _ w6 ⟨S6, u3d, u3e, u3f, u3g, u3h, u3i, u3j, u3k, u3l, u3m, rfl, z6, p6, u3n, rfl, u3o, rfl, u3p, rfl⟩
 refine Goes.endF 0 p6 rfl rfl ?_
 intro w7 z7 p7
 replace p7 : Hp nz wz S6 w7 ((some b1, .row 72 [.func (.func 46) #[] #[]] 1 0) :: (some b3, .row 22 [.slice (Gp u3d) y15.1.length u3f] 1 0) :: (u3d, .row 35 u3g (u3f * (kInt .u64).size) 0) :: (some u32, .row 22 [.slice u3h y15.2.1.length u3j] 1 0) :: (some u36, .row 22 [.slice u3k y15.2.2.length u3m] 1 0) :: (some r10, .obj (.deferred (some []))) :: Lr) := (p7.front 0 _ rfl).drop
 show Goes _ _ J21 _ _ _
 refine Goes.rn 3 [] J24 ?_
 refine Goes.ld 22 (.tmp 7) 22 22 ⟨b3, 0, none⟩ (.slice (Gp u3d) y15.1.length u3f) (p7.c 1 0) ?_
 refine Goes.rn 2 [(6, .slice (Gp u3d) y15.1.length u3f)] J23 ?_
 obtain rfl := Option.some.inj h
 have p7 := (((p7.dp 0).dp 0).dp 1).dp 1
 have p7 := (p7.fr 0).fr 1
 refine Goes.retL ?_
 refine lvs_mark 0 rfl rfl p7 rfl ?_
 intro w8 z8 p8
 replace p8 : Hp nz wz S6 w8 ((u3d, .row 35 u3g (u3f * (kInt .u64).size) 0) :: Lr) := p8.drop
 exact lvs_done (fn := Try.f58) rfl rfl rfl rfl (by kernel_rfl) (v := .slice (Gp u3d) y15.1.length u3f) (by kernel_rfl) ⟨S6, u3d, y15.1.length, u3f, u3g, rfl, ((((((((Ext.refl S0 w0).trans z2).trans z3).trans z4).trans z5).trans z6).trans z7).trans z8), p8, (u3n.ext (z7.trans z8)), rfl⟩

def Post.z2v (r : (List Int) × Int) (v : Value) (w' : World) : Prop :=
 ∃ S' u3q u3r u3s u3t, v = .tuple #[.slice (Gp u3q) u3r u3s, .i r.2] ∧ Ext S0 w0 S' w' ∧ Hp nz wz S' w' ((u3q, .row 35 u3t (u3s * (kInt .u64).size) 0) :: Lr) ∧ Els (kInt .u64) S' w' u3t r.1 ∧ r.1.length = u3r

def L.z2w : (List Int) × (List (List Int)) × Int × Int → ((List Int) × Int) → Prop := fun ⟨x9, x35, x36, x37⟩ r => ∀ S1 w1, Ext S0 w0 S1 w1 → ∀ Gx9 nx9 cx9 u3u u3v u3w u3x (_ : Hp nz wz S1 w1 ((Gx9, .row 35 u3u (cx9 * (kInt .u64).size) 0) :: Lr)) (_ : Els (kInt .u64) S1 w1 u3u x9) (_ : x9.length = nx9) (_ : Rd (kSl (kInt .u64)) S1 w1 u3v u3x x35) (_ : x35.length = u3w) (junk : Nat → Value),
 Goes Try.prog (base 43) J28 ⟨lfr 47 [(1, .func (.func 46) #[] #[]), (9, .slice (Gp Gx9) nx9 cx9), (35, .slice u3v u3w u3x), (36, .i x36), (37, .i x37)] junk, []⟩ w1 (Done Try.prog 43 (Rets (Post.z2v nz wz S0 w0 Lr r)))

theorem W.z2w {nz wz S0 w0 Lr} : ∀ a r, M.post_fold_3_l1 a = some r → (L.z2w nz wz S0 w0 Lr) a r := by
 refine M.post_fold_3_l1.partial_correctness (motive := (L.z2w nz wz S0 w0 Lr)) ?_
 intro ua6 ua7 ⟨x9, x35, x36, x37⟩ r h S1 w1 hx Gx9 nx9 cx9 u3u u3v u3w u3x p1 fx9 lx9 u40 u41 junk
 try dsimp only at h
 subst lx9
 subst u41
 refine Goes.rn 5 [(38, .bool (decide (x37 < x36)))] J2a ?_
 refine ite_some h (fun h33 h => ?_) (fun h33 h => ?_)
 ·
  rw [decide_eq_true h33]
  refine Goes.rn 6 [] J2e ?_
  refine guard_some' h fun g34 h => ?_
  refine guard_some' h fun g35 h => ?_
  refine Op_.ixR_n 38 (.tmp 35) (.tmp 37) 39 0 22 .i64 x37 (gi x35 x37) rfl rfl u40 Goes.v (by kernel_rfl) (by kernel_rfl) (by kernel_rfl) (by kernel_rfl) g34 g35 ?_
  intro a36 _ f37 q38
  obtain ⟨A39, c40, rfl, f41⟩ := q38
  refine Goes.ld 22 (.tmp 39) 40 22 a36 (.slice A39 ((gi x35 x37).length) c40) (f37.cell 0 _ rfl) ?_
  refine Goes.rn 6 [(11, .slice A39 ((gi x35 x37).length) c40), (41, .slice (Gp Gx9) x9.length cx9), (42, .slice A39 ((gi x35 x37).length) c40), (43, .func (.func 46) #[] #[])] J2f ?_
  obtain ⟨S4, z4, p4, f42⟩ := p1.freezeRd 0 rfl fx9 (by decide)
  refine bind_some' h fun y43 e44 h => ?_
  refine Goes.cal (kc 58 [41, 42, 43] #[22, 22, 72]) 44 22 58 _ (W.z2u x9 (gi x35 x37) y43 e44 (Gp Gx9) x9.length cx9 A39 ((gi x35 x37).length) c40 p4 f42 rfl (f41.ext z4) rfl) ?_
  rintro _ w5 ⟨S5, u42, u43, u44, u45, rfl, z5, p5, u46, rfl⟩
  have p5 := p5.dp 1
  refine Goes.rn 8 [(9, .slice (Gp u42) y43.length u44), (45, .i (wr .i64 (x37 + 1))), (37, .i (wr .i64 (x37 + 1)))] J28 ?_
  exact Goes.jp 47 [(1, .func (.func 46) #[] #[]), (9, .slice (Gp u42) y43.length u44), (35, .slice u3v x35.length u3x), (36, .i x36), (37, .i (wr .i64 (x37 + 1)))] (ua7 _ _ h _ _ ((hx.trans z4).trans z5) u42 y43.length u44 u45 u3v x35.length u3x p5 u46 rfl (u40.ext (z4.trans z5)) rfl)
 ·
  rw [decide_eq_false h33]
  refine Goes.rn 8 [(46, .slice (Gp Gx9) x9.length cx9), (4, .slice (Gp Gx9) x9.length cx9), (5, .i 0)] J2g ?_
  obtain rfl := Option.some.inj h
  exact Goes.rt Try.f43 (.tuple #[.slice (Gp Gx9) x9.length cx9, .i 0]) ⟨S1, Gx9, x9.length, cx9, u3u, rfl, hx, p1, fx9, rfl⟩

def L.z2x : (List (List Int)) × (List (List Int)) × Int × Int → ((List Int) × Int) → Prop := fun ⟨x0, x15, x16, x17⟩ r => ∀ S1 w1, Ext S0 w0 S1 w1 → ∀ Ax0 nx0 cx0 u47 u48 u49 (_ : Hp nz wz S1 w1 (Lr)) (_ : Rd (kSl (kInt .u64)) S1 w1 Ax0 cx0 x0) (_ : x0.length = nx0) (_ : Rd (kSl (kInt .u64)) S1 w1 u47 u49 x15) (_ : x15.length = u48) (junk : Nat → Value),
 Goes Try.prog (base 43) J2k ⟨lfr 47 [(0, .slice Ax0 nx0 cx0), (1, .func (.func 46) #[] #[]), (15, .slice u47 u48 u49), (16, .i x16), (17, .i x17)] junk, []⟩ w1 (Done Try.prog 43 (Rets (Post.z2v nz wz S0 w0 Lr r)))

theorem W.z2x {nz wz S0 w0 Lr} : ∀ a r, M.post_fold_3_l0 a = some r → (L.z2x nz wz S0 w0 Lr) a r := by
 refine M.post_fold_3_l0.partial_correctness (motive := (L.z2x nz wz S0 w0 Lr)) ?_
 intro ua8 ua9 ⟨x0, x15, x16, x17⟩ r h S1 w1 hx Ax0 nx0 cx0 u47 u48 u49 p1 fx0 lx0 u4c u4d junk
 try dsimp only at h
 subst lx0
 subst u4d
 refine Goes.rn 5 [(18, .bool (decide (x17 < x16)))] J2m ?_
 refine ite_some h (fun h3 h => ?_) (fun h3 h => ?_)
 ·
  rw [decide_eq_true h3]
  refine Goes.rn 6 [] J2q ?_
  refine guard_some' h fun g4 h => ?_
  refine guard_some' h fun g5 h => ?_
  refine Op_.ixR_n 38 (.tmp 15) (.tmp 17) 19 0 22 .i64 x17 (gi x15 x17) rfl rfl u4c Goes.v (by kernel_rfl) (by kernel_rfl) (by kernel_rfl) (by kernel_rfl) g4 g5 ?_
  intro a6 _ f7 q8
  obtain ⟨A9, c10, rfl, f11⟩ := q8
  refine Goes.ld 22 (.tmp 19) 20 22 a6 (.slice A9 ((gi x15 x17).length) c10) (f7.cell 0 _ rfl) ?_
  refine Goes.rn 5 [(7, .slice A9 ((gi x15 x17).length) c10), (21, .slice A9 ((gi x15 x17).length) c10)] J2s ?_
  refine bind_some' h fun y12 e13 h => ?_
  refine Goes.cal (kc 23 [21] #[22]) 22 25 23 _ (W.z5 (gi x15 x17) y12 e13 A9 ((gi x15 x17).length) c10 p1 f11 rfl) ?_
  rintro _ w2 ⟨S2, rfl, z2, p2⟩
  refine Goes.rn 7 [(8, .i y12), (23, .i y12), (24, .bool (!(decide (y12 = 0))))] J2t ?_
  refine ite_some h (fun h14 h => ?_) (fun h14 h => ?_)
  ·
   rw [decide_eq_true h14]
   refine Goes.rn 8 [(26, .i (wr .i64 (x17 + 1))), (17, .i (wr .i64 (x17 + 1)))] J2k ?_
   exact Goes.jp 47 [(0, .slice Ax0 x0.length cx0), (1, .func (.func 46) #[] #[]), (15, .slice u47 x15.length u49), (16, .i x16), (17, .i (wr .i64 (x17 + 1)))] (ua9 _ _ h _ _ (hx.trans z2) Ax0 x0.length cx0 u47 x15.length u49 p2 (fx0.ext z2) rfl (u4c.ext z2) rfl)
  ·
   rw [decide_eq_false h14]
   refine Goes.rn 7 [(25, .i y12), (4, .slice none 0 0), (5, .i y12)] J2u ?_
   have p2 : Hp nz wz S2 w2 ((none, .row 35 [] (0 * (kInt .u64).size) 0) :: Lr) := p2.nilRow' 35
   obtain rfl := Option.some.inj h
   exact Goes.rt Try.f43 (.tuple #[.slice (Gp none) 0 0, .i y12]) ⟨S2, none, 0, 0, [], rfl, (hx.trans z2), p2, (Els.nil (K := (kInt .u64))), rfl⟩
 ·
  rw [decide_eq_false h3]
  refine Goes.rn 9 [(27, .slice Ax0 x0.length cx0), (28, .i (x0.length : Int)), (29, .bool (decide ((x0.length : Int) = 0)))] J2w ?_
  refine ite_some h (fun h16 h => ?_) (fun h16 h => ?_)
  ·
   rw [decide_eq_true h16]
   refine Goes.rn 6 [(4, .slice none 0 0), (5, .i 0)] J2x ?_
   have p1 : Hp nz wz S1 w1 ((none, .row 35 [] (0 * (kInt .u64).size) 0) :: Lr) := p1.nilRow' 35
   obtain rfl := Option.some.inj h
   exact Goes.rt Try.f43 (.tuple #[.slice (Gp none) 0 0, .i 0]) ⟨S1, none, 0, 0, [], rfl, hx, p1, (Els.nil (K := (kInt .u64))), rfl⟩
  ·
   rw [decide_eq_false h16]
   refine Goes.rn 5 [(30, .slice Ax0 x0.length cx0)] J2z ?_
   refine guard_some' h fun g18 h => ?_
   refine Op_.ixR_n 38 (.tmp 30) (.const (.int .i64 0)) 31 0 22 .i64 0 (gi x0 0) rfl rfl fx0 Goes.v (by kernel_rfl) (by kernel_rfl) (by kernel_rfl) (by kernel_rfl) (by decide : (0 : Int) ≤ 0) g18 ?_
   intro a19 _ f20 q21
   obtain ⟨A22, c23, rfl, f24⟩ := q21
   refine Goes.ld 22 (.tmp 31) 32 22 a19 (.slice A22 ((gi x0 0).length) c23) (f20.cell 0 _ rfl) ?_
   refine bind_some' h fun y25 e26 h => ?_
   refine Goes.cal (kc 55 [32] #[22]) 33 22 55 _ (W.z6 (gi x0 0) y25 e26 A22 ((gi x0 0).length) c23 p1 f24 rfl) ?_
   rintro _ w3 ⟨S3, u4e, u4f, u4g, u4h, rfl, z3, p3, u4i, rfl⟩
   refine Goes.rn 6 [(9, .slice (Gp u4e) y25.length u4g), (34, .slice Ax0 x0.length cx0)] J31 ?_
   refine guard_some' h fun g28 h => ?_
   refine Op_.slR_n 38 (.tmp 34) (some (.const (.int .i64 1))) none 35 38 22 1 (x0.length : Int) (sl x0 1 (x0.length : Int)) rfl rfl (fx0.ext z3) Goes.v (by kernel_rfl) (by kernel_rfl) (by kernel_rfl) (Bnd.at_ .i64 (by kernel_rfl)) Bnd.no (by decide : (0 : Int) ≤ 1) g28 (Int.le_refl _) ?_
   intro A29 c30 f31
   refine Goes.rn 5 [(36, .i ((sl x0 1 (x0.length : Int)).length : Int)), (37, .i 0)] J28 ?_
   exact Goes.jp 47 [(1, .func (.func 46) #[] #[]), (9, .slice (Gp u4e) y25.length u4g), (35, .slice A29 ((sl x0 1 (x0.length : Int)).length) c30), (36, .i ((sl x0 1 (x0.length : Int)).length : Int)), (37, .i 0)] (W.z2w _ _ h _ _ (hx.trans z3) u4e y25.length u4g u4h A29 ((sl x0 1 (x0.length : Int)).length) c30 p3 u4i rfl f31 rfl)

theorem W.z2v (x0 : List (List Int)) (r : (List Int) × Int) (h : M.post_fold_3 x0 = some r) {nz wz S0 w0 Lr} (Ax0 nx0 cx0) (p0 : Hp nz wz S0 w0 (Lr)) (fx0 : Rd (kSl (kInt .u64)) S0 w0 Ax0 cx0 x0) (lx0 : x0.length = nx0) :
  Calls Try.prog 43 #[.slice Ax0 nx0 cx0, .func (.func 46) #[] #[]] w0 (Rets (Post.z2v nz wz S0 w0 Lr r)) := by
 subst lx0
 refine calls_of_goes (fn := Try.f43) (c := B43) (by kernel_rfl) (by kernel_rfl) 45 (by kernel_rfl) ?_
 refine Goes.jp 47 [(0, .slice Ax0 x0.length cx0), (1, .func (.func 46) #[] #[])] (fun junk => ?_)
 delta M.post_fold_3 at h
 refine Goes.rn 12 [(4, .slice none 0 0), (5, .i 0), (12, .slice Ax0 x0.length cx0), (13, .i (x0.length : Int)), (14, .bool (decide ((x0.length : Int) > 4096)))] J33 ?_
 refine ite_some h (fun h1 h => ?_) (fun h1 h => ?_)
 ·
  rw [decide_eq_true h1]
  refine Goes.rn 6 [(4, .slice none 0 0), (5, .i 3)] J34 ?_
  have p0 : Hp nz wz S0 w0 ((none, .row 35 [] (0 * (kInt .u64).size) 0) :: Lr) := p0.nilRow' 35
  obtain rfl := Option.some.inj h
  exact Goes.rt Try.f43 (.tuple #[.slice (Gp none) 0 0, .i 3]) ⟨S0, none, 0, 0, [], rfl, (Ext.refl S0 w0), p0, (Els.nil (K := (kInt .u64))), rfl⟩
 ·
  rw [decide_eq_false h1]
  refine Goes.rn 11 [(15, .slice Ax0 x0.length cx0), (16, .i (x0.length : Int)), (17, .i 0)] J2k ?_
  exact Goes.jp 47 [(0, .slice Ax0 x0.length cx0), (1, .func (.func 46) #[] #[]), (15, .slice Ax0 x0.length cx0), (16, .i (x0.length : Int)), (17, .i 0)] (W.z2x _ _ h _ _ (Ext.refl S0 w0) Ax0 x0.length cx0 Ax0 x0.length cx0 p0 fx0 rfl fx0 rfl)

def Q86 := sub [1, 1] B19
def Jaa : List Item := [.code Q86]
def Q87 := sub [1, 0] B19
def Jab : List Item := .inRegion (opsOf Q87) [1, 2, 3, 4, 5] :: Jaa

def Post.z2y (r : (List Int) × Int) (v : Value) (w' : World) : Prop :=
 ∃ S' u3q u3r u3s u3t, v = .tuple #[.slice (Gp u3q) u3r u3s, .i r.2] ∧ Ext S0 w0 S' w' ∧ Hp nz wz S' w' ((u3q, .row 35 u3t (u3s * (kInt .u64).size) 0) :: Lr) ∧ Els (kInt .u64) S' w' u3t r.1 ∧ r.1.length = u3r

theorem W.z2y (x0 : List (List Int)) (r : (List Int) × Int) (h : M.post_And x0 = some r) {nz wz S0 w0 Lr} (Ax0 nx0 cx0) (p0 : Hp nz wz S0 w0 (Lr)) (fx0 : Rd (kSl (kInt .u64)) S0 w0 Ax0 cx0 x0) (lx0 : x0.length = nx0) :
  Calls Try.prog 19 #[.slice Ax0 nx0 cx0] w0 (Rets (Post.z2y nz wz S0 w0 Lr r)) := by
 subst lx0
 refine calls_of_goes (fn := Try.f19) (c := B19) (by kernel_rfl) (by kernel_rfl) 7 (by kernel_rfl) ?_
 refine Goes.jp 8 [(0, .slice Ax0 x0.length cx0)] (fun junk => ?_)
 delta M.post_And at h
 refine Goes.rn 8 [(2, .slice none 0 0), (3, .i 0), (4, .slice Ax0 x0.length cx0)] Jab ?_
 refine bind_some' h fun y1 e2 h => ?_
 refine Goes.cal (.call { callee := .value (.func 43), args := #[(.tmp 4), (.func 46)], argTypes := #[38, 72] }) 5 26 43 _ (W.z2v x0 y1 e2 Ax0 x0.length cx0 p0 fx0 rfl) ?_
 rintro _ w2 ⟨S2, u4j, u4k, u4l, u4m, rfl, z2, p2, u4n, rfl⟩
 refine Goes.rn 5 [(6, .slice (Gp u4j) y1.1.length u4l), (7, .i y1.2), (2, .slice (Gp u4j) y1.1.length u4l), (3, .i y1.2)] Jaa ?_
 obtain rfl := Option.some.inj h
 exact Goes.rt Try.f19 (.tuple #[.slice (Gp u4j) y1.1.length u4l, .i y1.2]) ⟨S2, u4j, y1.1.length, u4l, u4m, rfl, ((Ext.refl S0 w0).trans z2), p2, u4n, rfl⟩

def Q88 := sub [1, 1] B8
def Jac : List Item := [.code Q88]
def Q89 := sub [1, 0] B8
def Jad : List Item := .inRegion (opsOf Q89) [0, 1, 2, 3] :: Jac
def Q8a := sub [1, 1, 1] B8
def Jae : List Item := [.code Q8a]
def Q8b := sub [1, 1, 0] B8
def Jaf : List Item := .inRegion (opsOf Q8b) [2, 3, 4, 5, 6, 7, 8] :: Jae
def Q8c := sub [1, 1, 1, 1] B8
def Jag : List Item := [.code Q8c]
def Q8d := sub [1, 1, 1, 0] B8
def Jah : List Item := .inRegion (opsOf Q8d) [2, 3, 4, 5, 6, 7, 8] :: Jag
def Q8e := sub [1, 1, 1, 1, 1] B8
def Jai : List Item := [.code Q8e]
def Q8f := sub [1, 1, 1, 1, 0] B8
def Jaj : List Item := .inRegion (opsOf Q8f) [2, 3, 4, 5, 6, 7] :: Jai
def Q8g := sub [1, 1, 1, 1, 1, 1] B8
def Jak : List Item := [.code Q8g]
def Q8h := sub [1, 1, 1, 1, 1, 0] B8
def Jal : List Item := .inRegion (opsOf Q8h) [1, 2, 3, 4, 5, 6, 7, 8, 9, 10, 11, 12, 13, 14, 15, 16, 17, 18, 19, 20, 21, 22, 23, 24, 25] :: Jak
def Jam : List Item := .inRegion (opsOf Q8h) [4, 5, 6, 7, 8, 9, 10, 11, 12, 13, 14, 15, 16, 17, 18, 19, 20, 21, 22, 23, 24, 25] :: Jak
def Jan : List Item := .inRegion (opsOf Q8h) [5, 6, 7, 8, 9, 10, 11, 12, 13, 14, 15, 16, 17, 18, 19, 20, 21, 22, 23, 24, 25] :: Jak
def Jao : List Item := .inRegion (opsOf Q8h) [9, 10, 11, 12, 13, 14, 15, 16, 17, 18, 19, 20, 21, 22, 23, 24, 25] :: Jak
def Jap : List Item := .inRegion (opsOf Q8h) [10, 11, 12, 13, 14, 15, 16, 17, 18, 19, 20, 21, 22, 23, 24, 25] :: Jak
def Jaq : List Item := .inRegion (opsOf Q8h) [14, 15, 16, 17, 18, 19, 20, 21, 22, 23, 24, 25] :: Jak
def Jar : List Item := .inRegion (opsOf Q8h) [18, 19, 20, 21, 22, 23, 24, 25] :: Jak
def Jas : List Item := .inRegion (opsOf Q8h) [22, 23, 24, 25] :: Jak
def Jat : List Item := .inRegion (opsOf Q8h) [23, 24, 25] :: Jak

def Post.z2z (r : Bool) (v : Value) (w' : World) : Prop :=
 ∃ S', v = .bool r ∧ Ext S0 w0 S' w' ∧ Hp nz wz S' w' (Lr)

theorem W.z2z (r : Bool) (h : M.tidepolelaw13_works = some r) {nz wz S0 w0 Lr} (p0 : Hp nz wz S0 w0 (Lr)) :
  Calls Try.prog 8 #[] w0 (Rets (Post.z2z nz wz S0 w0 Lr r)) := by
 refine calls_of_goes (fn := Try.f8) (c := B8) (by kernel_rfl) (by kernel_rfl) 56 (by kernel_rfl) ?_
 refine Goes.jp 56 [] (fun junk => ?_)
 delta M.tidepolelaw13_works at h
 refine Goes.rn 6 [(0, .bool false)] Jad ?_
 have f2 : Els (kInt .u64) S0 w0 ([.u 1, .u 3, .u 5] : List Value) [1, 3, 5] := by exact (Els.cons (K := (kInt .u64)) (vs := [.u 1]) (x := 1) rfl (Els.cons (K := (kInt .u64)) (vs := [.u 3]) (x := 3) rfl (Els.cons (K := (kInt .u64)) (vs := [.u 5]) (x := 5) rfl Els.nil)))
 refine Op_.made (.buildSlice 22 3 #[(0, (.const (.int .u64 1))), (1, (.const (.int .u64 3))), (2, (.const (.int .u64 5)))]) 9 22 (fun b => .slice (Gp (some b)) 3 3) 35 ([.u 1, .u 3, .u 5] : List Value) p0 Goes.v (by kernel_rfl) ?_
 intro b1 w2 z2 p2
 have p2 : Hp nz wz S0 w2 (((some b1), .row 35 ([.u 1, .u 3, .u 5] : List Value) (3 * (kInt .u64).size) 0) :: Lr) := p2
 have f5 : Els (kInt .u64) S0 w2 ([.u 3, .u 4, .u 5] : List Value) [3, 4, 5] := by exact (Els.cons (K := (kInt .u64)) (vs := [.u 3]) (x := 3) rfl (Els.cons (K := (kInt .u64)) (vs := [.u 4]) (x := 4) rfl (Els.cons (K := (kInt .u64)) (vs := [.u 5]) (x := 5) rfl Els.nil)))
 refine Op_.made (.buildSlice 22 3 #[(0, (.const (.int .u64 3))), (1, (.const (.int .u64 4))), (2, (.const (.int .u64 5)))]) 10 22 (fun b => .slice (Gp (some b)) 3 3) 35 ([.u 3, .u 4, .u 5] : List Value) p2 Goes.v (by kernel_rfl) ?_
 intro b4 w3 z3 p3
 have p3 : Hp nz wz S0 w3 (((some b4), .row 35 ([.u 3, .u 4, .u 5] : List Value) (3 * (kInt .u64).size) 0) :: ((some b1), .row 35 ([.u 1, .u 3, .u 5] : List Value) (3 * (kInt .u64).size) 0) :: Lr) := p3
 refine Goes.rn 7 [(1, .slice (Gp (some b1)) 3 3), (2, .slice (Gp (some b4)) 3 3), (12, .slice (Gp (some b1)) 3 3), (13, .slice (Gp (some b4)) 3 3)] Jaf ?_
 obtain ⟨S4, z4, p4, f7⟩ := p3.freezeRd 1 rfl (f2.ext (z2.trans z3)) (by decide)
 obtain ⟨S5, z5, p5, f8⟩ := p4.freezeRd 0 rfl (f5.ext (z3.trans z4)) (by decide)
 have f10 : Els (kSl (kInt .u64)) S5 w3 ([.slice (Gp (some b1)) 3 3, .slice (Gp (some b4)) 3 3] : List Value) [[1, 3, 5], [3, 4, 5]] := by exact (Els.cons (K := (kSl (kInt .u64))) (vs := [.slice (Gp (some b1)) 3 3]) (x := [1, 3, 5]) ⟨_, _, rfl, (f7.ext z5)⟩ (Els.cons (K := (kSl (kInt .u64))) (vs := [.slice (Gp (some b4)) 3 3]) (x := [3, 4, 5]) ⟨_, _, rfl, f8⟩ Els.nil))
 refine Op_.made (.buildSlice 38 2 #[(0, (.tmp 12)), (1, (.tmp 13))]) 14 38 (fun b => .slice (Gp (some b)) 2 2) 22 ([.slice (Gp (some b1)) 3 3, .slice (Gp (some b4)) 3 3] : List Value) p5 Goes.v (by kernel_rfl) ?_
 intro b9 w6 z6 p6
 have p6 : Hp nz wz S5 w6 (((some b9), .row 22 ([.slice (Gp (some b1)) 3 3, .slice (Gp (some b4)) 3 3] : List Value) (2 * (kSl (kInt .u64)).size) 0) :: ((some b4), .row 35 ([.u 3, .u 4, .u 5] : List Value) (3 * (kInt .u64).size) (([.u 3, .u 4, .u 5] : List Value).length)) :: ((some b1), .row 35 ([.u 1, .u 3, .u 5] : List Value) (3 * (kInt .u64).size) (([.u 1, .u 3, .u 5] : List Value).length)) :: Lr) := p6
 obtain ⟨S7, z7, p7, f12⟩ := p6.freezeRd 0 rfl (f10.ext z6) (by decide)
 refine bind_some' h fun y13 e14 h => ?_
 refine Goes.cal (kc 19 [14] #[38]) 15 26 19 _ (W.z2y [[1, 3, 5], [3, 4, 5]] y13 e14 (Gp (some b9)) 2 2 p7 f12 rfl) ?_
 rintro _ w8 ⟨S8, uaa, uab, uac, uad, rfl, z8, p8, uae, rfl⟩
 have p8 := p8.dp 1
 refine Goes.rn 10 [(11, .tuple #[.slice (Gp uaa) y13.1.length uac, .i y13.2]), (16, .slice (Gp uaa) y13.1.length uac), (17, .i y13.2), (3, .slice (Gp uaa) y13.1.length uac), (4, .i y13.2), (19, .slice (Gp (some b1)) 3 3), (20, .slice (Gp (some b4)) 3 3)] Jah ?_
 have f17 : Els (kSl (kInt .u64)) S8 w8 ([.slice (Gp (some b1)) 3 3, .slice (Gp (some b4)) 3 3] : List Value) [[1, 3, 5], [3, 4, 5]] := by exact (Els.cons (K := (kSl (kInt .u64))) (vs := [.slice (Gp (some b1)) 3 3]) (x := [1, 3, 5]) ⟨_, _, rfl, (f7.ext (((z5.trans z6).trans z7).trans z8))⟩ (Els.cons (K := (kSl (kInt .u64))) (vs := [.slice (Gp (some b4)) 3 3]) (x := [3, 4, 5]) ⟨_, _, rfl, (f8.ext ((z6.trans z7).trans z8))⟩ Els.nil))
 refine Op_.made (.buildSlice 38 2 #[(0, (.tmp 19)), (1, (.tmp 20))]) 21 38 (fun b => .slice (Gp (some b)) 2 2) 22 ([.slice (Gp (some b1)) 3 3, .slice (Gp (some b4)) 3 3] : List Value) p8 Goes.v (by kernel_rfl) ?_
 intro b16 w9 z9 p9
 have p9 : Hp nz wz S8 w9 (((some b16), .row 22 ([.slice (Gp (some b1)) 3 3, .slice (Gp (some b4)) 3 3] : List Value) (2 * (kSl (kInt .u64)).size) 0) :: (uaa, .row 35 uad (uac * (kInt .u64).size) 0) :: ((some b4), .row 35 ([.u 3, .u 4, .u 5] : List Value) (3 * (kInt .u64).size) (([.u 3, .u 4, .u 5] : List Value).length)) :: ((some b1), .row 35 ([.u 1, .u 3, .u 5] : List Value) (3 * (kInt .u64).size) (([.u 1, .u 3, .u 5] : List Value).length)) :: Lr) := p9
 obtain ⟨S10, z10, p10, f19⟩ := p9.freezeRd 0 rfl (f17.ext z9) (by decide)
 refine bind_some' h fun y20 e21 h => ?_
 refine Goes.cal (kc 20 [21] #[38]) 22 26 20 _ (W.zo [[1, 3, 5], [3, 4, 5]] y20 e21 (Gp (some b16)) 2 2 p10 f19 rfl) ?_
 rintro _ w11 ⟨S11, uaf, uag, uah, uai, rfl, z11, p11, uaj, rfl⟩
 have p11 := p11.dp 1
 refine Goes.rn 10 [(18, .tuple #[.slice (Gp uaf) y20.1.length uah, .i y20.2]), (23, .slice (Gp uaf) y20.1.length uah), (24, .i y20.2), (5, .slice (Gp uaf) y20.1.length uah), (6, .i y20.2), (26, .slice (Gp (some b1)) 3 3), (27, .slice (Gp (some b4)) 3 3)] Jaj ?_
 refine bind_some' h fun y23 e24 h => ?_
 refine Goes.cal (kc 10 [26, 27] #[22, 22]) 28 26 10 _ (W.z26 [1, 3, 5] [3, 4, 5] y23 e24 (Gp (some b1)) 3 3 (Gp (some b4)) 3 3 p11 (f7.ext ((((((z5.trans z6).trans z7).trans z8).trans z9).trans z10).trans z11)) rfl (f8.ext (((((z6.trans z7).trans z8).trans z9).trans z10).trans z11)) rfl) ?_
 rintro _ w12 ⟨S12, uak, ual, uam, uan, rfl, z12, p12, uao, rfl⟩
 have p12 := (p12.dp 3).dp 3
 refine Goes.rn 9 [(25, .tuple #[.slice (Gp uak) y23.1.length uam, .i y23.2]), (29, .slice (Gp uak) y23.1.length uam), (30, .i y23.2), (7, .slice (Gp uak) y23.1.length uam), (8, .i y23.2), (31, .slice (Gp uaa) y13.1.length uac)] Jal ?_
 have f27 : Els (kInt .u64) S12 w12 ([.u 3, .u 5] : List Value) [3, 5] := by exact (Els.cons (K := (kInt .u64)) (vs := [.u 3]) (x := 3) rfl (Els.cons (K := (kInt .u64)) (vs := [.u 5]) (x := 5) rfl Els.nil))
 refine Op_.made (.buildSlice 22 2 #[(0, (.const (.int .u64 3))), (1, (.const (.int .u64 5)))]) 32 22 (fun b => .slice (Gp (some b)) 2 2) 35 ([.u 3, .u 5] : List Value) p12 Goes.v (by kernel_rfl) ?_
 intro b26 w13 z13 p13
 have p13 : Hp nz wz S12 w13 (((some b26), .row 35 ([.u 3, .u 5] : List Value) (2 * (kInt .u64).size) 0) :: (uak, .row 35 uan (uam * (kInt .u64).size) 0) :: (uaf, .row 35 uai (uah * (kInt .u64).size) 0) :: (uaa, .row 35 uad (uac * (kInt .u64).size) 0) :: Lr) := p13
 obtain ⟨S14, z14, p14, f29⟩ := p13.freezeRd 3 rfl (uae.ext ((((z9.trans z10).trans z11).trans z12).trans z13)) (by decide)
 obtain ⟨S15, z15, p15, f30⟩ := p14.freezeRd 0 rfl (f27.ext (z13.trans z14)) (by decide)
 refine bind_some' h fun y31 e32 h => ?_
 refine Goes.cal (kc 11 [31, 32] #[22, 22]) 33 4 11 _ (W.z1a y13.1 [3, 5] y31 e32 (Gp uaa) y13.1.length uac (Gp (some b26)) 2 2 p15 (f29.ext z15) rfl f30 rfl) ?_
 rintro _ w16 ⟨S16, rfl, z16, p16⟩
 have p16 := (p16.dp 0).dp 2
 refine Goes.rn 1 [(34, .bool y31)] Jam ?_
 refine ite_some h (fun h33 h => ?_) (fun h33 h => ?_)
 ·
  rw [h33]
  refine Goes.rn 1 [(35, .slice (Gp uaf) y20.1.length uah)] Jan ?_
  have f35 : Els (kInt .u64) S16 w16 ([.u 1, .u 3, .u 4, .u 5] : List Value) [1, 3, 4, 5] := by exact (Els.cons (K := (kInt .u64)) (vs := [.u 1]) (x := 1) rfl (Els.cons (K := (kInt .u64)) (vs := [.u 3]) (x := 3) rfl (Els.cons (K := (kInt .u64)) (vs := [.u 4]) (x := 4) rfl (Els.cons (K := (kInt .u64)) (vs := [.u 5]) (x := 5) rfl Els.nil))))
  refine Op_.made (.buildSlice 22 4 #[(0, (.const (.int .u64 1))), (1, (.const (.int .u64 3))), (2, (.const (.int .u64 4))), (3, (.const (.int .u64 5)))]) 36 22 (fun b => .slice (Gp (some b)) 4 4) 35 ([.u 1, .u 3, .u 4, .u 5] : List Value) p16 Goes.v (by kernel_rfl) ?_
  intro b34 w17 z17 p17
  have p17 : Hp nz wz S16 w17 (((some b34), .row 35 ([.u 1, .u 3, .u 4, .u 5] : List Value) (4 * (kInt .u64).size) 0) :: (uak, .row 35 uan (uam * (kInt .u64).size) 0) :: (uaf, .row 35 uai (uah * (kInt .u64).size) 0) :: Lr) := p17
  obtain ⟨S18, z18, p18, f37⟩ := p17.freezeRd 2 rfl (uaj.ext (((((z12.trans z13).trans z14).trans z15).trans z16).trans z17)) (by decide)
  obtain ⟨S19, z19, p19, f38⟩ := p18.freezeRd 0 rfl (f35.ext (z17.trans z18)) (by decide)
  refine bind_some' h fun y39 e40 h => ?_
  refine Goes.cal (kc 11 [35, 36] #[22, 22]) 37 4 11 _ (W.z1a y20.1 [1, 3, 4, 5] y39 e40 (Gp uaf) y20.1.length uah (Gp (some b34)) 4 4 p19 (f37.ext z19) rfl f38 rfl) ?_
  rintro _ w20 ⟨S20, rfl, z20, p20⟩
  have p20 := (p20.dp 0).dp 1
  refine Goes.rn 2 [(38, .bool y39), (39, .bool y39)] Jao ?_
  refine ite_some h (fun h41 h => ?_) (fun h41 h => ?_)
  ·
   rw [h41]
   refine Goes.rn 1 [(40, .slice (Gp uak) y23.1.length uam)] Jap ?_
   have f43 : Els (kInt .u64) S20 w20 ([.u 1] : List Value) [1] := by exact (Els.cons (K := (kInt .u64)) (vs := [.u 1]) (x := 1) rfl Els.nil)
   refine Op_.made (.buildSlice 22 1 #[(0, (.const (.int .u64 1)))]) 41 22 (fun b => .slice (Gp (some b)) 1 1) 35 ([.u 1] : List Value) p20 Goes.v (by kernel_rfl) ?_
   intro b42 w21 z21 p21
   have p21 : Hp nz wz S20 w21 (((some b42), .row 35 ([.u 1] : List Value) (1 * (kInt .u64).size) 0) :: (uak, .row 35 uan (uam * (kInt .u64).size) 0) :: Lr) := p21
   obtain ⟨S22, z22, p22, f45⟩ := p21.freezeRd 1 rfl (uao.ext ((((((((z13.trans z14).trans z15).trans z16).trans z17).trans z18).trans z19).trans z20).trans z21)) (by decide)
   obtain ⟨S23, z23, p23, f46⟩ := p22.freezeRd 0 rfl (f43.ext (z21.trans z22)) (by decide)
   refine bind_some' h fun y47 e48 h => ?_
   refine Goes.cal (kc 11 [40, 41] #[22, 22]) 42 4 11 _ (W.z1a y23.1 [1] y47 e48 (Gp uak) y23.1.length uam (Gp (some b42)) 1 1 p23 (f45.ext z23) rfl f46 rfl) ?_
   rintro _ w24 ⟨S24, rfl, z24, p24⟩
   have p24 := (p24.dp 0).dp 0
   refine Goes.rn 2 [(43, .bool y47), (44, .bool y47)] Jaq ?_
   refine ite_some h (fun h49 h => ?_) (fun h49 h => ?_)
   ·
    rw [h49]
    refine Goes.rn 4 [(45, .i y13.2), (46, .bool (decide (y13.2 = 0))), (47, .bool (decide (y13.2 = 0))), (48, .bool (decide (y13.2 = 0)))] Jar ?_
    refine ite_some h (fun h50 h => ?_) (fun h50 h => ?_)
    ·
     rw [decide_eq_true h50]
     refine Goes.rn 4 [(49, .i y20.2), (50, .bool (decide (y20.2 = 0))), (51, .bool (decide (y20.2 = 0))), (52, .bool (decide (y20.2 = 0)))] Jas ?_
     refine ite_some h (fun h51 h => ?_) (fun h51 h => ?_)
     ·
      rw [decide_eq_true h51]
      refine Goes.rn 5 [(53, .i y23.2), (54, .bool (decide (y23.2 = 0))), (55, .bool (decide (y23.2 = 0))), (0, .bool (decide (y23.2 = 0)))] Jak ?_
      obtain rfl := Option.some.inj h
      exact Goes.rt Try.f8 (.bool (decide (y23.2 = 0))) ⟨S24, rfl, ((((((((((((((((((((((((Ext.refl S0 w0).trans z2).trans z3).trans z4).trans z5).trans z6).trans z7).trans z8).trans z9).trans z10).trans z11).trans z12).trans z13).trans z14).trans z15).trans z16).trans z17).trans z18).trans z19).trans z20).trans z21).trans z22).trans z23).trans z24), p24⟩
     ·
      rw [decide_eq_false h51]
      refine Goes.rn 5 [(53, undef), (54, undef), (55, .bool false), (0, .bool false)] Jak ?_
      obtain rfl := Option.some.inj h
      exact Goes.rt Try.f8 (.bool false) ⟨S24, rfl, ((((((((((((((((((((((((Ext.refl S0 w0).trans z2).trans z3).trans z4).trans z5).trans z6).trans z7).trans z8).trans z9).trans z10).trans z11).trans z12).trans z13).trans z14).trans z15).trans z16).trans z17).trans z18).trans z19).trans z20).trans z21).trans z22).trans z23).trans z24), p24⟩
    ·
     rw [decide_eq_false h50]
     refine Goes.rn 9 [(49, undef), (50, undef), (51, .bool false), (52, .bool false), (53, undef), (54, undef), (55, .bool false), (0, .bool false)] Jak ?_
     obtain rfl := Option.some.inj h
     exact Goes.rt Try.f8 (.bool false) ⟨S24, rfl, ((((((((((((((((((((((((Ext.refl S0 w0).trans z2).trans z3).trans z4).trans z5).trans z6).trans z7).trans z8).trans z9).trans z10).trans z11).trans z12).trans z13).trans z14).trans z15).trans z16).trans z17).trans z18).trans z19).trans z20).trans z21).trans z22).trans z23).trans z24), p24⟩
   ·
    have uap : y47 = false := by simpa using h49
    rw [uap]
    refine Goes.rn 13 [(45, undef), (46, undef), (47, .bool false), (48, .bool false), (49, undef), (50, undef), (51, .bool false), (52, .bool false), (53, undef), (54, undef), (55, .bool false), (0, .bool false)] Jak ?_
    obtain rfl := Option.some.inj h
    exact Goes.rt Try.f8 (.bool false) ⟨S24, rfl, ((((((((((((((((((((((((Ext.refl S0 w0).trans z2).trans z3).trans z4).trans z5).trans z6).trans z7).trans z8).trans z9).trans z10).trans z11).trans z12).trans z13).trans z14).trans z15).trans z16).trans z17).trans z18).trans z19).trans z20).trans z21).trans z22).trans z23).trans z24), p24⟩
  ·
   have uaq : y39 = false := by simpa using h41
   rw [uaq]
   refine Goes.rn 14 [(40, undef), (41, undef), (42, undef), (43, .bool false), (44, .bool false), (45, undef), (46, undef), (47, .bool false), (48, .bool false), (49, undef), (50, undef), (51, .bool false), (52, .bool false), (53, undef)] Jat ?_
   refine Goes.rn 4 [(54, undef), (55, .bool false), (0, .bool false)] Jak ?_
   obtain rfl := Option.some.inj h
   have p20 := p20.dp 0
   exact Goes.rt Try.f8 (.bool false) ⟨S20, rfl, ((((((((((((((((((((Ext.refl S0 w0).trans z2).trans z3).trans z4).trans z5).trans z6).trans z7).trans z8).trans z9).trans z10).trans z11).trans z12).trans z13).trans z14).trans z15).trans z16).trans z17).trans z18).trans z19).trans z20), p20⟩
 ·
  have uar : y31 = false := by simpa using h33
  rw [uar]
  refine Goes.rn 14 [(35, undef), (36, undef), (37, undef), (38, .bool false), (39, .bool false), (40, undef), (41, undef), (42, undef), (43, .bool false), (44, .bool false), (45, undef), (46, undef), (47, .bool false), (48, .bool false)] Jar ?_
  refine Goes.rn 9 [(49, undef), (50, undef), (51, .bool false), (52, .bool false), (53, undef), (54, undef), (55, .bool false), (0, .bool false)] Jak ?_
  obtain rfl := Option.some.inj h
  have p16 := (p16.dp 0).dp 0
  exact Goes.rt Try.f8 (.bool false) ⟨S16, rfl, ((((((((((((((((Ext.refl S0 w0).trans z2).trans z3).trans z4).trans z5).trans z6).trans z7).trans z8).trans z9).trans z10).trans z11).trans z12).trans z13).trans z14).trans z15).trans z16), p16⟩

end

end Go.Gx
