import Derived.Test.YtdccklkdakfnaaaGreatWGfb
set_option linter.unusedVariables false
set_option linter.unusedSimpArgs false
set_option maxRecDepth 100000
set_option maxHeartbeats 4000000
namespace Go.Gx
open Go.RowKit Go.Proofs
variable (nz : Nat) (wz : World) (S0 : Fz) (w0 : World) (Lr : List Ent)
noncomputable section
def Qeq := Yq 11110100 B33
def Jj5 := Zl Qeq (Zb 0 (Ys 11111 B33 []))
def Jj6 := Zc Qeq Jj5
def Jj8 := Zb 1 (Ys 1111010011 B33 Jj5)
def Qet := Yq 1111010010010100 B33
def Jjb := Zl Qet (Zb 2 (Ys 1111010010011 B33 Jj8))
def Jjc := Zc Qet Jjb
def Jje := Zb 3 (Ys 111101001001010011 B33 Jjb)
def Jjl := Ys 111101001001010001 B33 (Ys 11110100100101001 B33 Jjb)
def Qf6 := Yq 1111010010010100100110 B33
def Jjt := Ys 11110100100111 B33 Jj8
def Qf8 := Yq 11110100100110 B33
def Post.z43 (gx1 : Nat) (ufe : Option Nat) (u41 : Nat) (u42 : Nat) (uff : List Value) (u43 : List T165) (r : (List Int) × Int) (v : Value) (w' : World) : Prop :=
 ∃ S' uay uaz ub0 ub1, v = .tuple #[.slice (Gp uay) uaz ub0, .i r.2] ∧ Ext S0 w0 S' w' ∧ Hp nz wz S' w' ((uay, .row 22 ub1 (ub0 * kU.size) 0) :: (some gx1, .row 67 [.slice (Gp ufe) u41 u42] 1 0) :: (ufe, .row 166 uff (u42 * kT165.size) 0) :: Lr) ∧ Els kU S' w' ub1 r.1 ∧ r.1.length = uaz
def L.z44 (gx1 : Nat) (ufe : Option Nat) (u41 : Nat) (u42 : Nat) (uff : List Value) : (List Int) × T38 × (List Int) × Int × (List T165) → ((List Int) × Int) → Prop := fun ⟨x2, x3v, x8, x9, u43⟩ r => ∀ S1 w1, Ext S0 w0 S1 w1 → ∀ Ax2 nx2 cx2 gx3 u9 ua ub Gx8 nx8 cx8 ufg (_ : Hp nz wz S1 w1 ((some gx3, .row 39 (wT29 x3v.Op x3v.Text u9 ua ub) 3 0) :: (Gx8, .row 22 ufg (cx8 * kU.size) 0) :: (some gx1, .row 67 [.slice (Gp ufe) u41 u42] 1 0) :: (ufe, .row 166 uff (u42 * kT165.size) 0) :: Lr)) (_ : Rd kU S1 w1 Ax2 cx2 x2) (_ : x2.length = nx2) (_ : Rd kT38 S1 w1 u9 ub x3v.L) (_ : x3v.L.length = ua) (_ : Els kU S1 w1 ufg x8) (_ : x8.length = nx8) (_ : Els kT165 S1 w1 uff u43) (_ : u43.length = u41) (junk : Nat → Value),
 Goes Tg (base 33) Jj6 ⟨lfr 78 [(1, (pt gx1 0)), (2, .slice Ax2 nx2 cx2), (3, (pt gx3 0)), (8, .slice (Gp Gx8) nx8 cx8), (9, .i x9)] junk, []⟩ w1 (Done Tg 33 (Rets (Post.z43 nz wz S0 w0 Lr gx1 ufe u41 u42 uff u43 r)))
def L.z45 (gx1 : Nat) (ufe : Option Nat) (u41 : Nat) (u42 : Nat) (uff : List Value) : (List Int) × T38 × (List Int) × Int × (List ByteArray) × Int × (List T165) → ((List Int) × Int) → Prop := fun ⟨x2, x3v, x8, x9, x10, x11, u43⟩ r => ∀ S1 w1, Ext S0 w0 S1 w1 → ∀ Ax2 nx2 cx2 gx3 u9 ua ub Gx8 nx8 cx8 ufg ufh ufi ufj ufk (_ : Hp nz wz S1 w1 ((some gx3, .row 39 (wT29 x3v.Op x3v.Text u9 ua ub) 3 0) :: (Gx8, .row 22 ufg (cx8 * kU.size) 0) :: (ufh, .row 9 ufk (ufj * kStr.size) 0) :: (some gx1, .row 67 [.slice (Gp ufe) u41 u42] 1 0) :: (ufe, .row 166 uff (u42 * kT165.size) 0) :: Lr)) (_ : Rd kU S1 w1 Ax2 cx2 x2) (_ : x2.length = nx2) (_ : Rd kT38 S1 w1 u9 ub x3v.L) (_ : x3v.L.length = ua) (_ : Els kU S1 w1 ufg x8) (_ : x8.length = nx8) (_ : Els kStr S1 w1 ufk x10) (_ : x10.length = ufi) (_ : Els kT165 S1 w1 uff u43) (_ : u43.length = u41) (junk : Nat → Value),
 Goes Tg (base 33) Jjc ⟨lfr 78 [(1, (pt gx1 0)), (2, .slice Ax2 nx2 cx2), (3, (pt gx3 0)), (8, .slice (Gp Gx8) nx8 cx8), (9, .i x9), (10, .slice (Gp ufh) ufi ufj), (11, .i x11)] junk, []⟩ w1 (Done Tg 33 (Rets (Post.z43 nz wz S0 w0 Lr gx1 ufe u41 u42 uff u43 r)))
def L.z46 (gx1 : Nat) (ufe : Option Nat) (u41 : Nat) (u42 : Nat) (uff : List Value) : (List Int) × T38 × (List Int) × Int × (List ByteArray) × Int × (List T165) → ((List Int) × Int) → Prop := fun ⟨x2, x3v, x8, x9, x10, x11, u43⟩ r => ∀ S1 w1, Ext S0 w0 S1 w1 → ∀ Ax2 nx2 cx2 gx3 u9 ua ub Gx8 nx8 cx8 ufg ufh ufi ufj ufk (_ : Hp nz wz S1 w1 ((some gx3, .row 39 (wT29 x3v.Op x3v.Text u9 ua ub) 3 0) :: (Gx8, .row 22 ufg (cx8 * kU.size) 0) :: (ufh, .row 9 ufk (ufj * kStr.size) 0) :: (some gx1, .row 67 [.slice (Gp ufe) u41 u42] 1 0) :: (ufe, .row 166 uff (u42 * kT165.size) 0) :: Lr)) (_ : Rd kU S1 w1 Ax2 cx2 x2) (_ : x2.length = nx2) (_ : Rd kT38 S1 w1 u9 ub x3v.L) (_ : x3v.L.length = ua) (_ : Els kU S1 w1 ufg x8) (_ : x8.length = nx8) (_ : Els kStr S1 w1 ufk x10) (_ : x10.length = ufi) (_ : Els kT165 S1 w1 uff u43) (_ : u43.length = u41) (junk : Nat → Value),
 Goes Tg (base 33) Jje ⟨lfr 78 [(1, (pt gx1 0)), (2, .slice Ax2 nx2 cx2), (3, (pt gx3 0)), (8, .slice (Gp Gx8) nx8 cx8), (9, .i x9), (10, .slice (Gp ufh) ufi ufj), (11, .i x11)] junk, []⟩ w1 (Done Tg 33 (Rets (Post.z43 nz wz S0 w0 Lr gx1 ufe u41 u42 uff u43 r)))
def L.z47 (gx1 : Nat) (ufe : Option Nat) (u41 : Nat) (u42 : Nat) (uff : List Value) : (List Int) × T38 × (List Int) × Int × (List T165) → ((List Int) × Int) → Prop := fun ⟨x2, x3v, x8, x9, u43⟩ r => ∀ S1 w1, Ext S0 w0 S1 w1 → ∀ Ax2 nx2 cx2 gx3 u9 ua ub Gx8 nx8 cx8 ufg (_ : Hp nz wz S1 w1 ((some gx3, .row 39 (wT29 x3v.Op x3v.Text u9 ua ub) 3 0) :: (Gx8, .row 22 ufg (cx8 * kU.size) 0) :: (some gx1, .row 67 [.slice (Gp ufe) u41 u42] 1 0) :: (ufe, .row 166 uff (u42 * kT165.size) 0) :: Lr)) (_ : Rd kU S1 w1 Ax2 cx2 x2) (_ : x2.length = nx2) (_ : Rd kT38 S1 w1 u9 ub x3v.L) (_ : x3v.L.length = ua) (_ : Els kU S1 w1 ufg x8) (_ : x8.length = nx8) (_ : Els kT165 S1 w1 uff u43) (_ : u43.length = u41) (junk : Nat → Value),
 Goes Tg (base 33) Jj8 ⟨lfr 78 [(1, (pt gx1 0)), (2, .slice Ax2 nx2 cx2), (3, (pt gx3 0)), (8, .slice (Gp Gx8) nx8 cx8), (9, .i x9)] junk, []⟩ w1 (Done Tg 33 (Rets (Post.z43 nz wz S0 w0 Lr gx1 ufe u41 u42 uff u43 r)))
theorem W.z48 {nz wz S0 w0 Lr} (gx1 : Nat) (ufe : Option Nat) (u41 : Nat) (u42 : Nat) (uff : List Value) : (∀ a r, M.a2c a = some r → (L.z44 nz wz S0 w0 Lr gx1 ufe u41 u42 uff) a r) ∧ (∀ a r, M.a2d a = some r → (L.z45 nz wz S0 w0 Lr gx1 ufe u41 u42 uff) a r) ∧ (∀ a r, M.a55 a = some r → (L.z47 nz wz S0 w0 Lr gx1 ufe u41 u42 uff) a r) ∧ (∀ a r, M.a54 a = some r → (L.z46 nz wz S0 w0 Lr gx1 ufe u41 u42 uff) a r) := by
 refine M.a2c.mutual_partial_correctness (L.z44 nz wz S0 w0 Lr gx1 ufe u41 u42 uff) (L.z45 nz wz S0 w0 Lr gx1 ufe u41 u42 uff) (L.z47 nz wz S0 w0 Lr gx1 ufe u41 u42 uff) (L.z46 nz wz S0 w0 Lr gx1 ufe u41 u42 uff) ?_ ?_ ?_ ?_
 ·
  intro ufl ufm ⟨x2, x3v, x8, x9, u43⟩ r h S1 w1 hx Ax2 nx2 cx2 gx3 u9 ua ub Gx8 nx8 cx8 ufg p1 fx2 lx2 uq ur fx8 lx8 fs6 ls6 junk
  try dsimp only at h
  subst lx2
  subst ur
  subst lx8
  subst ls6
  refine Gn 8 [(23, .i x9), (24, Sl Ax2 x2 cx2), (25, .i (x2.length : Int)), (26, .bool (decide (x9 < (x2.length : Int))))] (Ys 1111010001 B33 (Ys 111101001 B33 Jj5)) ?_
  refine Gi h (fun h18 h => ?_) fun h18 h => ?_
  ·
   rw [dt h18]
   refine Gn 6 [] (Yt 111101001000 B33 [0, 1] (Ys 111101001001 B33 Jj8)) ?_
   have f20 : Els kStr S1 w1 ([] : List Value) ([] : List ByteArray) := by exact Els.nil
   refine Om (.buildSlice 43 0 #[]) 29 43 (fun b => .slice (Gp (some b)) 0 0) 9 ([] : List Value) (0 * kStr.size) p1 Xa fun b19 w6 z6 p6 => ?_
   refine Gn 9 [(10, .slice (Gp (some b19)) 0 0), (11, .i 0)] Jjc ?_
   have p6 := ((((p6.fr 4).fr 4).fr 2).fr 4).fr 4
   exact Gj 78 [(1, (pt gx1 0)), (2, Sl Ax2 x2 cx2), (3, (pt gx3 0)), (8, Sl (Gp Gx8) x8 cx8), (9, .i x9), (10, .slice (Gp (some b19)) 0 0), (11, .i 0)] (ufm _ _ h _ _ (hx.t z6) _ _ _ _ _ _ _ _ _ _ _ (some b19) 0 0 _ p6 (fx2.ext z6) rfl (uq.ext z6) rfl (fx8.ext z6) rfl (f20.ext z6) rfl (fs6.ext z6) rfl)
  ·
   rw [df h18]
   refine Gm 8 [([77, 6], Sl (Gp Gx8) x8 cx8), ([7], .i 0)] (Ys 111111 B33 []) ?_
   obtain rfl := sj h
   have p1 := p1.dp 0
   exact Xd Tryz.f33 (.tuple #[Sl (Gp Gx8) x8 cx8, .i 0]) ⟨_, _, _, _, _, rfl, hx, p1, fx8, rfl⟩
 ·
  intro ufn ufo ufp ufq ⟨x2, x3v, x8, x9, x10, x11, u43⟩ r h S1 w1 hx Ax2 nx2 cx2 gx3 u9 ua ub Gx8 nx8 cx8 ufg ufh ufi ufj ufk p1 fx2 lx2 uq ur fx8 lx8 ufr ufs fs8 ls8 junk
  try dsimp only at h
  subst lx2
  subst ur
  subst lx8
  subst ufs
  subst ls8
  refine Gm 7 [([30], .i x11), ([31, 32, 33], (pt gx1 0))] (Yt 111101001001010000 B33 [4, 5, 6] Jjl) ?_
  refine Xc 65 33 34 65 ⟨gx1, 0, none⟩ (Sl (Gp ufe) u43 u42) (p1.c 3 0) ?_
  refine Gn 3 [(35, .i (u43.length : Int)), (36, .bool (decide (x11 < (u43.length : Int))))] Jjl ?_
  refine Gi h (fun h25 h => ?_) fun h25 h => ?_
  ·
   rw [dt h25]
   refine Gn 5 [] (Ys 11110100100101001000 B33 (Ys 11110100100101001001 B33 Jje)) ?_
   have z7 : Ext S1 w1 S1 (w1).drew := Xk
   have p7 := p1.draw
   refine Gd [12] (Fc S1 (w1).drew ([(⟨gx1, 0, none⟩, Sl (Gp ufe) u43 u42)] ++ (rowCellsO ufe uff ++ []))) 11 18 ?_
   generalize (w1).drew = w7 at z7 p7 ⊢
   refine Xb 0 (.move 1) 40 64 (pt gx1 0) (p7.rp 3 0 4 rfl) ?_
   refine Xb 1 (.nilCheck 40) 41 0 (pt gx1 0) (p7.rp 3 0 4 rfl) ?_
   refine Xb 2 (.fieldAddr 67 41 0) 42 0 (pt gx1 0) (p7.rp 3 0 4 rfl) ?_
   refine Al 3 65 42 43 65 ⟨gx1, 0, none⟩ (Sl (Gp ufe) u43 u42) (p7.rp 3 0 4 rfl) (fun _ h => h.2.left.at_ 0 rfl) ?_
   refine Xb 4 (.move 11) 44 3 (.i x11) (p7.rp 3 0 4 rfl) ?_
   refine Gg h fun g26 h => ?_
   refine AnyG.ixO_n (i := 5) 65 43 44 45 0 166 .i64 x11 4 u43.length u42 (gi u43 x11) rfl rfl p7 rfl (fs8.ext z7) (by kernel_rfl) (by kernel_rfl) (p7.rp 3 0 4 rfl) (by kernel_rfl) (by kernel_rfl) (by kernel_rfl) (by kernel_rfl) (by decide) g26 h25 ?_
   rintro b27 _ rfl q29 f34 f28
   obtain ⟨_, _, rfl, rfl, ⟨A30, c31, rfl, f32⟩⟩ := q29
   refine Xb 6 (.fieldAddr 166 45 1) 46 0 (.pointer (some (Addr.add ⟨b27, (x11 : Int).toNat * kT165.size, none⟩ 1))) (p7.rp 3 0 4 rfl) ?_
   refine Al 7 60 46 47 60 (Addr.add ⟨b27, (x11 : Int).toNat * kT165.size, none⟩ 1) (.slice A30 (((gi u43 x11).L).length) c31) (p7.rp 3 0 4 rfl) (fun _ h => hc_part (us := [.string ((gi u43 x11).Key)]) (vs := [.slice A30 (((gi u43 x11).L).length) c31]) (ws := []) (h.2.right.left.rowsAt f34) 0 _ rfl) ?_
   refine Xb 8 (.move 2) 48 60 (Sl Ax2 x2 cx2) (p7.rp 3 0 4 rfl) ?_
   refine Xb 9 (.move 9) 49 3 (.i x9) (p7.rp 3 0 4 rfl) ?_
   refine Gg h fun g35 h => ?_
   refine Gg h fun g36 h => ?_
   refine Xn (i := 10) 60 48 49 50 0 22 .i64 x9 (gi x2 x9) rfl rfl (fx2.ext z7) (by kernel_rfl) (by kernel_rfl) (p7.rp 3 0 4 rfl) (by kernel_rfl) (by kernel_rfl) (by kernel_rfl) (by kernel_rfl) g35 g36 fun a37 _ f38 q39 => ?_
   obtain rfl := q39
   refine Al 11 22 50 51 22 a37 (.u (gi x2 x9)) (p7.rp 3 0 4 rfl) (fun _ h => f38.fc h 0 _ rfl) ?_
   refine Gb h fun y40 e41 h => ?_
   refine Oc (kc 86 [47, 51] #[60, 22]) 52 56 86 #[.slice A30 (((gi u43 x11).L).length) c31, .u (gi x2 x9)] (Ac 12) (W.z42 ((gi u43 x11).L) (gi x2 x9) y40 e41 _ _ _ p7 f32 rfl) ?_
   rintro _ w8 ⟨S8, rfl, z8, p8⟩
   refine Xi [] (Fc S8 w8 []) (by decide) ?_
   refine Xb 13 (.move 52) 39 56 (.tuple #[.bool y40.1, .i y40.2]) Fc0 ?_
   refine Xb 14 (.extract 39 0) 53 4 (.bool y40.1) Fc0 ?_
   refine Xb 15 (.extract 39 1) 54 34 (.i y40.2) Fc0 ?_
   refine Xb 16 (.assign 53) 12 4 (.bool y40.1) Fc0 ?_
   refine Xb 17 (.assign 54) 13 34 (.i y40.2) Fc0 ?_
   refine Ad ?_
   refine Gn 4 [(55, .bool y40.1)] (Ys 111101001001010010011 B33 Jje) ?_
   refine Gi h (fun h42 h => ?_) fun h42 h => ?_
   ·
    rw [h42]
    refine Gm 6 [([56], Sl (Gp ufh) x10 ufj), ([57, 58, 59], (pt gx1 0))] (Zr Qf6 [4, 5, 6, 7, 8, 9, 10, 11] Jje) ?_
    refine Xc 65 59 60 65 ⟨gx1, 0, none⟩ (.slice (Gp (some b27)) u43.length u42) (p8.c 3 0) ?_
    refine Gn 1 [(61, .i x11)] (Zr Qf6 [6, 7, 8, 9, 10, 11] Jje) ?_
    refine X0 65 60 61 62 0 166 .i64 x11 4 u43.length u42 (gi u43 x11) rfl rfl p8 rfl (fs8.ext (z7.t z8)) Xa (by kernel_rfl) (by kernel_rfl) (by kernel_rfl) (by kernel_rfl) (by decide) g26 h25 ?_
    rintro b43 _ e49 q45 f44
    injection e49 with uft; subst uft
    obtain ⟨_, _, rfl, rfl, ⟨A46, c47, rfl, f48⟩⟩ := q45
    refine Gn 1 [(63, .pointer (some (Addr.add ⟨b27, (x11 : Int).toNat * kT165.size, none⟩ 0)))] (Zr Qf6 [8, 9, 10, 11] Jje) ?_
    refine Xc 9 63 64 9 (Addr.add ⟨b27, (x11 : Int).toNat * kT165.size, none⟩ 0) (.string ((gi u43 x11).Key)) ((hc_part (us := []) (vs := [.string ((gi u43 x11).Key)]) (ws := [.slice A46 (((gi u43 x11).L).length) c47]) f44) 0 _ rfl) ?_
    have f51 : Els kStr S8 w8 ([.string ((gi u43 x11).Key)] : List Value) [(gi u43 x11).Key] := by exact (Els.cons (K := kStr) (vs := [.string ((gi u43 x11).Key)]) (x := (gi u43 x11).Key) rfl Els.nil)
    refine Om (.buildSlice 43 1 #[(0, 64)]) 65 43 (fun b => .slice (Gp (some b)) 1 1) 9 ([.string ((gi u43 x11).Key)] : List Value) (1 * kStr.size) p8 Xa fun b50 w9 z9 p9 => ?_
    refine Gg h fun g56 h => ?_
    refine On (K := kStr) 43 56 65 66 43 9 3 (.string ⟨#[]⟩) 16 x10.length ufj 1 x10 [(gi u43 x11).Key] (x10 ++ [(gi u43 x11).Key]) (Gp (some b50)) 1 rfl rfl rfl p9 rfl (ufr.ext ((z7.t z8).t z9)) Xa (f51.ext z9) (src_own p9 (q := 0) rfl) g56 fun w10 G57 c58 ufu z10 p10 f60 => ?_
    refine Gn 2 [(10, .slice (Gp G57) ((x10 ++ [(gi u43 x11).Key]).length) c58)] Jje ?_
    have p10 := p10.dp 0
    exact Gj 78 [(1, (pt gx1 0)), (2, Sl Ax2 x2 cx2), (3, (pt gx3 0)), (8, Sl (Gp Gx8) x8 cx8), (9, .i x9), (10, .slice (Gp G57) ((x10 ++ [(gi u43 x11).Key]).length) c58), (11, .i x11)] (ufq _ _ h _ _ ((((hx.t z7).t z8).t z9).t z10) _ _ _ _ _ _ _ _ _ _ _ _ _ _ _ p10 (fx2.ext (((z7.t z8).t z9).t z10)) rfl (uq.ext (((z7.t z8).t z9).t z10)) rfl (fx8.ext (((z7.t z8).t z9).t z10)) rfl f60 rfl (fs8.ext (((z7.t z8).t z9).t z10)) rfl)
   ·
    rw [bf h42]
    refine Gn 2 [] Jje ?_
    exact Gj 78 [(1, (pt gx1 0)), (2, Sl Ax2 x2 cx2), (3, (pt gx3 0)), (8, Sl (Gp Gx8) x8 cx8), (9, .i x9), (10, Sl (Gp ufh) x10 ufj), (11, .i x11)] (ufq _ _ h _ _ ((hx.t z7).t z8) _ _ _ _ _ _ _ _ _ _ _ _ _ _ _ p8 (fx2.ext (z7.t z8)) rfl (uq.ext (z7.t z8)) rfl (fx8.ext (z7.t z8)) rfl (ufr.ext (z7.t z8)) rfl (fs8.ext (z7.t z8)) rfl)
  ·
   rw [df h25]
   refine Gn 4 [] (Zr Qf8 [0, 1, 2] Jjt) ?_
   refine Xg 39 3 67 39 ⟨gx3, 0, none⟩ (wT29 x3v.Op x3v.Text u9 x3v.L.length ub) (p1.pa 0 0) ?_
   refine Gn 1 [(68, Sl (Gp ufh) x10 ufj)] (Zr Qf8 [2] Jjt) ?_
   obtain ⟨S11, z11, p11, f64⟩ := p1.freezeRd 2 rfl ufr (by decide)
   refine Gb h fun y65 e66 h => ?_
   refine Gc (kc 75 [67, 68] #[39, 43]) 69 4 75 _ (W.z1y (x3v, x10) y65 e66 _ _ _ _ _ _ p11 (uq.ext z11) rfl f64 rfl) ?_
   rintro _ w12 ⟨S12, rfl, z12, p12⟩
   have p12 := p12.dp 2
   refine Gn 1 [] Jjt ?_
   refine Gi h (fun h67 h => ?_) fun h67 h => ?_
   ·
    rw [h67]
    refine Gn 5 [(70, Sl (Gp Gx8) x8 cx8), (71, Sl Ax2 x2 cx2), (72, .i x9)] (Yt 111101001001110 B33 [3, 4, 5, 6, 7] Jj8) ?_
    refine Gg h fun g68 h => ?_
    refine Gg h fun g69 h => ?_
    refine Oi 60 71 72 73 0 22 .i64 x9 (gi x2 x9) rfl rfl (fx2.ext (z11.t z12)) Xa g68 g69 fun a70 _ f71 q72 => ?_
    obtain rfl := q72
    refine Xc 22 73 74 22 a70 (.u (gi x2 x9)) (f71.cell 0 _ rfl) ?_
    have f74 : Els kU S12 w12 ([.u (gi x2 x9)] : List Value) [gi x2 x9] := by exact (Els.cons (K := kU) (vs := [.u (gi x2 x9)]) (x := gi x2 x9) rfl Els.nil)
    refine Om (.buildSlice 60 1 #[(0, 74)]) 75 60 (fun b => .slice (Gp (some b)) 1 1) 22 ([.u (gi x2 x9)] : List Value) (1 * kU.size) p12 Xa fun b73 w13 z13 p13 => ?_
    refine Gg h fun g79 h => ?_
    refine On (K := kU) 60 70 75 76 60 22 2 (.u 0) 8 x8.length cx8 1 x8 [gi x2 x9] (x8 ++ [gi x2 x9]) (Gp (some b73)) 1 rfl rfl rfl p13 rfl (fx8.ext ((z11.t z12).t z13)) Xa (f74.ext z13) (src_own p13 (q := 0) rfl) g79 fun w14 G80 c81 ufw z14 p14 f83 => ?_
    refine Gn 2 [(8, .slice (Gp G80) ((x8 ++ [gi x2 x9]).length) c81)] Jj8 ?_
    have p14 := p14.dp 0
    exact Gj 78 [(1, (pt gx1 0)), (2, Sl Ax2 x2 cx2), (3, (pt gx3 0)), (8, .slice (Gp G80) ((x8 ++ [gi x2 x9]).length) c81), (9, .i x9)] (ufp _ _ h _ _ ((((hx.t z11).t z12).t z13).t z14) _ _ _ _ _ _ _ _ _ _ _ p14 (fx2.ext (((z11.t z12).t z13).t z14)) rfl (uq.ext (((z11.t z12).t z13).t z14)) rfl f83 rfl (fs8.ext (((z11.t z12).t z13).t z14)) rfl)
   ·
    rw [bf h67]
    refine Gn 2 [] Jj8 ?_
    exact Gj 78 [(1, (pt gx1 0)), (2, Sl Ax2 x2 cx2), (3, (pt gx3 0)), (8, Sl (Gp Gx8) x8 cx8), (9, .i x9)] (ufp _ _ h _ _ ((hx.t z11).t z12) _ _ _ _ _ _ _ _ _ _ _ p12 (fx2.ext (z11.t z12)) rfl (uq.ext (z11.t z12)) rfl (fx8.ext (z11.t z12)) rfl (fs8.ext (z11.t z12)) rfl)
 ·
  intro ufy ufz ⟨x2, x3v, x8, x9, u43⟩ r h S1 w1 hx Ax2 nx2 cx2 gx3 u9 ua ub Gx8 nx8 cx8 ufg p1 fx2 lx2 uq ur fx8 lx8 fs6 ls6 junk
  try dsimp only at h
  subst lx2
  subst ur
  subst lx8
  subst ls6
  refine Gm 7 [([27], .i x9), ([28, 9], .i (wr .i64 (x9 + 1)))] Jj6 ?_
  exact Gj 78 [(1, (pt gx1 0)), (2, Sl Ax2 x2 cx2), (3, (pt gx3 0)), (8, Sl (Gp Gx8) x8 cx8), (9, .i (wr .i64 (x9 + 1)))] (ufz _ _ h _ _ hx _ _ _ _ _ _ _ _ _ _ _ p1 fx2 rfl uq rfl fx8 rfl fs6 rfl)
 ·
  intro ufl ufm ⟨x2, x3v, x8, x9, x10, x11, u43⟩ r h S1 w1 hx Ax2 nx2 cx2 gx3 u9 ua ub Gx8 nx8 cx8 ufg ufh ufi ufj ufk p1 fx2 lx2 uq ur fx8 lx8 ufr ufs fs8 ls8 junk
  try dsimp only at h
  subst lx2
  subst ur
  subst lx8
  subst ufs
  subst ls8
  refine Gm 7 [([37], .i x11), ([38, 11], .i (wr .i64 (x11 + 1)))] Jjc ?_
  exact Gj 78 [(1, (pt gx1 0)), (2, Sl Ax2 x2 cx2), (3, (pt gx3 0)), (8, Sl (Gp Gx8) x8 cx8), (9, .i x9), (10, Sl (Gp ufh) x10 ufj), (11, .i (wr .i64 (x11 + 1)))] (ufm _ _ h _ _ hx _ _ _ _ _ _ _ _ _ _ _ _ _ _ _ p1 fx2 rfl uq rfl fx8 rfl ufr rfl fs8 rfl)
theorem W.z44 {nz wz S0 w0 Lr} (gx1 : Nat) (ufe : Option Nat) (u41 : Nat) (u42 : Nat) (uff : List Value) : ∀ a r, M.a2c a = some r → (L.z44 nz wz S0 w0 Lr gx1 ufe u41 u42 uff) a r := (W.z48 gx1 ufe u41 u42 uff).1
theorem W.z45 {nz wz S0 w0 Lr} (gx1 : Nat) (ufe : Option Nat) (u41 : Nat) (u42 : Nat) (uff : List Value) : ∀ a r, M.a2d a = some r → (L.z45 nz wz S0 w0 Lr gx1 ufe u41 u42 uff) a r := (W.z48 gx1 ufe u41 u42 uff).2.1
theorem W.z47 {nz wz S0 w0 Lr} (gx1 : Nat) (ufe : Option Nat) (u41 : Nat) (u42 : Nat) (uff : List Value) : ∀ a r, M.a55 a = some r → (L.z47 nz wz S0 w0 Lr gx1 ufe u41 u42 uff) a r := (W.z48 gx1 ufe u41 u42 uff).2.2.1
theorem W.z46 {nz wz S0 w0 Lr} (gx1 : Nat) (ufe : Option Nat) (u41 : Nat) (u42 : Nat) (uff : List Value) : ∀ a r, M.a54 a = some r → (L.z46 nz wz S0 w0 Lr gx1 ufe u41 u42 uff) a r := (W.z48 gx1 ufe u41 u42 uff).2.2.2
def Jjx := Ys 111 B33 []
def Jjy := Ys 1101 B33 Jjx
def L.z49 (gx1 : Nat) (ufe : Option Nat) (u41 : Nat) (u42 : Nat) (uff : List Value) : (List Int) × T38 × Bool × (List T165) → ((List Int) × Int) → Prop := fun ⟨x2, x3v, x21, u43⟩ r => ∀ S1 w1, Ext S0 w0 S1 w1 → ∀ Ax2 nx2 cx2 gx3 u9 ua ub (_ : Hp nz wz S1 w1 ((some gx3, .row 39 (wT29 x3v.Op x3v.Text u9 ua ub) 3 0) :: (some gx1, .row 67 [.slice (Gp ufe) u41 u42] 1 0) :: (ufe, .row 166 uff (u42 * kT165.size) 0) :: Lr)) (_ : Rd kU S1 w1 Ax2 cx2 x2) (_ : x2.length = nx2) (_ : Rd kT38 S1 w1 u9 ub x3v.L) (_ : x3v.L.length = ua) (_ : Els kT165 S1 w1 uff u43) (_ : u43.length = u41) (junk : Nat → Value),
 Goes Tg (base 33) Jjy ⟨lfr 78 [(1, (pt gx1 0)), (2, .slice Ax2 nx2 cx2), (3, (pt gx3 0)), (21, .bool x21)] junk, []⟩ w1 (Done Tg 33 (Rets (Post.z43 nz wz S0 w0 Lr gx1 ufe u41 u42 uff u43 r)))
theorem W.z49 {nz wz S0 w0 Lr} (gx1 : Nat) (ufe : Option Nat) (u41 : Nat) (u42 : Nat) (uff : List Value) : ∀ a r, M.a56 a = some r → L.z49 nz wz S0 w0 Lr gx1 ufe u41 u42 uff a r := by
 intro ⟨x2, x3v, x21, u43⟩ r h S1 w1 hx Ax2 nx2 cx2 gx3 u9 ua ub p1 fx2 lx2 uq ur fs4 ls4 junk
 rw [M.a56] at h
 try dsimp only at h
 subst lx2
 subst ur
 subst ls4
 refine Gi h (fun h11 h => ?_) fun h11 h => ?_
 ·
  rw [h11]
  refine Gn 6 [(6, Sn), (7, .i 2)] (Ys 110101 B33 Jjx) ?_
  have p1 : Hp nz wz S1 w1 ((none, .row 22 [] (0 * kU.size) 0) :: (some gx3, .row 39 (wT29 x3v.Op x3v.Text u9 x3v.L.length ub) 3 0) :: (some gx1, .row 67 [Sl (Gp ufe) u43 u42] 1 0) :: (ufe, .row 166 uff (u42 * kT165.size) 0) :: Lr) := p1.nilRow' 22
  obtain rfl := sj h
  have p1 := p1.dp 1
  exact Xd Tryz.f33 (.tuple #[.slice (Gp none) 0 0, .i 2]) ⟨_, _, _, _, _, rfl, hx, p1, (Els.nil (K := kU)), rfl⟩
 ·
  rw [bf h11]
  refine Gn 4 [] (Yt 1110 B33 [0, 1] (Ys 1111 B33 [])) ?_
  have f14 : Els kU S1 w1 ([] : List Value) ([] : List Int) := by exact Els.nil
  refine Om (.buildSlice 60 0 #[]) 22 60 (fun b => .slice (Gp (some b)) 0 0) 22 ([] : List Value) (0 * kU.size) p1 Xa fun b13 w5 z5 p5 => ?_
  refine Gn 9 [(8, .slice (Gp (some b13)) 0 0), (9, .i 0)] Jj6 ?_
  have p5 := (((p5.fr 3).fr 3).fr 2).fr 3
  exact Gj 78 [(1, (pt gx1 0)), (2, Sl Ax2 x2 cx2), (3, (pt gx3 0)), (8, .slice (Gp (some b13)) 0 0), (9, .i 0)] (W.z44 gx1 ufe u43.length u42 uff _ _ h _ _ (hx.t z5) _ _ _ _ _ _ _ (some b13) 0 0 _ p5 (fx2.ext z5) rfl (uq.ext z5) rfl (f14.ext z5) rfl (fs4.ext z5) rfl)
def Qfh := Yq 1100 B33
theorem W.z43 (x0 : T38) (u43 : List T165) (x2 : List Int) (r : (List Int) × Int) (h : M.a6g x0 u43 x2 = some r) {nz wz S0 w0 Lr} (u5 u6 u7 gx1 ufe u41 u42 uff Ax2 nx2 cx2) (p0 : Hp nz wz S0 w0 ((some gx1, .row 67 [.slice (Gp ufe) u41 u42] 1 0) :: (ufe, .row 166 uff (u42 * kT165.size) 0) :: Lr)) (um : Rd kT38 S0 w0 u5 u7 x0.L) (un : x0.L.length = u6) (u4m : Els kT165 S0 w0 uff u43) (u4n : u43.length = u41) (fx2 : Rd kU S0 w0 Ax2 cx2 x2) (lx2 : x2.length = nx2) :
  Calls Tg 33 #[(ag (wT29 x0.Op x0.Text u5 u6 u7)), (pt gx1 0), .slice Ax2 nx2 cx2] w0 (Rets (Post.z43 nz wz S0 w0 Lr gx1 ufe u41 u42 uff u43 r)) := by
 subst un
 subst u4n
 subst lx2
 refine Zf Tryz.f33 B33 75 ?_
 refine Gj 78 [(0, (ag (wT29 x0.Op x0.Text u5 x0.L.length u7))), (1, (pt gx1 0)), (2, Sl Ax2 x2 cx2)] fun junk => ?_
 delta M.a6g at h
 refine Gn 2 [] (Yt 10 B33 [0, 1, 2] (Ys 11 B33 [])) ?_
 refine Ob 39 0 3 0 ((ag (wT29 x0.Op x0.Text u5 x0.L.length u7))) (wT29 x0.Op x0.Text u5 x0.L.length u7) p0 Xa fun b3 w2 z2 p2 => ?_
 refine Gn 6 [(6, Sn), (7, .i 0)] (Zr Qfh [0, 1, 2, 3, 4, 5, 6, 7] Jjy) ?_
 refine Xg 39 3 14 39 ⟨b3, 0, none⟩ (wT29 x0.Op x0.Text u5 x0.L.length u7) (p2.pa 0 0) ?_
 refine Gb h fun y5 e6 h => ?_
 refine Gc (kc 21 [14] #[39]) 15 34 21 _ (W.z1n x0 y5 e6 _ _ _ p2 (um.ext z2) rfl) ?_
 rintro _ w3 ⟨S3, rfl, z3, p3⟩
 refine Gm 2 [([16, 17], .bool (!(decide (y5 = 0))))] (Zr Qfh [4, 5, 6, 7] Jjy) ?_
 refine Gi h (fun h7 h => ?_) fun h7 h => ?_
 ·
  rw [dt h7]
  refine Gn 1 [(18, Sl Ax2 x2 cx2)] (Zr Qfh [5, 6, 7] Jjy) ?_
  refine Gb h fun y8 e9 h => ?_
  refine Gc (kc 85 [18] #[60]) 19 34 85 _ (W.z2w x2 y8 e9 _ _ _ p3 (fx2.ext (z2.t z3)) rfl) ?_
  rintro _ w4 ⟨S4, rfl, z4, p4⟩
  refine Gm 3 [([20, 21], .bool (!(decide (y8 = 0))))] Jjy ?_
  exact Gj 78 [(1, (pt gx1 0)), (2, Sl Ax2 x2 cx2), (3, (pt b3 0)), (21, .bool (!(decide (y8 = 0))))] (W.z49 gx1 ufe u43.length u42 uff _ _ h _ _ ((z2.t z3).t z4) _ _ _ _ _ _ _ p4 (fx2.ext ((z2.t z3).t z4)) rfl (um.ext ((z2.t z3).t z4)) rfl (u4m.ext ((z2.t z3).t z4)) rfl)
 ·
  rw [df h7]
  refine Gm 5 [([18, 19, 20], undef), ([21], .bool true)] Jjy ?_
  exact Gj 78 [(1, (pt gx1 0)), (2, Sl Ax2 x2 cx2), (3, (pt b3 0)), (21, .bool true)] (W.z49 gx1 ufe u43.length u42 uff _ _ h _ _ (z2.t z3) _ _ _ _ _ _ _ p3 (fx2.ext (z2.t z3)) rfl (um.ext (z2.t z3)) rfl (u4m.ext (z2.t z3)) rfl)
def Jk7 := Ys 111 B197 []
def Jk8 := Ys 1101 B197 Jk7
def Post.z4a (gx0 : Nat) (r : Int × T134) (v : Value) (w' : World) : Prop :=
 ∃ S' ug0, v = .int .u8 r.1 ∧ Ext S0 w0 S' w' ∧ Hp nz wz S' w' ((some gx0, .row 135 (vT134 r.2 ug0) 4 0) :: Lr) ∧ PtO kT138 S' w' ug0 r.2.bad
def L.z4b (gx0 : Nat) : Bool × T134 → (Int × T134) → Prop := fun ⟨x19, e0v⟩ r => ∀ S1 w1, Ext S0 w0 S1 w1 → ∀ ug0 (_ : Hp nz wz S1 w1 ((some gx0, .row 135 (vT134 e0v ug0) 4 0) :: Lr)) (_ : PtO kT138 S1 w1 ug0 e0v.bad) (junk : Nat → Value),
 Goes Tg (base 197) Jk8 ⟨lfr 29 [(0, (pt gx0 0)), (19, .bool x19)] junk, []⟩ w1 (Done Tg 197 (Rets (Post.z4a nz wz S0 w0 Lr gx0 r)))
theorem W.z4b {nz wz S0 w0 Lr} (gx0 : Nat) : ∀ a r, M.a73 a = some r → L.z4b nz wz S0 w0 Lr gx0 a r := by
 intro ⟨x19, e0v⟩ r h S1 w1 hx ug0 p1 ug1 junk
 rw [M.a73] at h
 try dsimp only at h
 refine Gi h (fun h9 h => ?_) fun h9 h => ?_
 ·
  rw [h9]
  refine Gn 5 [(2, .int .u8 0)] (Ys 110101 B197 Jk7) ?_
  obtain rfl := sj h
  exact Xd Tryz.f197 (.int .u8 0) ⟨_, _, rfl, hx, p1, ug1⟩
 ·
  rw [bf h9]
  refine Gn 3 [] (Ys 1110 B197 (Ys 1111 B197 [])) ?_
  have z3 : Ext S1 w1 S1 (w1).drew := Xk
  have p3 := p1.draw
  refine Gd [] (Fc S1 (w1).drew [(⟨gx0, 0, none⟩, .string e0v.s), (⟨gx0, 1, none⟩, .i e0v.at_)]) 3 10 ?_
  generalize (w1).drew = w3 at z3 p3 ⊢
  refine Xb 0 (.move 0) 20 132 (pt gx0 0) (p3.k [(0, 0, 2)]) ?_
  refine Xb 1 (.nilCheck 20) 21 0 (pt gx0 0) (p3.k [(0, 0, 2)]) ?_
  refine Xb 2 (.fieldAddr 135 21 0) 22 0 (pt gx0 0) (p3.k [(0, 0, 2)]) ?_
  refine Al 3 9 22 23 9 ⟨gx0, 0, none⟩ (.string e0v.s) (p3.k [(0, 0, 2)]) (fun _ h => h.2.at_ 0 rfl) ?_
  refine Xb 4 (.move 0) 24 132 (pt gx0 0) (p3.k [(0, 0, 2)]) ?_
  refine Xb 5 (.nilCheck 24) 25 0 (pt gx0 0) (p3.k [(0, 0, 2)]) ?_
  refine Xb 6 (.fieldAddr 135 25 1) 26 0 (pt gx0 1) (p3.k [(0, 0, 2)]) ?_
  refine Al 7 3 26 27 3 ⟨gx0, 1, none⟩ (.i e0v.at_) (p3.k [(0, 0, 2)]) (fun _ h => h.2.at_ 1 rfl) ?_
  refine Gg h fun g10 h => ?_
  refine Gg h fun g11 h => ?_
  refine AnyG.ixS (i := 8) 9 23 27 28 5 .i64 e0v.s e0v.at_ (by kernel_rfl) (by kernel_rfl) (p3.k [(0, 0, 2)]) (by kernel_rfl) (by kernel_rfl) (by kernel_rfl) g10 g11 ?_
  refine Xb 9 (.assign 28) 2 5 (.int .u8 (bt e0v.s e0v.at_)) (p3.k [(0, 0, 2)]) ?_
  refine Ad ?_
  obtain rfl := sj h
  exact Xd Tryz.f197 (.int .u8 (bt e0v.s e0v.at_)) ⟨_, _, rfl, (hx.t z3), p3, (ug1.ext z3)⟩
theorem W.z4a (x0v : T134) (r : Int × T134) (h : M.a2 x0v = some r) {nz wz S0 w0 Lr} (gx0 ug2) (p0 : Hp nz wz S0 w0 ((some gx0, .row 135 (vT134 x0v ug2) 4 0) :: Lr)) (ug3 : PtO kT138 S0 w0 ug2 x0v.bad) :
  Calls Tg 197 #[(pt gx0 0)] w0 (Rets (Post.z4a nz wz S0 w0 Lr gx0 r)) := by
 refine Zf Tryz.f197 B197 28 ?_
 refine Gj 29 [(0, (pt gx0 0))] fun junk => ?_
 delta M.a2 at h
 refine Gn 6 [(2, .int .u8 0)] (Ys 1100 B197 Jk8) ?_
 have z2 : Ext S0 w0 S0 (w0).drew := Xk
 have p2 := p0.draw
 refine Gd [] (Fc S0 (w0).drew [(⟨gx0, 3, none⟩, ug2), (⟨gx0, 1, none⟩, .i x0v.at_), (⟨gx0, 0, none⟩, .string x0v.s)]) 1 17 ?_
 generalize (w0).drew = w2 at z2 p2 ⊢
 refine Xb 0 (.move 0) 3 132 (pt gx0 0) (p2.k [(0, 3, 1), (0, 1, 1), (0, 0, 1)]) ?_
 refine Xb 1 (.nilCheck 3) 4 0 (pt gx0 0) (p2.k [(0, 3, 1), (0, 1, 1), (0, 0, 1)]) ?_
 refine Xb 2 (.fieldAddr 135 4 3) 5 0 (pt gx0 3) (p2.k [(0, 3, 1), (0, 1, 1), (0, 0, 1)]) ?_
 refine Al 3 133 5 6 133 ⟨gx0, 3, none⟩ (ug2) (p2.k [(0, 3, 1), (0, 1, 1), (0, 0, 1)]) (fun _ h => h.2.at_ 0 rfl) ?_
 refine Gl h fun v8 h2 h => ?_
 rcases v8 with _ | y3
 ·
  try dsimp only at h
  obtain rfl := PtO.nil (ug3.ext z2) h2
  refine Xb 4 (.binOp .neq 133 6 (.const (.pointer none)) 133) 7 4 (.bool false) (p2.k [(0, 3, 1), (0, 1, 1), (0, 0, 1)]) ?_
  refine Xb 5 (.move 7) 8 4 (.bool false) (p2.k [(0, 3, 1), (0, 1, 1), (0, 0, 1)]) ?_
  refine Xb 6 (.move 0) 9 132 (pt gx0 0) (p2.k [(0, 3, 1), (0, 1, 1), (0, 0, 1)]) ?_
  refine Xb 7 (.nilCheck 9) 10 0 (pt gx0 0) (p2.k [(0, 3, 1), (0, 1, 1), (0, 0, 1)]) ?_
  refine Xb 8 (.fieldAddr 135 10 1) 11 0 (pt gx0 1) (p2.k [(0, 3, 1), (0, 1, 1), (0, 0, 1)]) ?_
  refine Al 9 3 11 12 3 ⟨gx0, 1, none⟩ (.i x0v.at_) (p2.k [(0, 3, 1), (0, 1, 1), (0, 0, 1)]) (fun _ h => h.2.at_ 1 rfl) ?_
  refine Xb 10 (.move 0) 13 132 (pt gx0 0) (p2.k [(0, 3, 1), (0, 1, 1), (0, 0, 1)]) ?_
  refine Xb 11 (.nilCheck 13) 14 0 (pt gx0 0) (p2.k [(0, 3, 1), (0, 1, 1), (0, 0, 1)]) ?_
  refine Xb 12 (.fieldAddr 135 14 0) 15 0 (pt gx0 0) (p2.k [(0, 3, 1), (0, 1, 1), (0, 0, 1)]) ?_
  refine Al 13 9 15 16 9 ⟨gx0, 0, none⟩ (.string x0v.s) (p2.k [(0, 3, 1), (0, 1, 1), (0, 0, 1)]) (fun _ h => h.2.at_ 2 rfl) ?_
  refine Xb 14 (.call { callee := .builtin .len, args := #[16], argTypes := #[9] }) 17 3 (.i (x0v.s.size : Int)) (p2.k [(0, 3, 1), (0, 1, 1), (0, 0, 1)]) ?_
  refine Xb 15 (.binOp .geq 3 12 17 3) 18 4 (.bool (decide (x0v.at_ ≥ (x0v.s.size : Int)))) (p2.k [(0, 3, 1), (0, 1, 1), (0, 0, 1)]) ?_
  refine Xb 16 (.pick 8 (.const (.bool true)) 18) 19 4 (.bool (decide (x0v.at_ ≥ (x0v.s.size : Int)))) (p2.k [(0, 3, 1), (0, 1, 1), (0, 0, 1)]) ?_
  refine Ad ?_
  exact Gj 29 [(0, (pt gx0 0)), (19, .bool (decide (x0v.at_ ≥ (x0v.s.size : Int))))] (W.z4b gx0 _ _ h _ _ z2 (.pointer none) p2 rfl)
 ·
  try dsimp only at h
  obtain ⟨a5, _, rfl, -, f6, q7⟩ := PtO.got (ug3.ext z2) h2
  obtain rfl := q7
  refine Xb 4 (.binOp .neq 133 6 (.const (.pointer none)) 133) 7 4 (.bool true) (p2.k [(0, 3, 1), (0, 1, 1), (0, 0, 1)]) ?_
  refine Xb 5 (.move 7) 8 4 (.bool true) (p2.k [(0, 3, 1), (0, 1, 1), (0, 0, 1)]) ?_
  refine Xf 6 9 (p2.k [(0, 3, 1), (0, 1, 1), (0, 0, 1)]) ?_
  refine Xf 7 10 (p2.k [(0, 3, 1), (0, 1, 1), (0, 0, 1)]) ?_
  refine Xf 8 11 (p2.k [(0, 3, 1), (0, 1, 1), (0, 0, 1)]) ?_
  refine Xf 9 12 (p2.k [(0, 3, 1), (0, 1, 1), (0, 0, 1)]) ?_
  refine Xf 10 13 (p2.k [(0, 3, 1), (0, 1, 1), (0, 0, 1)]) ?_
  refine Xf 11 14 (p2.k [(0, 3, 1), (0, 1, 1), (0, 0, 1)]) ?_
  refine Xf 12 15 (p2.k [(0, 3, 1), (0, 1, 1), (0, 0, 1)]) ?_
  refine Xf 13 16 (p2.k [(0, 3, 1), (0, 1, 1), (0, 0, 1)]) ?_
  refine Xf 14 17 (p2.k [(0, 3, 1), (0, 1, 1), (0, 0, 1)]) ?_
  refine Xf 15 18 (p2.k [(0, 3, 1), (0, 1, 1), (0, 0, 1)]) ?_
  refine Xb 16 (.pick 8 (.const (.bool true)) 18) 19 4 (.bool true) (p2.k [(0, 3, 1), (0, 1, 1), (0, 0, 1)]) ?_
  refine Ad ?_
  exact Gj 29 [(0, (pt gx0 0)), (19, .bool true)] (W.z4b gx0 _ _ h _ _ z2 _ p2 ⟨_, _, rfl, List.cons_ne_nil _ _, f6, rfl⟩)
def Jkf := Ys 111 B69 []
def Qft := Yq 11010 B69
def Jkk := Ys 1111 B69 []
def Jkl := Yt 1110 B69 [1] Jkk
def Post.z4c (gx0 : Nat) (r : T26 × T134) (v : Value) (w' : World) : Prop :=
 ∃ S' ug4 u1 u2 ug0, v = (ag (vT26 r.1 ug4 u1 u2)) ∧ Ext S0 w0 S' w' ∧ Hp nz wz S' w' ((some gx0, .row 135 (vT134 r.2 ug0) 4 0) :: Lr) ∧ r.1.Set.length = 4 ∧ Rd kT26 S' w' ug4 u2 r.1.L ∧ r.1.L.length = u1 ∧ PtO kT138 S' w' ug0 r.2.bad
theorem W.z4c (x0v : T134) (x1 : Int) (r : T26 × T134) (h : M.a1 x0v x1 = some r) {nz wz S0 w0 Lr} (gx0 ug2) (p0 : Hp nz wz S0 w0 ((some gx0, .row 135 (vT134 x0v ug2) 4 0) :: Lr)) (ug3 : PtO kT138 S0 w0 ug2 x0v.bad) :
  Calls Tg 69 #[(pt gx0 0), .i x1] w0 (Rets (Post.z4c nz wz S0 w0 Lr gx0 r)) := by
 refine Zf Tryz.f69 B69 15 ?_
 refine Gj 17 [(0, (pt gx0 0)), (1, .i x1)] fun junk => ?_
 delta M.a1 at h
 refine Gn 2 [] (Yt 10 B69 [0] (Ys 11 B69 [])) ?_
 refine Oa 27 4 0 (.agg #[.i 0, .u 0, .u 0, .u 0, .u 0, Sn, .i 0, .i 0]) [.i 0, .u 0, .u 0, .u 0, .u 0, Sn, .i 0, .i 0] p0 Xa fun b2 w2 z2 p2 => ?_
 refine Gm 7 [([5, 6], (pt gx0 0)), ([7], (pt gx0 3))] (Yt 1100 B69 [3, 4] (Ys 1101 B69 Jkf)) ?_
 refine Xc 133 7 8 133 ⟨gx0, 3, none⟩ (ug2) (p2.c 1 3) ?_
 refine Gl h fun v13 h4 h => ?_
 rcases v13 with _ | y5
 ·
  try dsimp only at h
  obtain rfl := PtO.nil (ug3.ext z2) h4
  refine Gn 7 [(9, .bool true), (10, (pt gx0 0)), (11, .i x1), (12, .agg #[.i x1])] (Zr Qft [3, 4, 5, 6] Jkf) ?_
  refine Ob 139 12 13 133 (.agg #[.i x1]) [.i x1] p2 Xa fun b10 w3 z3 p3 => ?_
  refine Gn 2 [(14, (pt gx0 0)), (15, (pt gx0 3))] (Zr Qft [6] Jkf) ?_
  refine So 133 15 13 0 2 gx0 3 (pt b10 0) [(pt b10 0)] p3 rfl Xe fun w4 z4 p4 => ?_
  refine Gn 4 [(16, .agg #[.i 0, .u 0, .u 0, .u 0, .u 0, Sn, .i 0, .i 0])] Jkl ?_
  refine So 27 4 16 0 1 b2 0 (.agg #[.i 0, .u 0, .u 0, .u 0, .u 0, Sn, .i 0, .i 0]) [.i 0, .u 0, .u 0, .u 0, .u 0, Sn, .i 0, .i 0] p4 rfl Xe fun w5 z5 p5 => ?_
  refine Gn 1 [] Jkk ?_
  obtain ⟨S6, z6, p6, f12⟩ := p5.freezeBlk 0 rfl
  obtain rfl := sj h
  exact R1 Tryz.f69 (.cell 4 27) (.agg #[.i 0, .u 0, .u 0, .u 0, .u 0, Sn, .i 0, .i 0]) (Rn b2 (p6.pa 0 0)) ⟨_, _, _, _, _, rfl, ((((z2.t z3).t z4).t z5).t z6), p6.drop, rfl, Xr, rfl, ⟨_, _, rfl, List.cons_ne_nil _ _, f12, rfl⟩⟩
 ·
  try dsimp only at h
  obtain ⟨a7, _, rfl, -, f8, q9⟩ := PtO.got (ug3.ext z2) h4
  obtain rfl := q9
  refine Gn 7 [(9, .bool false), (16, .agg #[.i 0, .u 0, .u 0, .u 0, .u 0, Sn, .i 0, .i 0])] Jkl ?_
  refine So 27 4 16 0 0 b2 0 (.agg #[.i 0, .u 0, .u 0, .u 0, .u 0, Sn, .i 0, .i 0]) [.i 0, .u 0, .u 0, .u 0, .u 0, Sn, .i 0, .i 0] p2 rfl Xe fun w7 z7 p7 => ?_
  refine Gn 1 [] Jkk ?_
  obtain rfl := sj h
  exact R1 Tryz.f69 (.cell 4 27) (.agg #[.i 0, .u 0, .u 0, .u 0, .u 0, Sn, .i 0, .i 0]) (Rn b2 (p7.pa 0 0)) ⟨_, _, _, _, _, rfl, (z2.t z7), p7.drop, rfl, Xr, rfl, ⟨_, _, rfl, List.cons_ne_nil _ _, (f8.ext z7), rfl⟩⟩
def Jkm := Ys 111 B132 []
def Jkn := Ys 1101 B132 Jkm
def Jkp := Ys 1111 B132 []
def Qg0 := Yq 1110 B132
def Post.z4d (gx0 : Nat) (r : Bool × T134) (v : Value) (w' : World) : Prop :=
 ∃ S' ug0, v = .bool r.1 ∧ Ext S0 w0 S' w' ∧ Hp nz wz S' w' ((some gx0, .row 135 (vT134 r.2 ug0) 4 0) :: Lr) ∧ PtO kT138 S' w' ug0 r.2.bad
def L.z4e (gx0 : Nat) : Bool × T134 → (Bool × T134) → Prop := fun ⟨x12, e0v⟩ r => ∀ S1 w1, Ext S0 w0 S1 w1 → ∀ ug0 (_ : Hp nz wz S1 w1 ((some gx0, .row 135 (vT134 e0v ug0) 4 0) :: Lr)) (_ : PtO kT138 S1 w1 ug0 e0v.bad) (junk : Nat → Value),
 Goes Tg (base 132) Jkn ⟨lfr 20 [(0, (pt gx0 0)), (12, .bool x12)] junk, []⟩ w1 (Done Tg 132 (Rets (Post.z4d nz wz S0 w0 Lr gx0 r)))
theorem W.z4e {nz wz S0 w0 Lr} (gx0 : Nat) : ∀ a r, M.a74 a = some r → L.z4e nz wz S0 w0 Lr gx0 a r := by
 intro ⟨x12, e0v⟩ r h S1 w1 hx ug0 p1 ug1 junk
 rw [M.a74] at h
 try dsimp only at h
 refine Gi h (fun h5 h => ?_) fun h5 h => ?_
 ·
  rw [h5]
  refine Gn 5 [(4, .bool false)] (Ys 110101 B132 Jkm) ?_
  obtain rfl := sj h
  exact Xd Tryz.f132 (.bool false) ⟨_, _, rfl, hx, p1, ug1⟩
 ·
  rw [bf h5]
  refine Gm 7 [([13, 14], (pt gx0 0)), ([15], (pt gx0 1))] (Zr Qg0 [3, 4, 5, 6, 7] Jkp) ?_
  refine Xc 3 15 16 3 ⟨gx0, 1, none⟩ (.i e0v.at_) (p1.c 0 1) ?_
  refine Gn 3 [(17, .i (wr .i64 (e0v.at_ + 1))), (18, (pt gx0 0)), (19, (pt gx0 1))] (Zr Qg0 [7] Jkp) ?_
  refine So 3 19 17 0 0 gx0 1 (.i (wr .i64 (e0v.at_ + 1))) [.i (wr .i64 (e0v.at_ + 1))] p1 rfl Xe fun w3 z3 p3 => ?_
  refine Gn 5 [(4, .bool true)] (Ys 11111 B132 []) ?_
  obtain rfl := sj h
  exact Xd Tryz.f132 (.bool true) ⟨_, _, rfl, (hx.t z3), p3, (ug1.ext z3)⟩
def Qg2 := Yq 1100 B132
theorem W.z4d (x0v : T134) (x1 : Int) (r : Bool × T134) (h : M.a0 x0v x1 = some r) {nz wz S0 w0 Lr} (gx0 ug2) (p0 : Hp nz wz S0 w0 ((some gx0, .row 135 (vT134 x0v ug2) 4 0) :: Lr)) (ug3 : PtO kT138 S0 w0 ug2 x0v.bad) :
  Calls Tg 132 #[(pt gx0 0), .int .u8 x1] w0 (Rets (Post.z4d nz wz S0 w0 Lr gx0 r)) := by
 refine Zf Tryz.f132 B132 18 ?_
 refine Gj 20 [(0, (pt gx0 0)), (1, .int .u8 x1)] fun junk => ?_
 delta M.a0 at h
 refine Gm 10 [([4], .bool false), ([5], .int .u8 x1), ([6, 7], .bool (decide (x1 = 0)))] (Zr Qg2 [3, 4, 5, 6, 7] Jkn) ?_
 refine Gi h (fun h2 h => ?_) fun h2 h => ?_
 ·
  rw [dt h2]
  refine Gm 6 [([8, 9, 10, 11], undef), ([12], .bool true)] Jkn ?_
  exact Gj 20 [(0, (pt gx0 0)), (12, .bool true)] (W.z4e gx0 _ _ h _ _ (Xj S0 w0) _ p0 ug3)
 ·
  rw [df h2]
  refine Gn 1 [(8, (pt gx0 0))] (Zr Qg2 [4, 5, 6, 7] Jkn) ?_
  refine Gb h fun y3 e4 h => ?_
  refine Gc (kc 197 [8] #[132]) 9 5 197 _ (W.z4a x0v y3 e4 _ _ p0 ug3) ?_
  rintro _ w2 ⟨S2, ug5, rfl, z2, p2, ug6⟩
  refine Gm 4 [([10], .int .u8 x1), ([11, 12], .bool (!(decide (y3.1 = x1))))] Jkn ?_
  exact Gj 20 [(0, (pt gx0 0)), (12, .bool (!(decide (y3.1 = x1))))] (W.z4e gx0 _ _ h _ _ z2 _ p2 ug6)
def Jl1 := Ys 11111 B274 []
def Post.z4f (r : List Int) (v : Value) (w' : World) : Prop :=
 ∃ S' vsq, v = .agg vsq.toArray ∧ Ext S0 w0 S' w' ∧ Hp nz wz S' w' (Lr) ∧ Els kU S' w' vsq r ∧ vsq.length = 4
theorem W.z4f (x0 : Int) (r : List Int) (h : M.a8 x0 = some r) {nz wz S0 w0 Lr} (p0 : Hp nz wz S0 w0 (Lr)) :
  Calls Tg 274 #[.int .u8 x0] w0 (Rets (Post.z4f nz wz S0 w0 Lr r)) := by
 refine Zf Tryz.f274 B274 10 ?_
 refine Gj 11 [(0, .int .u8 x0)] fun junk => ?_
 delta M.a8 at h
 refine Gn 2 [] (Yt 10 B274 [0] (Ys 11 B274 [])) ?_
 refine Oa 24 2 0 (.agg #[.u 0, .u 0, .u 0, .u 0]) [.u 0, .u 0, .u 0, .u 0] p0 Xa fun b1 w2 z2 p2 => ?_
 refine Gn 3 [] (Yt 110 B274 [0] (Ys 111 B274 [])) ?_
 refine Oa 24 3 0 (.agg #[.u 0, .u 0, .u 0, .u 0]) [.u 0, .u 0, .u 0, .u 0] p2 Xa fun b3 w3 z3 p3 => ?_
 refine Gm 7 [([4, 6], .int .u8 x0), ([5], .int .u8 (iquo .u8 x0 64)), ([7], .int .u8 (irem .u8 x0 64))] (Yt 1110 B274 [4, 5, 6] (Ys 1111 B274 [])) ?_
 refine Gg h fun g5 h => ?_
 refine Op_.binshl 22 (.const (.int .u64 1)) 7 5 8 22 .u64 .u8 1 (irem .u8 x0 64) Xa (by kernel_rfl) (by kernel_rfl) g5 ?_
 have f6 : Els kU S0 w3 ([.u 0, .u 0, .u 0, .u 0] : List Value) [0, 0, 0, 0] := (Els.cons (K := kU) (vs := [.u 0]) (x := 0) rfl (Els.cons (K := kU) (vs := [.u 0]) (x := 0) rfl (Els.cons (K := kU) (vs := [.u 0]) (x := 0) rfl (Els.cons (K := kU) (vs := [.u 0]) (x := 0) rfl Els.nil))))
 refine Gg h fun g7 h => ?_
 refine Gg h fun g8 h => ?_
 refine Op_.ixA_n (K := kU) 24 3 5 9 0 22 4 .u8 (iquo .u8 x0 64) 0 (gi [0, 0, 0, 0] (iquo .u8 x0 64)) rfl p3 rfl f6 (Xm f6 rfl rfl) Xa (by kernel_rfl) (by kernel_rfl) (by kernel_rfl) (by kernel_rfl) g7 g8 fun _ q10 f9 => ?_
 obtain rfl := q10
 refine Gl h fun v11 e12 h => ?_
 refine Op_.stE_n (K := kU) 22 9 8 0 0 (iquo .u8 x0 64) (.u (ishl .u64 1 (irem .u8 x0 64))) [.u (ishl .u64 1 (irem .u8 x0 64))] (ishl .u64 1 (irem .u8 x0 64)) v11 4 (Xm f6 rfl rfl) e12 p3 rfl f6 Xe (by kernel_rfl) (by kernel_rfl) (by kernel_rfl) rfl (by kernel_rfl) g7 g8 (Nat.zero_le _) fun w4 ug7 z4 p4 f14 l15 => ?_
 have l16 : ug7.length = 4 := by rw [f14.length, l15]; rfl
 refine Gn 3 [] (Yt 11110 B274 [0, 1] Jl1) ?_
 refine Xs 24 3 10 24 ⟨b3, 0, none⟩ ug7 Xa (by kernel_rfl) (by kernel_rfl) (by rw [l16]; kernel_rfl) (At_all (p4.mem 0 rfl)) ?_
 have f17 : Els kU S0 w4 ([.u 0, .u 0, .u 0, .u 0] : List Value) [0, 0, 0, 0] := (Els.cons (K := kU) (vs := [.u 0]) (x := 0) rfl (Els.cons (K := kU) (vs := [.u 0]) (x := 0) rfl (Els.cons (K := kU) (vs := [.u 0]) (x := 0) rfl (Els.cons (K := kU) (vs := [.u 0]) (x := 0) rfl Els.nil))))
 refine Xp 24 2 10 0 1 b1 4 ug7 p4 rfl rfl Xe (by kernel_rfl) (by kernel_rfl) (by kernel_rfl) l16 (Xq f14) fun w5 z5 p5 => ?_
 refine Gn 1 [] Jl1 ?_
 obtain rfl := sj h
 have p5 := p5.dp 0
 exact Xx (fn := Tryz.f274) (by kernel_rfl) (v := .agg ug7.toArray) (results_n1 (fn := Tryz.f274) (a := .cell 2 24) (by kernel_rfl) (resV_cell ⟨b1, 0, none⟩ (by kernel_rfl) (run_loadN ug7 (by kernel_rfl) (by rw [l16]; kernel_rfl) (At_all (p5.mem 0 rfl))))) ⟨S0, ug7, rfl, (((z2.t z3).t z4).t z5), p5.drop, (f14.ext z5), l16⟩
def Qgc := Yq 110100 B273
def Jl5 := Zl Qgc (Zb 0 (Ys 111 B273 []))
def Jl6 := Zc Qgc Jl5
def Jla := Zb 1 (Ys 110100111 B273 Jl5)
def Qgg := Yq 11010011001 B273
def Jld := Ys 1111 B273 []
def Post.z4g (r : List Int) (v : Value) (w' : World) : Prop :=
 ∃ S' vsq, v = .agg vsq.toArray ∧ Ext S0 w0 S' w' ∧ Hp nz wz S' w' (Lr) ∧ Els kU S' w' vsq r ∧ vsq.length = 4
def L.z4h : (List Int) × (List Int) × Int → (List Int) → Prop := fun ⟨x1, u4, x4⟩ r => ∀ S1 w1, Ext S0 w0 S1 w1 → ∀ gx1 ug8 gx2 (_ : Hp nz wz S1 w1 ((some gx1, .row 24 ug8 4 0) :: (some gx2, .row 24 (U4 u4 []) 4 0) :: Lr)) (_ : Els kU S1 w1 ug8 x1) (_ : ug8.length = 4) (_ : u4.length = 4) (junk : Nat → Value),
 Goes Tg (base 273) Jl6 ⟨lfr 15 [(1, (pt gx1 0)), (2, (pt gx2 0)), (4, .i x4)] junk, []⟩ w1 (Done Tg 273 (Rets (Post.z4g nz wz S0 w0 Lr r)))
theorem W.z4h {nz wz S0 w0 Lr} : ∀ a r, M.a2j a = some r → (L.z4h nz wz S0 w0 Lr) a r := by
 refine M.a2j.partial_correctness (motive := (L.z4h nz wz S0 w0 Lr)) ?_
 intro ug9 uga ⟨x1, u4, x4⟩ r h S1 w1 hx gx1 ug8 gx2 p1 fx1 lx1 ugb junk
 try dsimp only at h
 refine Gn 5 [(5, .bool (decide (x4 < 4)))] (Ys 11010010 B273 (Ys 11010011 B273 Jl5)) ?_
 refine Gi h (fun h7 h => ?_) fun h7 h => ?_
 ·
  rw [dt h7]
  refine Gm 12 [([6, 3, 7, 8], .i x4)] (Zr Qgg [2, 3, 4, 5, 6] Jla) ?_
  refine Gg h fun g8 h => ?_
  refine Op_.ixA_n (K := kU) 24 1 8 9 0 22 4 .i64 x4 0 (gi x1 x4) rfl p1 rfl fx1 (Xm fx1 lx1 rfl) Xa (by kernel_rfl) (by kernel_rfl) (by kernel_rfl) (by kernel_rfl) g8 h7 fun _ q10 f9 => ?_
  obtain rfl := q10
  refine Xc 22 9 10 22 ⟨gx1, (x4 : Int).toNat * kU.size, none⟩ (.u (gi x1 x4)) (f9 0 _ rfl) ?_
  refine Gn 1 [(11, .u (ixor .u64 18446744073709551615 (gi x1 x4)))] (Zr Qgg [5, 6] Jla) ?_
  refine Op_.ixA_n (K := kU) 24 1 7 12 0 22 4 .i64 x4 0 (gi x1 x4) rfl p1 rfl fx1 (Xm fx1 lx1 rfl) Xa (by kernel_rfl) (by kernel_rfl) (by kernel_rfl) (by kernel_rfl) g8 h7 fun _ q12 f11 => ?_
  obtain rfl := q12
  refine Gl h fun v13 e14 h => ?_
  refine Op_.stE_n (K := kU) 22 12 11 0 0 x4 (.u (ixor .u64 18446744073709551615 (gi x1 x4))) [.u (ixor .u64 18446744073709551615 (gi x1 x4))] (ixor .u64 18446744073709551615 (gi x1 x4)) v13 4 (Xm fx1 lx1 rfl) e14 p1 rfl fx1 Xe (by kernel_rfl) (by kernel_rfl) (by kernel_rfl) rfl (by kernel_rfl) g8 h7 (Nat.zero_le _) fun w4 ugc z4 p4 f16 l17 => ?_
  have l18 : ugc.length = 4 := by rw [f16.length, l17]; rfl
  refine Gm 7 [([13, 4], .i (wr .i64 (x4 + 1)))] Jl6 ?_
  exact Gj 15 [(1, (pt gx1 0)), (2, (pt gx2 0)), (4, .i (wr .i64 (x4 + 1)))] (uga _ _ h _ _ (hx.t z4) _ _ _ p4 f16 l18 ugb)
 ·
  rw [df h7]
  refine Gn 4 [] (Yt 1110 B273 [0, 1] Jld) ?_
  refine Xs 24 1 14 24 ⟨gx1, 0, none⟩ ug8 Xa (by kernel_rfl) (by kernel_rfl) (by rw [lx1]; kernel_rfl) (At_all (p1.mem 0 rfl)) ?_
  have f19 : Els kU S1 w1 ((U4 u4 []) : List Value) u4 := (els_mk4 (k := .u64) ugb)
  refine Xp 24 2 14 0 1 gx2 4 ug8 p1 rfl rfl Xe (by kernel_rfl) (by kernel_rfl) (by kernel_rfl) lx1 (Xq fx1) fun w5 z5 p5 => ?_
  refine Gn 1 [] Jld ?_
  obtain rfl := sj h
  have p5 := p5.dp 0
  exact Xx (fn := Tryz.f273) (by kernel_rfl) (v := .agg ug8.toArray) (results_n1 (fn := Tryz.f273) (a := .cell 2 24) (by kernel_rfl) (resV_cell ⟨gx2, 0, none⟩ (by kernel_rfl) (run_loadN ug8 (by kernel_rfl) (by rw [lx1]; kernel_rfl) (At_all (p5.mem 0 rfl))))) ⟨S1, ug8, rfl, (hx.t z5), p5.drop, (fx1.ext z5), lx1⟩
theorem W.z4g (x0 : List Int) (r : List Int) (h : M.av x0 = some r) {nz wz S0 w0 Lr} (ugd) (p0 : Hp nz wz S0 w0 (Lr)) (fx0 : Els kU S0 w0 ugd x0) (lx0 : ugd.length = 4) :
  Calls Tg 273 #[.agg ugd.toArray] w0 (Rets (Post.z4g nz wz S0 w0 Lr r)) := by
 refine Zf Tryz.f273 B273 14 ?_
 refine Gj 15 [(0, .agg ugd.toArray)] fun junk => ?_
 delta M.av at h
 refine Gn 2 [] (Yt 10 B273 [0, 1] (Ys 11 B273 [])) ?_
 refine Op_.box 24 0 1 0 (.agg ugd.toArray) ugd p0 Xa (by kernel_rfl) rfl fun b1 w2 z2 p2 => ?_
 replace p2 : Hp nz wz S0 w2 ((some b1, .row 24 ugd 4 0) :: Lr) := by rw [show (ugd).length = 4 from lx0] at p2; exact p2
 refine Oa 24 2 0 (.agg #[.u 0, .u 0, .u 0, .u 0]) [.u 0, .u 0, .u 0, .u 0] p2 Xa fun b3 w3 z3 p3 => ?_
 refine Gn 8 [(4, .i 0)] Jl6 ?_
 have p3 := (p3.fr 0).fr 1
 exact Gj 15 [(1, (pt b1 0)), (2, (pt b3 0)), (4, .i 0)] (W.z4h _ _ h _ _ (z2.t z3) _ _ _ p3 (fx0.ext (z2.t z3)) lx0 rfl)
def Post.z4i (gx0 : Nat) (ug2 : Value) (x0v : T134) (r : Unit) (v : Value) (w' : World) : Prop :=
 ∃ S' u1z, v = .func (.func 313) #[] #[(pt u1z 0)] ∧ Ext S0 w0 S' w' ∧ Hp nz wz S' w' ((some u1z, .row 132 [(pt gx0 0)] 1 0) :: (some gx0, .row 135 (vT134 x0v ug2) 4 0) :: Lr)
theorem W.z4i (x0v : T134) (r : Unit) (h : M.a6l x0v = some r) {nz wz S0 w0 Lr} (gx0 ug2) (p0 : Hp nz wz S0 w0 ((some gx0, .row 135 (vT134 x0v ug2) 4 0) :: Lr)) (ug3 : PtO kT138 S0 w0 ug2 x0v.bad) :
  Calls Tg 296 #[(pt gx0 0)] w0 (Rets (Post.z4i nz wz S0 w0 Lr gx0 ug2 x0v r)) := by
 refine Zf Tryz.f296 B296 3 ?_
 refine Gj 4 [(0, (pt gx0 0))] fun junk => ?_
 delta M.a6l at h
 refine Gn 2 [] (Yt 10 B296 [0, 1] (Ys 11 B296 [])) ?_
 refine Ob 132 0 1 0 (pt gx0 0) [(pt gx0 0)] p0 Xa fun b2 w2 z2 p2 => ?_
 refine Gm 7 [([2, 3], .func (.func 313) #[] #[(pt b2 0)])] (Ys 111 B296 []) ?_
 obtain rfl := sj h
 exact Xd Tryz.f296 (.func (.func 313) #[] #[(pt b2 0)]) ⟨_, _, rfl, z2, p2⟩
def Qgp := Yq 1110100 B315
def Jlm := Zl Qgp (Zb 0 (Ys 1111 B315 []))
def Jln := Zc Qgp Jlm
def Jlt := Ys 11111 B315 []
def Post.z4j (r : List Int) (v : Value) (w' : World) : Prop :=
 ∃ S' vsq, v = .agg vsq.toArray ∧ Ext S0 w0 S' w' ∧ Hp nz wz S' w' (Lr) ∧ Els kU S' w' vsq r ∧ vsq.length = 4
def L.z4k : Int × (List Int) × (List Int) × Int → (List Int) → Prop := fun ⟨x1, uge, x5, x6⟩ r => ∀ S1 w1, Ext S0 w0 S1 w1 → ∀ gx4 gx5 ugf (_ : Hp nz wz S1 w1 ((some gx4, .row 24 (U4 uge []) 4 0) :: (some gx5, .row 24 ugf 4 0) :: Lr)) (_ : uge.length = 4) (_ : Els kU S1 w1 ugf x5) (_ : ugf.length = 4) (junk : Nat → Value),
 Goes Tg (base 315) Jln ⟨lfr 25 [(1, .int .u8 x1), (4, (pt gx4 0)), (5, (pt gx5 0)), (6, .i x6)] junk, []⟩ w1 (Done Tg 315 (Rets (Post.z4j nz wz S0 w0 Lr r)))
theorem W.z4k {nz wz S0 w0 Lr} : ∀ a r, M.a2k a = some r → (L.z4k nz wz S0 w0 Lr) a r := by
 refine M.a2k.partial_correctness (motive := (L.z4k nz wz S0 w0 Lr)) ?_
 intro ugg ugh ⟨x1, uge, x5, x6⟩ r h S1 w1 hx gx4 gx5 ugf p1 ugi fx5 lx5 junk
 try dsimp only at h
 refine Gn 8 [(9, .i x6), (10, .int .u8 x1), (11, .i (wr .i64 x1)), (12, .bool (decide (x6 ≤ wr .i64 x1)))] (Ys 111010001 B315 (Ys 11101001 B315 Jlm)) ?_
 refine Gi h (fun h8 h => ?_) fun h8 h => ?_
 ·
  rw [dt h8]
  refine Gn 4 [] (Ys 1110100100 B315 (Zb 1 (Ys 111010011 B315 Jlm))) ?_
  have z4 : Ext S1 w1 S1 (w1).drew := Xk
  have p4 := p1.draw
  refine Gd [9] (Fc S1 (w1).drew ([] ++ (rowCellsO (some gx5) ugf ++ []))) 5 10 ?_
  generalize (w1).drew = w4 at z4 p4 ⊢
  refine Xb 0 (.move 6) 15 3 (.i x6) (p4.ro 1 rfl) ?_
  refine Xb 1 (.binOp .quo 3 15 (.const (.int .i64 64)) 3) 16 3 (.i (iquo .i64 x6 64)) (p4.ro 1 rfl) ?_
  refine Gg h fun g9 h => ?_
  refine Gg h fun g10 h => ?_
  refine AnyG.ixA_n (i := 2) (K := kU) 24 5 16 17 0 22 4 .i64 (iquo .i64 x6 64) 1 (gi x5 (iquo .i64 x6 64)) rfl p4 rfl (fx5.ext z4) (Xm (fx5.ext z4) lx5 rfl) (by kernel_rfl) (by kernel_rfl) (p4.ro 1 rfl) (by kernel_rfl) (by kernel_rfl) (by kernel_rfl) (by kernel_rfl) g9 g10 fun _ q12 f13 f11 => ?_
  obtain rfl := q12
  refine Al 3 22 17 18 22 ⟨gx5, (iquo .i64 x6 64 : Int).toNat * kU.size, none⟩ (.u (gi x5 (iquo .i64 x6 64))) (p4.ro 1 rfl) (fun _ h => h.2.right.left.rowAt (f13 0 _ rfl)) ?_
  refine Xb 4 (.move 6) 19 3 (.i x6) (p4.ro 1 rfl) ?_
  refine Xb 5 (.binOp .rem 3 19 (.const (.int .i64 64)) 3) 20 3 (.i (irem .i64 x6 64)) (p4.ro 1 rfl) ?_
  refine Gg h fun g14 h => ?_
  refine AnyG.binshl (i := 6) 22 (.const (.int .u64 1)) 20 3 21 22 .u64 .i64 1 (irem .i64 x6 64) (by kernel_rfl) (by kernel_rfl) (p4.ro 1 rfl) (by kernel_rfl) (by kernel_rfl) g14 ?_
  refine Xb 7 (.binOp .or 22 18 21 22) 22 22 (.u (ior .u64 (gi x5 (iquo .i64 x6 64)) (ishl .u64 1 (irem .i64 x6 64)))) (p4.ro 1 rfl) ?_
  refine AnyG.ixA_n (i := 8) (K := kU) 24 5 16 23 0 22 4 .i64 (iquo .i64 x6 64) 1 (gi x5 (iquo .i64 x6 64)) rfl p4 rfl (fx5.ext z4) (Xm (fx5.ext z4) lx5 rfl) (by kernel_rfl) (by kernel_rfl) (p4.ro 1 rfl) (by kernel_rfl) (by kernel_rfl) (by kernel_rfl) (by kernel_rfl) g9 g10 fun _ q16 f17 f15 => ?_
  obtain rfl := q16
  refine Gl h fun v18 e19 h => ?_
  refine Op_.stE_n (K := kU) 22 23 22 0 1 (iquo .i64 x6 64) (.u (ior .u64 (gi x5 (iquo .i64 x6 64)) (ishl .u64 1 (irem .i64 x6 64)))) [.u (ior .u64 (gi x5 (iquo .i64 x6 64)) (ishl .u64 1 (irem .i64 x6 64)))] (ior .u64 (gi x5 (iquo .i64 x6 64)) (ishl .u64 1 (irem .i64 x6 64))) v18 4 (Xm (fx5.ext z4) lx5 rfl) e19 p4 rfl (fx5.ext z4) (As 9) (by kernel_rfl) (by kernel_rfl) (by kernel_rfl) rfl (by kernel_rfl) g9 g10 (Nat.zero_le _) fun w5 ugj z5 p5 f21 l22 => ?_
  have l23 : ugj.length = 4 := by rw [f21.length, l22]; rfl
  refine Xi [] (Fc S1 w5 []) (by decide) ?_
  refine Ad ?_
  refine Gm 7 [([13], .i x6), ([14, 6], .i (wr .i64 (x6 + 1)))] Jln ?_
  exact Gj 25 [(1, .int .u8 x1), (4, (pt gx4 0)), (5, (pt gx5 0)), (6, .i (wr .i64 (x6 + 1)))] (ugh _ _ h _ _ ((hx.t z4).t z5) _ _ _ p5 ugi f21 l23)
 ·
  rw [df h8]
  refine Gn 4 [] (Yt 11110 B315 [0, 1] Jlt) ?_
  refine Xs 24 5 24 24 ⟨gx5, 0, none⟩ ugf Xa (by kernel_rfl) (by kernel_rfl) (by rw [lx5]; kernel_rfl) (At_all (p1.mem 1 rfl)) ?_
  have f24 : Els kU S1 w1 ((U4 uge []) : List Value) uge := (els_mk4 (k := .u64) ugi)
  refine Xp 24 4 24 0 0 gx4 4 ugf p1 rfl rfl Xe (by kernel_rfl) (by kernel_rfl) (by kernel_rfl) lx5 (Xq fx5) fun w6 z6 p6 => ?_
  refine Gn 1 [] Jlt ?_
  obtain rfl := sj h
  have p6 := p6.dp 1
  exact Xx (fn := Tryz.f315) (by kernel_rfl) (v := .agg ugf.toArray) (results_n1 (fn := Tryz.f315) (a := .cell 4 24) (by kernel_rfl) (resV_cell ⟨gx4, 0, none⟩ (by kernel_rfl) (run_loadN ugf (by kernel_rfl) (by rw [lx5]; kernel_rfl) (At_all (p6.mem 0 rfl))))) ⟨S1, ugf, rfl, (hx.t z6), p6.drop, (fx5.ext z6), lx5⟩
theorem W.z4j (x0 : Int) (x1 : Int) (r : List Int) (h : M.a7 x0 x1 = some r) {nz wz S0 w0 Lr} (p0 : Hp nz wz S0 w0 (Lr)) :
  Calls Tg 315 #[.int .u8 x0, .int .u8 x1] w0 (Rets (Post.z4j nz wz S0 w0 Lr r)) := by
 refine Zf Tryz.f315 B315 23 ?_
 refine Gj 25 [(0, .int .u8 x0), (1, .int .u8 x1)] fun junk => ?_
 delta M.a7 at h
 refine Gn 2 [] (Yt 10 B315 [0] (Ys 11 B315 [])) ?_
 refine Oa 24 4 0 (.agg #[.u 0, .u 0, .u 0, .u 0]) [.u 0, .u 0, .u 0, .u 0] p0 Xa fun b1 w2 z2 p2 => ?_
 refine Gn 3 [] (Yt 110 B315 [0] (Ys 111 B315 [])) ?_
 refine Oa 24 5 0 (.agg #[.u 0, .u 0, .u 0, .u 0]) [.u 0, .u 0, .u 0, .u 0] p2 Xa fun b3 w3 z3 p3 => ?_
 refine Gm 10 [([7], .int .u8 x0), ([8, 6], .i (wr .i64 x0))] Jln ?_
 have f7 : Els kU S0 w3 ([.u 0, .u 0, .u 0, .u 0] : List Value) [0, 0, 0, 0] := (Els.cons (K := kU) (vs := [.u 0]) (x := 0) rfl (Els.cons (K := kU) (vs := [.u 0]) (x := 0) rfl (Els.cons (K := kU) (vs := [.u 0]) (x := 0) rfl (Els.cons (K := kU) (vs := [.u 0]) (x := 0) rfl Els.nil))))
 have p3 := (p3.fr 0).fr 1
 exact Gj 25 [(1, .int .u8 x1), (4, (pt b1 0)), (5, (pt b3 0)), (6, .i (wr .i64 x0))] (W.z4k _ _ h _ _ (z2.t z3) _ _ _ p3 rfl f7 rfl)
def Qh1 := Yq 1110100 B297
def Jm1 := Zl Qh1 (Zb 0 (Ys 1111 B297 []))
def Jm2 := Zc Qh1 Jm1
def Jm4 := Zb 1 (Ys 1110100111 B297 Jm1)
def Qh3 := Yq 111010011001100 B297
def Jm6 := Zl Qh3 (Zb 2 Jm4)
def Jm7 := Zc Qh3 Jm6
def Jmc := Ys 11111 B297 []
def Post.z4l (r : List Int) (v : Value) (w' : World) : Prop :=
 ∃ S' vsq, v = .agg vsq.toArray ∧ Ext S0 w0 S' w' ∧ Hp nz wz S' w' (Lr) ∧ Els kU S' w' vsq r ∧ vsq.length = 4
def L.z4m : (List Int) × (List Int) × (List (List Int)) × Int × Int → (List Int) → Prop := fun ⟨u4, x3, x7, x8, x9⟩ r => ∀ S1 w1, Ext S0 w0 S1 w1 → ∀ gx2 gx3 u6j Ax7 nx7 cx7 (_ : Hp nz wz S1 w1 ((some gx2, .row 24 (U4 u4 []) 4 0) :: (some gx3, .row 24 u6j 4 0) :: Lr)) (_ : u4.length = 4) (_ : Els kU S1 w1 u6j x3) (_ : u6j.length = 4) (_ : Rd (kArr 4 kU) S1 w1 Ax7 cx7 x7) (_ : x7.length = nx7) (junk : Nat → Value),
 Goes Tg (base 297) Jm2 ⟨lfr 27 [(2, (pt gx2 0)), (3, (pt gx3 0)), (7, .slice Ax7 nx7 cx7), (8, .i x8), (9, .i x9)] junk, []⟩ w1 (Done Tg 297 (Rets (Post.z4l nz wz S0 w0 Lr r)))
def L.z4n : (List Int) × (List Int) × (List Int) × (List (List Int)) × Int × Int × Int → (List Int) → Prop := fun ⟨u4, x3, x5, x7, x8, x9, x13⟩ r => ∀ S1 w1, Ext S0 w0 S1 w1 → ∀ gx2 gx3 u6j gx5 ugf Ax7 nx7 cx7 (_ : Hp nz wz S1 w1 ((some gx2, .row 24 (U4 u4 []) 4 0) :: (some gx3, .row 24 u6j 4 0) :: (some gx5, .row 24 ugf 4 0) :: Lr)) (_ : u4.length = 4) (_ : Els kU S1 w1 u6j x3) (_ : u6j.length = 4) (_ : Els kU S1 w1 ugf x5) (_ : ugf.length = 4) (_ : Rd (kArr 4 kU) S1 w1 Ax7 cx7 x7) (_ : x7.length = nx7) (junk : Nat → Value),
 Goes Tg (base 297) Jm7 ⟨lfr 27 [(2, (pt gx2 0)), (3, (pt gx3 0)), (5, (pt gx5 0)), (7, .slice Ax7 nx7 cx7), (8, .i x8), (9, .i x9), (13, .i x13)] junk, []⟩ w1 (Done Tg 297 (Rets (Post.z4l nz wz S0 w0 Lr r)))
theorem W.z4o {nz wz S0 w0 Lr} : (∀ a r, M.a1h a = some r → (L.z4m nz wz S0 w0 Lr) a r) ∧ (∀ a r, M.a2l a = some r → (L.z4n nz wz S0 w0 Lr) a r) := by
 refine M.a1h.mutual_partial_correctness (L.z4m nz wz S0 w0 Lr) (L.z4n nz wz S0 w0 Lr) ?_ ?_
 ·
  intro ugk ugl ⟨u4, x3, x7, x8, x9⟩ r h S1 w1 hx gx2 gx3 u6j Ax7 nx7 cx7 p1 ugb fx3 lx3 fx7 lx7 junk
  try dsimp only at h
  subst lx7
  refine Gn 5 [(10, .bool (decide (x9 < x8)))] (Ys 111010010 B297 (Ys 111010011 B297 Jm1)) ?_
  refine Gi h (fun h8 h => ?_) fun h8 h => ?_
  ·
   rw [dt h8]
   refine Gn 6 [] (Yt 111010011000 B297 [0, 1, 2, 3] (Ys 111010011001 B297 Jm4)) ?_
   refine Gg h fun g9 h => ?_
   refine Gg h fun g10 h => ?_
   refine Oi 405 7 9 11 0 24 .i64 x9 (gi x7 x9) rfl rfl fx7 Xa g9 g10 fun a11 _ f12 q13 => ?_
   obtain ⟨l14, f15⟩ := q13
   obtain rfl := els_lit4' f15 l14
   refine Xg 24 11 12 24 a11 (U4 (gi x7 x9) []) (f12.cell) ?_
   refine Oa 24 5 0 (.agg #[.u 0, .u 0, .u 0, .u 0]) [.u 0, .u 0, .u 0, .u 0] p1 Xa fun b16 w4 z4 p4 => ?_
   refine So 24 5 12 0 0 b16 0 (ag (U4 (gi x7 x9) [])) (U4 (gi x7 x9) []) p4 rfl Xe fun w5 z5 p5 => ?_
   refine Gn 7 [(13, .i 0)] Jm7 ?_
   have f21 : Els kU S1 w5 ((U4 (gi x7 x9) []) : List Value) (gi x7 x9) := (els_mk4 (k := .u64) l14)
   have p5 := ((p5.fr 0).fr 2).fr 2
   exact Gj 27 [(2, (pt gx2 0)), (3, (pt gx3 0)), (5, (pt b16 0)), (7, Sl Ax7 x7 cx7), (8, .i x8), (9, .i x9), (13, .i 0)] (ugl _ _ h _ _ ((hx.t z4).t z5) _ _ _ _ _ _ _ _ p5 ugb (fx3.ext (z4.t z5)) lx3 f21 rfl (fx7.ext (z4.t z5)) rfl)
  ·
   rw [df h8]
   refine Gn 4 [] (Yt 11110 B297 [0, 1] Jmc) ?_
   refine Xs 24 3 26 24 ⟨gx3, 0, none⟩ u6j Xa (by kernel_rfl) (by kernel_rfl) (by rw [lx3]; kernel_rfl) (At_all (p1.mem 1 rfl)) ?_
   have f22 : Els kU S1 w1 ((U4 u4 []) : List Value) u4 := (els_mk4 (k := .u64) ugb)
   refine Xp 24 2 26 0 0 gx2 4 u6j p1 rfl rfl Xe (by kernel_rfl) (by kernel_rfl) (by kernel_rfl) lx3 (Xq fx3) fun w6 z6 p6 => ?_
   refine Gn 1 [] Jmc ?_
   obtain rfl := sj h
   have p6 := p6.dp 1
   exact Xx (fn := Tryz.f297) (by kernel_rfl) (v := .agg u6j.toArray) (results_n1 (fn := Tryz.f297) (a := .cell 2 24) (by kernel_rfl) (resV_cell ⟨gx2, 0, none⟩ (by kernel_rfl) (run_loadN u6j (by kernel_rfl) (by rw [lx3]; kernel_rfl) (At_all (p6.mem 0 rfl))))) ⟨S1, u6j, rfl, (hx.t z6), p6.drop, (fx3.ext z6), lx3⟩
 ·
  intro ugm ugk ugn ugl ⟨u4, x3, x5, x7, x8, x9, x13⟩ r h S1 w1 hx gx2 gx3 u6j gx5 ugf Ax7 nx7 cx7 p1 ugb fx3 lx3 fx5 lx5 fx7 lx7 junk
  try dsimp only at h
  subst lx7
  refine Gn 5 [(14, .bool (decide (x13 < 4)))] (Ys 11101001100110010 B297 (Ys 11101001100110011 B297 Jm6)) ?_
  refine Gi h (fun h23 h => ?_) fun h23 h => ?_
  ·
   rw [dt h23]
   refine Gm 9 [([15, 6], .i x13)] (Ys 11101001100110011001 B297 (Zb 3 (Ys 111010011001100111 B297 Jm6))) ?_
   have z7 : Ext S1 w1 S1 (w1).drew := Xk
   have p7 := p1.draw
   refine Gd [8] (Fc S1 (w1).drew ([] ++ (rowCellsO (some gx3) u6j ++ (rowCellsO (some gx5) ugf ++ [])))) 8 9 ?_
   generalize (w1).drew = w7 at z7 p7 ⊢
   refine Xb 0 (.move 6) 16 3 (.i x13) (Xu (Xh trivial (Xh (Xl (p7.mem 1 rfl)) (Xh (Xl (p7.mem 2 rfl)) trivial)))) ?_
   refine Gg h fun g24 h => ?_
   refine AnyG.ixA_n (i := 1) (K := kU) 24 3 16 17 0 22 4 .i64 x13 1 (gi x3 x13) rfl p7 rfl (fx3.ext z7) (Xm (fx3.ext z7) lx3 rfl) (by kernel_rfl) (by kernel_rfl) (Xu (Xh trivial (Xh (Xl (p7.mem 1 rfl)) (Xh (Xl (p7.mem 2 rfl)) trivial)))) (by kernel_rfl) (by kernel_rfl) (by kernel_rfl) (by kernel_rfl) g24 h23 fun _ q26 f27 f25 => ?_
   obtain rfl := q26
   refine Al 2 22 17 18 22 ⟨gx3, (x13 : Int).toNat * kU.size, none⟩ (.u (gi x3 x13)) (Xu (Xh trivial (Xh (Xl (p7.mem 1 rfl)) (Xh (Xl (p7.mem 2 rfl)) trivial)))) (fun _ h => h.2.right.left.rowAt (f27 0 _ rfl)) ?_
   refine Xb 3 (.move 6) 19 3 (.i x13) (Xu (Xh trivial (Xh (Xl (p7.mem 1 rfl)) (Xh (Xl (p7.mem 2 rfl)) trivial)))) ?_
   refine AnyG.ixA_n (i := 4) (K := kU) 24 5 19 20 0 22 4 .i64 x13 2 (gi x5 x13) rfl p7 rfl (fx5.ext z7) (Xm (fx5.ext z7) lx5 rfl) (by kernel_rfl) (by kernel_rfl) (Xu (Xh trivial (Xh (Xl (p7.mem 1 rfl)) (Xh (Xl (p7.mem 2 rfl)) trivial)))) (by kernel_rfl) (by kernel_rfl) (by kernel_rfl) (by kernel_rfl) g24 h23 fun _ q29 f30 f28 => ?_
   obtain rfl := q29
   refine Al 5 22 20 21 22 ⟨gx5, (x13 : Int).toNat * kU.size, none⟩ (.u (gi x5 x13)) (Xu (Xh trivial (Xh (Xl (p7.mem 1 rfl)) (Xh (Xl (p7.mem 2 rfl)) trivial)))) (fun _ h => h.2.right.right.left.rowAt (f30 0 _ rfl)) ?_
   refine Xb 6 (.binOp .or 22 18 21 22) 22 22 (.u (ior .u64 (gi x3 x13) (gi x5 x13))) (Xu (Xh trivial (Xh (Xl (p7.mem 1 rfl)) (Xh (Xl (p7.mem 2 rfl)) trivial)))) ?_
   refine AnyG.ixA_n (i := 7) (K := kU) 24 3 16 23 0 22 4 .i64 x13 1 (gi x3 x13) rfl p7 rfl (fx3.ext z7) (Xm (fx3.ext z7) lx3 rfl) (by kernel_rfl) (by kernel_rfl) (Xu (Xh trivial (Xh (Xl (p7.mem 1 rfl)) (Xh (Xl (p7.mem 2 rfl)) trivial)))) (by kernel_rfl) (by kernel_rfl) (by kernel_rfl) (by kernel_rfl) g24 h23 fun _ q32 f33 f31 => ?_
   obtain rfl := q32
   refine Gl h fun v34 e35 h => ?_
   refine Op_.stE_n (K := kU) 22 23 22 0 1 x13 (.u (ior .u64 (gi x3 x13) (gi x5 x13))) [.u (ior .u64 (gi x3 x13) (gi x5 x13))] (ior .u64 (gi x3 x13) (gi x5 x13)) v34 4 (Xm (fx3.ext z7) lx3 rfl) e35 p7 rfl (fx3.ext z7) (As 8) (by kernel_rfl) (by kernel_rfl) (by kernel_rfl) rfl (by kernel_rfl) g24 h23 (Nat.zero_le _) fun w8 ugo z8 p8 f37 l38 => ?_
   have l39 : ugo.length = 4 := by rw [f37.length, l38]; rfl
   refine Xi [] (Fc S1 w8 []) (by decide) ?_
   refine Ad ?_
   refine Gm 6 [([24, 13], .i (wr .i64 (x13 + 1)))] Jm7 ?_
   exact Gj 27 [(2, (pt gx2 0)), (3, (pt gx3 0)), (5, (pt gx5 0)), (7, Sl Ax7 x7 cx7), (8, .i x8), (9, .i x9), (13, .i (wr .i64 (x13 + 1)))] (ugl _ _ h _ _ ((hx.t z7).t z8) _ _ _ _ _ _ _ _ p8 ugb f37 l39 (fx5.ext (z7.t z8)) lx5 (fx7.ext (z7.t z8)) rfl)
  ·
   rw [df h23]
   refine Gm 8 [([25, 9], .i (wr .i64 (x9 + 1)))] Jm2 ?_
   have p1 := p1.dp 2
   exact Gj 27 [(2, (pt gx2 0)), (3, (pt gx3 0)), (7, Sl Ax7 x7 cx7), (8, .i x8), (9, .i (wr .i64 (x9 + 1)))] (ugn _ _ h _ _ hx _ _ _ _ _ _ p1 ugb fx3 lx3 fx7 rfl)
theorem W.z4m {nz wz S0 w0 Lr} : ∀ a r, M.a1h a = some r → (L.z4m nz wz S0 w0 Lr) a r := (W.z4o).1
theorem W.z4n {nz wz S0 w0 Lr} : ∀ a r, M.a2l a = some r → (L.z4n nz wz S0 w0 Lr) a r := (W.z4o).2
theorem W.z4l (x0 : List (List Int)) (r : List Int) (h : M.aw x0 = some r) {nz wz S0 w0 Lr} (Ax0 nx0 cx0) (p0 : Hp nz wz S0 w0 (Lr)) (fx0 : Rd (kArr 4 kU) S0 w0 Ax0 cx0 x0) (lx0 : x0.length = nx0) :
  Calls Tg 297 #[.slice Ax0 nx0 cx0] w0 (Rets (Post.z4l nz wz S0 w0 Lr r)) := by
 subst lx0
 refine Zf Tryz.f297 B297 26 ?_
 refine Gj 27 [(0, Sl Ax0 x0 cx0)] fun junk => ?_
 delta M.aw at h
 refine Gn 2 [] (Yt 10 B297 [0] (Ys 11 B297 [])) ?_
 refine Oa 24 2 0 (.agg #[.u 0, .u 0, .u 0, .u 0]) [.u 0, .u 0, .u 0, .u 0] p0 Xa fun b1 w2 z2 p2 => ?_
 refine Gn 3 [] (Yt 110 B297 [0] (Ys 111 B297 [])) ?_
 refine Oa 24 3 0 (.agg #[.u 0, .u 0, .u 0, .u 0]) [.u 0, .u 0, .u 0, .u 0] p2 Xa fun b3 w3 z3 p3 => ?_
 refine Gn 10 [(7, Sl Ax0 x0 cx0), (8, .i (x0.length : Int)), (9, .i 0)] Jm2 ?_
 have f7 : Els kU S0 w3 ([.u 0, .u 0, .u 0, .u 0] : List Value) [0, 0, 0, 0] := (Els.cons (K := kU) (vs := [.u 0]) (x := 0) rfl (Els.cons (K := kU) (vs := [.u 0]) (x := 0) rfl (Els.cons (K := kU) (vs := [.u 0]) (x := 0) rfl (Els.cons (K := kU) (vs := [.u 0]) (x := 0) rfl Els.nil))))
 have p3 := (p3.fr 0).fr 1
 exact Gj 27 [(2, (pt b1 0)), (3, (pt b3 0)), (7, Sl Ax0 x0 cx0), (8, .i (x0.length : Int)), (9, .i 0)] (W.z4m _ _ h _ _ (z2.t z3) _ _ _ _ _ _ p3 rfl f7 rfl (fx0.ext (z2.t z3)) rfl)
def Jms := Zb 0 (Ys 1111 B298 [])
def Jmu := Zb 4 (Ys 1110101 B298 Jms)
def Jmw := Zb 3 (Ys 111010001 B298 Jmu)
def Jmy := Zb 2 (Ys 11101000001 B298 Jmw)
def Jn0 := Ys 1110100000001 B298 Jmy
def Jn2 := Ys 111010000000001 B298 (Zb 1 Jn0)
def Jn6 := Ys 111010000010 B298 (Ys 111010000011 B298 Jmw)
def Jn7 := Ys 11111 B298 []
def Jn8 := Ys 111101 B298 Jn7
def Jn9 := Yt 1111010 B298 [0, 1, 2] Jn7
def Jna := Ys 111111 B298 []
def Jnb := Yt 111110 B298 [0, 1, 2] Jna
def Jni := Ys 111010101 B298 (Ys 11101011 B298 Jms)
def Post.z4p (r : (List Int) × Bool) (v : Value) (w' : World) : Prop :=
 ∃ S' ugp, v = .tuple #[.agg ugp.toArray, .bool r.2] ∧ Ext S0 w0 S' w' ∧ Hp nz wz S' w' (Lr) ∧ Els kU S' w' ugp r.1 ∧ ugp.length = 4
theorem W.z4p (x0 : Int) (r : (List Int) × Bool) (h : M.a59 x0 = some r) {nz wz S0 w0 Lr} (p0 : Hp nz wz S0 w0 (Lr)) :
  Calls Tg 298 #[.int .u8 x0] w0 (Rets (Post.z4p nz wz S0 w0 Lr r)) := by
 refine Zf Tryz.f298 B298 34 ?_
 refine Gj 35 [(0, .int .u8 x0)] fun junk => ?_
 delta M.a59 at h
 refine Gn 2 [] (Yt 10 B298 [0, 1] (Ys 11 B298 [])) ?_
 refine Oa 24 2 0 (.agg #[.u 0, .u 0, .u 0, .u 0]) [.u 0, .u 0, .u 0, .u 0] p0 Xa fun b1 w2 z2 p2 => ?_
 refine Gn 4 [(3, .bool false)] (Yt 110 B298 [0] (Ys 111 B298 [])) ?_
 refine Oa 24 4 0 (.agg #[.u 0, .u 0, .u 0, .u 0]) [.u 0, .u 0, .u 0, .u 0] p2 Xa fun b3 w3 z3 p3 => ?_
 refine Gn 14 [(5, .int .u8 x0), (6, .int .u8 (ior .u8 x0 32))] (Ys 111010000000 B298 Jmy) ?_
 refine Gm 9 [([8, 7], .bool (decide (ior .u8 x0 32 = 119)))] (Ys 11101000000000001 B298 (Ys 1110100000000001 B298 Jn2)) ?_
 refine Gi h (fun h5 h => ?_) fun h5 h => ?_
 ·
  rw [dt h5]
  refine Gn 2 [] Jn0 ?_
  have z4 : Ext S0 w3 S0 (w3).drew := Xk
  have p4 := p3.draw
  refine Gd [4, 5, 6] (Fc S0 (w3).drew [(⟨b3, 0, none⟩, .u 0), (⟨b3, 1, none⟩, .u 0), (⟨b3, 2, none⟩, .u 0), (⟨b3, 3, none⟩, .u 0)]) 6 7 ?_
  generalize (w3).drew = w4 at z4 p4 ⊢
  refine Xw (i := 0) 24 4 13 24 ⟨b3, 0, none⟩ [.u 0, .u 0, .u 0, .u 0] (by kernel_rfl) (by kernel_rfl) (p4.k [(0, 0, 4)]) (by kernel_rfl) (by kernel_rfl) (by kernel_rfl) (fun _ h j v hj => by match j, hj with | 0, rfl => exact h.2.at_ 0 rfl | 1, rfl => exact h.2.at_ 1 rfl | 2, rfl => exact h.2.at_ 2 rfl | 3, rfl => exact h.2.at_ 3 rfl | (j + 4), hj => simp at hj) ?_
  refine Gb h fun y6 e7 h => ?_
  refine Oc (.call { callee := .value (.func 315), args := #[(.const (.int .u8 97)), (.const (.int .u8 122))], argTypes := #[5, 5] }) 14 24 315 #[.int .u8 97, .int .u8 122] (Ac 1) (W.z4j 97 122 y6 e7  p4 ) ?_
  rintro _ w5 ⟨S5, ugq, rfl, z5, p5, u53, ugr⟩
  refine Xo z5 ⟨(p5.c 0 0), (p5.c 0 1), (p5.c 0 2), (p5.c 0 3), trivial⟩ ?_
  refine Gb h fun y8 e9 h => ?_
  refine Oc (.call { callee := .value (.func 315), args := #[(.const (.int .u8 65)), (.const (.int .u8 90))], argTypes := #[5, 5] }) 15 24 315 #[.int .u8 65, .int .u8 90] (Ac 2) (W.z4j 65 90 y8 e9  p5 ) ?_
  rintro _ w6 ⟨S6, ugs, rfl, z6, p6, u73, ugt⟩
  refine Xo z6 ⟨(p6.c 0 0), (p6.c 0 1), (p6.c 0 2), (p6.c 0 3), trivial⟩ ?_
  refine Gb h fun y10 e11 h => ?_
  refine Oc (.call { callee := .value (.func 274), args := #[(.const (.int .u8 95))], argTypes := #[5] }) 16 24 274 #[.int .u8 95] (Ac 3) (W.z4f 95 y10 e11  p6 ) ?_
  rintro _ w7 ⟨S7, ugu, rfl, z7, p7, ugv, ugw⟩
  refine Xo z7 ⟨(p7.c 0 0), (p7.c 0 1), (p7.c 0 2), (p7.c 0 3), trivial⟩ ?_
  have l12 := Xm (u53.ext (z6.t z7)) ugr rfl
  obtain rfl := els_lit4 (u53.ext (z6.t z7)) ugr
  have l13 := Xm (u73.ext z7) ugt rfl
  obtain rfl := els_lit4 (u73.ext z7) ugt
  have l14 := Xm ugv ugw rfl
  obtain rfl := els_lit4 ugv ugw
  have f16 : Els (kArr 4 kU) S7 w7 ((.u 0 :: .u 0 :: .u 0 :: .u 0 :: U4 y6 (U4 y8 (U4 y10 []))) : List Value) [[0, 0, 0, 0], y6, y8, y10] := by exact (Els.cons (K := (kArr 4 kU)) (vs := [.u 0, .u 0, .u 0, .u 0]) (x := [0, 0, 0, 0]) ⟨rfl, (Els.cons (K := kU) (vs := [.u 0]) (x := 0) rfl (Els.cons (K := kU) (vs := [.u 0]) (x := 0) rfl (Els.cons (K := kU) (vs := [.u 0]) (x := 0) rfl (Els.cons (K := kU) (vs := [.u 0]) (x := 0) rfl Els.nil))))⟩ (Els.cons (K := (kArr 4 kU)) (vs := (U4 y6 [])) (x := y6) ⟨l12, els_mk4 l12⟩ (Els.cons (K := (kArr 4 kU)) (vs := (U4 y8 [])) (x := y8) ⟨l13, els_mk4 l13⟩ (Els.cons (K := (kArr 4 kU)) (vs := (U4 y10 [])) (x := y10) ⟨l14, els_mk4 l14⟩ Els.nil))))
  refine Om (.buildSlice 405 4 #[(0, 13), (1, 14), (2, 15), (3, 16)]) 17 405 (fun b => .slice (Gp (some b)) 4 4) 24 ((.u 0 :: .u 0 :: .u 0 :: .u 0 :: U4 y6 (U4 y8 (U4 y10 []))) : List Value) (4 * (kArr 4 kU).size) p7 (Av 4) fun b15 w8 z8 p8 => ?_
  refine Xi [5, 6] (Fc S7 w8 []) (by decide) ?_
  obtain ⟨S9, z9, p9, f18⟩ := p8.freezeRd 0 rfl (f16.ext z8) (by decide)
  refine Xz z9 ?_
  refine Gb h fun y19 e20 h => ?_
  refine Oc (kc 297 [17] #[405]) 18 24 297 #[.slice (Gp (some b15)) 4 4] (Ac 5) (W.z4l [[0, 0, 0, 0], y6, y8, y10] y19 e20 _ _ _ p9 f18 rfl) ?_
  rintro _ w10 ⟨S10, ugx, rfl, z10, p10, ugy, ugz⟩
  refine Xi [6] (Fc S10 w10 []) (by decide) ?_
  have f21 : Els kU S10 w10 ([.u 0, .u 0, .u 0, .u 0] : List Value) [0, 0, 0, 0] := (Els.cons (K := kU) (vs := [.u 0]) (x := 0) rfl (Els.cons (K := kU) (vs := [.u 0]) (x := 0) rfl (Els.cons (K := kU) (vs := [.u 0]) (x := 0) rfl (Els.cons (K := kU) (vs := [.u 0]) (x := 0) rfl Els.nil))))
  refine Xp 24 4 18 0 1 b3 4 ugx p10 rfl rfl (As 6) (by kernel_rfl) (by kernel_rfl) (by kernel_rfl) ugz (Xq ugy) fun w11 z11 p11 => ?_
  refine Xi [] (Fc S10 w11 []) (by decide) ?_
  refine Ad ?_
  have p11 := p11.dp 0
  refine Gn 2 [] Jn6 ?_
  have z12 : Ext S10 w11 S10 (w11).drew := Xk
  have p12 := p11.draw
  refine Gd [2, 3, 4] (Fc S10 (w11).drew ([] ++ (rowCellsO (some b3) ugx ++ []))) 7 5 ?_
  generalize (w11).drew = w12 at z12 p12 ⊢
  refine Xw (i := 0) 24 4 19 24 ⟨b3, 0, none⟩ ugx (by kernel_rfl) (by kernel_rfl) (p12.ro 0 rfl) (by kernel_rfl) (by kernel_rfl) (by rw [ugz]; kernel_rfl) (fun _ h => h.2.right.left.rowsAt (fun q v hq => by rw [Nat.zero_add]; exact hq)) ?_
  refine Gb h fun y22 e23 h => ?_
  refine Oc (.call { callee := .value (.func 315), args := #[(.const (.int .u8 48)), (.const (.int .u8 57))], argTypes := #[5, 5] }) 20 24 315 #[.int .u8 48, .int .u8 57] (Ac 1) (W.z4j 48 57 y22 e23  p12 ) ?_
  rintro _ w13 ⟨S13, uh0, rfl, z13, p13, ufb, uh1⟩
  refine Xo z13 (Xh trivial (Xh (Xl (p13.mem 0 rfl)) trivial)) ?_
  have l24 := Xm (ugy.ext ((z11.t z12).t z13)) ugz rfl
  obtain rfl := els_lit4 (ugy.ext ((z11.t z12).t z13)) ugz
  have l25 := Xm ufb uh1 rfl
  obtain rfl := els_lit4 ufb uh1
  have f27 : Els (kArr 4 kU) S13 w13 ((U4 y19 (U4 y22 [])) : List Value) [y19, y22] := by exact (Els.cons (K := (kArr 4 kU)) (vs := (U4 y19 [])) (x := y19) ⟨l24, els_mk4 l24⟩ (Els.cons (K := (kArr 4 kU)) (vs := (U4 y22 [])) (x := y22) ⟨l25, els_mk4 l25⟩ Els.nil))
  refine Om (.buildSlice 405 2 #[(0, 19), (1, 20)]) 21 405 (fun b => .slice (Gp (some b)) 2 2) 24 ((U4 y19 (U4 y22 [])) : List Value) (2 * (kArr 4 kU).size) p13 (Av 2) fun b26 w14 z14 p14 => ?_
  refine Xi [3, 4] (Fc S13 w14 []) (by decide) ?_
  obtain ⟨S15, z15, p15, f29⟩ := p14.freezeRd 0 rfl (f27.ext z14) (by decide)
  refine Xz z15 ?_
  refine Gb h fun y30 e31 h => ?_
  refine Oc (kc 297 [21] #[405]) 22 24 297 #[.slice (Gp (some b26)) 2 2] (Ac 3) (W.z4l [y19, y22] y30 e31 _ _ _ p15 f29 rfl) ?_
  rintro _ w16 ⟨S16, uh2, rfl, z16, p16, uf0, uh3⟩
  refine Xi [4] (Fc S16 w16 []) (by decide) ?_
  refine Xp 24 4 22 0 1 b3 4 uh2 p16 rfl ugz (As 4) (by kernel_rfl) (by kernel_rfl) (by kernel_rfl) uh3 (Xq uf0) fun w17 z17 p17 => ?_
  refine Xi [] (Fc S16 w17 []) (by decide) ?_
  refine Ad ?_
  have p17 := p17.dp 0
  refine Gn 8 [(29, .int .u8 x0), (30, .int .u8 (iand .u8 x0 32)), (31, .bool (decide (iand .u8 x0 32 = 0)))] Jn8 ?_
  refine Gi h (fun h32 h => ?_) fun h32 h => ?_
  ·
   rw [dt h32]
   refine Gn 2 [] Jn9 ?_
   refine Xs 24 4 32 24 ⟨b3, 0, none⟩ uh2 Xa (by kernel_rfl) (by kernel_rfl) (by rw [uh3]; kernel_rfl) (At_all (p17.mem 0 rfl)) ?_
   refine Gb h fun y33 e34 h => ?_
   refine Gc (kc 273 [32] #[24]) 33 24 273 _ (W.z4g y30 y33 e34 _ p17 (uf0.ext z17) uh3) ?_
   rintro _ w18 ⟨S18, uh4, rfl, z18, p18, uh5, uh6⟩
   refine Xp 24 4 33 0 0 b3 4 uh4 p18 rfl uh3 Xe (by kernel_rfl) (by kernel_rfl) (by kernel_rfl) uh6 (Xq uh5) fun w19 z19 p19 => ?_
   refine Gn 3 [] Jnb ?_
   refine Xs 24 4 34 24 ⟨b3, 0, none⟩ uh4 Xa (by kernel_rfl) (by kernel_rfl) (by rw [uh6]; kernel_rfl) (At_all (p19.mem 0 rfl)) ?_
   have f35 : Els kU S18 w19 ([.u 0, .u 0, .u 0, .u 0] : List Value) [0, 0, 0, 0] := (Els.cons (K := kU) (vs := [.u 0]) (x := 0) rfl (Els.cons (K := kU) (vs := [.u 0]) (x := 0) rfl (Els.cons (K := kU) (vs := [.u 0]) (x := 0) rfl (Els.cons (K := kU) (vs := [.u 0]) (x := 0) rfl Els.nil))))
   refine Xp 24 2 34 0 1 b1 4 uh4 p19 rfl rfl Xe (by kernel_rfl) (by kernel_rfl) (by kernel_rfl) uh6 (Xq (uh5.ext z19)) fun w20 z20 p20 => ?_
   refine Gn 2 [(3, .bool true)] Jna ?_
   obtain rfl := sj h
   have p20 := p20.dp 0
   exact Xx (fn := Tryz.f298) (by kernel_rfl) (v := .tuple #[.agg uh4.toArray, .bool true]) (results_n2 (fn := Tryz.f298) (a := .cell 2 24) (b := .tmp 3) (by kernel_rfl) (resV_cell ⟨b1, 0, none⟩ (by kernel_rfl) (run_loadN uh4 (by kernel_rfl) (by rw [uh6]; kernel_rfl) (At_all (p20.mem 0 rfl)))) (resV_tmp (by kernel_rfl))) ⟨S18, uh4, rfl, ((((((((((((((((((z2.t z3).t z4).t z5).t z6).t z7).t z8).t z9).t z10).t z11).t z12).t z13).t z14).t z15).t z16).t z17).t z18).t z19).t z20), p20.drop, (uh5.ext (z19.t z20)), uh6⟩
  ·
   rw [df h32]
   refine Gn 4 [] Jnb ?_
   refine Xs 24 4 34 24 ⟨b3, 0, none⟩ uh2 Xa (by kernel_rfl) (by kernel_rfl) (by rw [uh3]; kernel_rfl) (At_all (p17.mem 0 rfl)) ?_
   have f36 : Els kU S16 w17 ([.u 0, .u 0, .u 0, .u 0] : List Value) [0, 0, 0, 0] := (Els.cons (K := kU) (vs := [.u 0]) (x := 0) rfl (Els.cons (K := kU) (vs := [.u 0]) (x := 0) rfl (Els.cons (K := kU) (vs := [.u 0]) (x := 0) rfl (Els.cons (K := kU) (vs := [.u 0]) (x := 0) rfl Els.nil))))
   refine Xp 24 2 34 0 1 b1 4 uh2 p17 rfl rfl Xe (by kernel_rfl) (by kernel_rfl) (by kernel_rfl) uh3 (Xq (uf0.ext z17)) fun w21 z21 p21 => ?_
   refine Gn 2 [(3, .bool true)] Jna ?_
   obtain rfl := sj h
   have p21 := p21.dp 0
   exact Xx (fn := Tryz.f298) (by kernel_rfl) (v := .tuple #[.agg uh2.toArray, .bool true]) (results_n2 (fn := Tryz.f298) (a := .cell 2 24) (b := .tmp 3) (by kernel_rfl) (resV_cell ⟨b1, 0, none⟩ (by kernel_rfl) (run_loadN uh2 (by kernel_rfl) (by rw [uh3]; kernel_rfl) (At_all (p21.mem 0 rfl)))) (resV_tmp (by kernel_rfl))) ⟨S16, uh2, rfl, ((((((((((((((((z2.t z3).t z4).t z5).t z6).t z7).t z8).t z9).t z10).t z11).t z12).t z13).t z14).t z15).t z16).t z17).t z21), p21.drop, (uf0.ext (z17.t z21)), uh3⟩
 ·
  rw [df h5]
  refine Gm 8 [([10, 9], .bool (decide (ior .u8 x0 32 = 100)))] (Ys 111010000000000101 B298 (Ys 11101000000000011 B298 Jn2)) ?_
  refine Gi h (fun h37 h => ?_) fun h37 h => ?_
  ·
   rw [dt h37]
   refine Gn 3 [] Jn6 ?_
   have z22 : Ext S0 w3 S0 (w3).drew := Xk
   have p22 := p3.draw
   refine Gd [2, 3, 4] (Fc S0 (w3).drew [(⟨b3, 0, none⟩, .u 0), (⟨b3, 1, none⟩, .u 0), (⟨b3, 2, none⟩, .u 0), (⟨b3, 3, none⟩, .u 0)]) 7 5 ?_
   generalize (w3).drew = w22 at z22 p22 ⊢
   refine Xw (i := 0) 24 4 19 24 ⟨b3, 0, none⟩ [.u 0, .u 0, .u 0, .u 0] (by kernel_rfl) (by kernel_rfl) (p22.k [(0, 0, 4)]) (by kernel_rfl) (by kernel_rfl) (by kernel_rfl) (fun _ h j v hj => by match j, hj with | 0, rfl => exact h.2.at_ 0 rfl | 1, rfl => exact h.2.at_ 1 rfl | 2, rfl => exact h.2.at_ 2 rfl | 3, rfl => exact h.2.at_ 3 rfl | (j + 4), hj => simp at hj) ?_
   refine Gb h fun y38 e39 h => ?_
   refine Oc (.call { callee := .value (.func 315), args := #[(.const (.int .u8 48)), (.const (.int .u8 57))], argTypes := #[5, 5] }) 20 24 315 #[.int .u8 48, .int .u8 57] (Ac 1) (W.z4j 48 57 y38 e39  p22 ) ?_
   rintro _ w23 ⟨S23, uh7, rfl, z23, p23, uh8, uh9⟩
   refine Xo z23 ⟨(p23.c 0 0), (p23.c 0 1), (p23.c 0 2), (p23.c 0 3), trivial⟩ ?_
   have l40 := Xm uh8 uh9 rfl
   obtain rfl := els_lit4 uh8 uh9
   have f42 : Els (kArr 4 kU) S23 w23 ((.u 0 :: .u 0 :: .u 0 :: .u 0 :: U4 y38 []) : List Value) [[0, 0, 0, 0], y38] := by exact (Els.cons (K := (kArr 4 kU)) (vs := [.u 0, .u 0, .u 0, .u 0]) (x := [0, 0, 0, 0]) ⟨rfl, (Els.cons (K := kU) (vs := [.u 0]) (x := 0) rfl (Els.cons (K := kU) (vs := [.u 0]) (x := 0) rfl (Els.cons (K := kU) (vs := [.u 0]) (x := 0) rfl (Els.cons (K := kU) (vs := [.u 0]) (x := 0) rfl Els.nil))))⟩ (Els.cons (K := (kArr 4 kU)) (vs := (U4 y38 [])) (x := y38) ⟨l40, els_mk4 l40⟩ Els.nil))
   refine Om (.buildSlice 405 2 #[(0, 19), (1, 20)]) 21 405 (fun b => .slice (Gp (some b)) 2 2) 24 ((.u 0 :: .u 0 :: .u 0 :: .u 0 :: U4 y38 []) : List Value) (2 * (kArr 4 kU).size) p23 (Av 2) fun b41 w24 z24 p24 => ?_
   refine Xi [3, 4] (Fc S23 w24 []) (by decide) ?_
   obtain ⟨S25, z25, p25, f44⟩ := p24.freezeRd 0 rfl (f42.ext z24) (by decide)
   refine Xz z25 ?_
   refine Gb h fun y45 e46 h => ?_
   refine Oc (kc 297 [21] #[405]) 22 24 297 #[.slice (Gp (some b41)) 2 2] (Ac 3) (W.z4l [[0, 0, 0, 0], y38] y45 e46 _ _ _ p25 f44 rfl) ?_
   rintro _ w26 ⟨S26, uha, rfl, z26, p26, uhb, uhc⟩
   refine Xi [4] (Fc S26 w26 []) (by decide) ?_
   have f47 : Els kU S26 w26 ([.u 0, .u 0, .u 0, .u 0] : List Value) [0, 0, 0, 0] := (Els.cons (K := kU) (vs := [.u 0]) (x := 0) rfl (Els.cons (K := kU) (vs := [.u 0]) (x := 0) rfl (Els.cons (K := kU) (vs := [.u 0]) (x := 0) rfl (Els.cons (K := kU) (vs := [.u 0]) (x := 0) rfl Els.nil))))
   refine Xp 24 4 22 0 1 b3 4 uha p26 rfl rfl (As 4) (by kernel_rfl) (by kernel_rfl) (by kernel_rfl) uhc (Xq uhb) fun w27 z27 p27 => ?_
   refine Xi [] (Fc S26 w27 []) (by decide) ?_
   refine Ad ?_
   have p27 := p27.dp 0
   refine Gn 8 [(29, .int .u8 x0), (30, .int .u8 (iand .u8 x0 32)), (31, .bool (decide (iand .u8 x0 32 = 0)))] Jn8 ?_
   refine Gi h (fun h48 h => ?_) fun h48 h => ?_
   ·
    rw [dt h48]
    refine Gn 2 [] Jn9 ?_
    refine Xs 24 4 32 24 ⟨b3, 0, none⟩ uha Xa (by kernel_rfl) (by kernel_rfl) (by rw [uhc]; kernel_rfl) (At_all (p27.mem 0 rfl)) ?_
    refine Gb h fun y49 e50 h => ?_
    refine Gc (kc 273 [32] #[24]) 33 24 273 _ (W.z4g y45 y49 e50 _ p27 (uhb.ext z27) uhc) ?_
    rintro _ w28 ⟨S28, uhd, rfl, z28, p28, uhe, uhf⟩
    refine Xp 24 4 33 0 0 b3 4 uhd p28 rfl uhc Xe (by kernel_rfl) (by kernel_rfl) (by kernel_rfl) uhf (Xq uhe) fun w29 z29 p29 => ?_
    refine Gn 3 [] Jnb ?_
    refine Xs 24 4 34 24 ⟨b3, 0, none⟩ uhd Xa (by kernel_rfl) (by kernel_rfl) (by rw [uhf]; kernel_rfl) (At_all (p29.mem 0 rfl)) ?_
    have f51 : Els kU S28 w29 ([.u 0, .u 0, .u 0, .u 0] : List Value) [0, 0, 0, 0] := (Els.cons (K := kU) (vs := [.u 0]) (x := 0) rfl (Els.cons (K := kU) (vs := [.u 0]) (x := 0) rfl (Els.cons (K := kU) (vs := [.u 0]) (x := 0) rfl (Els.cons (K := kU) (vs := [.u 0]) (x := 0) rfl Els.nil))))
    refine Xp 24 2 34 0 1 b1 4 uhd p29 rfl rfl Xe (by kernel_rfl) (by kernel_rfl) (by kernel_rfl) uhf (Xq (uhe.ext z29)) fun w30 z30 p30 => ?_
    refine Gn 2 [(3, .bool true)] Jna ?_
    obtain rfl := sj h
    have p30 := p30.dp 0
    exact Xx (fn := Tryz.f298) (by kernel_rfl) (v := .tuple #[.agg uhd.toArray, .bool true]) (results_n2 (fn := Tryz.f298) (a := .cell 2 24) (b := .tmp 3) (by kernel_rfl) (resV_cell ⟨b1, 0, none⟩ (by kernel_rfl) (run_loadN uhd (by kernel_rfl) (by rw [uhf]; kernel_rfl) (At_all (p30.mem 0 rfl)))) (resV_tmp (by kernel_rfl))) ⟨S28, uhd, rfl, ((((((((((z2.t z3).t z22).t z23).t z24).t z25).t z26).t z27).t z28).t z29).t z30), p30.drop, (uhe.ext (z29.t z30)), uhf⟩
   ·
    rw [df h48]
    refine Gn 4 [] Jnb ?_
    refine Xs 24 4 34 24 ⟨b3, 0, none⟩ uha Xa (by kernel_rfl) (by kernel_rfl) (by rw [uhc]; kernel_rfl) (At_all (p27.mem 0 rfl)) ?_
    have f52 : Els kU S26 w27 ([.u 0, .u 0, .u 0, .u 0] : List Value) [0, 0, 0, 0] := (Els.cons (K := kU) (vs := [.u 0]) (x := 0) rfl (Els.cons (K := kU) (vs := [.u 0]) (x := 0) rfl (Els.cons (K := kU) (vs := [.u 0]) (x := 0) rfl (Els.cons (K := kU) (vs := [.u 0]) (x := 0) rfl Els.nil))))
    refine Xp 24 2 34 0 1 b1 4 uha p27 rfl rfl Xe (by kernel_rfl) (by kernel_rfl) (by kernel_rfl) uhc (Xq (uhb.ext z27)) fun w31 z31 p31 => ?_
    refine Gn 2 [(3, .bool true)] Jna ?_
    obtain rfl := sj h
    have p31 := p31.dp 0
    exact Xx (fn := Tryz.f298) (by kernel_rfl) (v := .tuple #[.agg uha.toArray, .bool true]) (results_n2 (fn := Tryz.f298) (a := .cell 2 24) (b := .tmp 3) (by kernel_rfl) (resV_cell ⟨b1, 0, none⟩ (by kernel_rfl) (run_loadN uha (by kernel_rfl) (by rw [uhc]; kernel_rfl) (At_all (p31.mem 0 rfl)))) (resV_tmp (by kernel_rfl))) ⟨S26, uha, rfl, ((((((((z2.t z3).t z22).t z23).t z24).t z25).t z26).t z27).t z31), p31.drop, (uhb.ext (z27.t z31)), uhc⟩
  ·
   rw [df h37]
   refine Gm 7 [([12, 11], .bool (decide (ior .u8 x0 32 = 115)))] (Ys 111010000000000111 B298 Jn2) ?_
   refine Gi h (fun h53 h => ?_) fun h53 h => ?_
   ·
    rw [dt h53]
    refine Gn 4 [] (Yt 1110100010 B298 [0, 1, 2, 3, 4, 5] (Ys 1110100011 B298 Jmu)) ?_
    refine Gb h fun y54 e55 h => ?_
    refine Gc (.call { callee := .value (.func 315), args := #[(.const (.int .u8 9)), (.const (.int .u8 10))], argTypes := #[5, 5] }) 23 24 315 _ (W.z4j 9 10 y54 e55  p3 ) ?_
    rintro _ w32 ⟨S32, uhg, rfl, z32, p32, uhh, uhi⟩
    refine Gb h fun y56 e57 h => ?_
    refine Gc (.call { callee := .value (.func 315), args := #[(.const (.int .u8 12)), (.const (.int .u8 13))], argTypes := #[5, 5] }) 24 24 315 _ (W.z4j 12 13 y56 e57  p32 ) ?_
    rintro _ w33 ⟨S33, uhj, rfl, z33, p33, uhk, uhl⟩
    refine Gb h fun y58 e59 h => ?_
    refine Gc (.call { callee := .value (.func 274), args := #[(.const (.int .u8 32))], argTypes := #[5] }) 25 24 274 _ (W.z4f 32 y58 e59  p33 ) ?_
    rintro _ w34 ⟨S34, uhm, rfl, z34, p34, uhn, uho⟩
    have l60 := Xm (uhh.ext (z33.t z34)) uhi rfl
    obtain rfl := els_lit4 (uhh.ext (z33.t z34)) uhi
    have l61 := Xm (uhk.ext z34) uhl rfl
    obtain rfl := els_lit4 (uhk.ext z34) uhl
    have l62 := Xm uhn uho rfl
    obtain rfl := els_lit4 uhn uho
    have f64 : Els (kArr 4 kU) S34 w34 ((U4 y54 (U4 y56 (U4 y58 []))) : List Value) [y54, y56, y58] := by exact (Els.cons (K := (kArr 4 kU)) (vs := (U4 y54 [])) (x := y54) ⟨l60, els_mk4 l60⟩ (Els.cons (K := (kArr 4 kU)) (vs := (U4 y56 [])) (x := y56) ⟨l61, els_mk4 l61⟩ (Els.cons (K := (kArr 4 kU)) (vs := (U4 y58 [])) (x := y58) ⟨l62, els_mk4 l62⟩ Els.nil)))
    refine Om (.buildSlice 405 3 #[(0, 23), (1, 24), (2, 25)]) 26 405 (fun b => .slice (Gp (some b)) 3 3) 24 ((U4 y54 (U4 y56 (U4 y58 []))) : List Value) (3 * (kArr 4 kU).size) p34 Xa fun b63 w35 z35 p35 => ?_
    obtain ⟨S36, z36, p36, f66⟩ := p35.freezeRd 0 rfl (f64.ext z35) (by decide)
    refine Gb h fun y67 e68 h => ?_
    refine Gc (kc 297 [26] #[405]) 27 24 297 _ (W.z4l [y54, y56, y58] y67 e68 _ _ _ p36 f66 rfl) ?_
    rintro _ w37 ⟨S37, uhp, rfl, z37, p37, uhq, uhr⟩
    have p37 := p37.dp 0
    have f69 : Els kU S37 w37 ([.u 0, .u 0, .u 0, .u 0] : List Value) [0, 0, 0, 0] := (Els.cons (K := kU) (vs := [.u 0]) (x := 0) rfl (Els.cons (K := kU) (vs := [.u 0]) (x := 0) rfl (Els.cons (K := kU) (vs := [.u 0]) (x := 0) rfl (Els.cons (K := kU) (vs := [.u 0]) (x := 0) rfl Els.nil))))
    refine Xp 24 4 27 0 0 b3 4 uhp p37 rfl rfl Xe (by kernel_rfl) (by kernel_rfl) (by kernel_rfl) uhr (Xq uhq) fun w38 z38 p38 => ?_
    refine Gn 9 [(29, .int .u8 x0), (30, .int .u8 (iand .u8 x0 32)), (31, .bool (decide (iand .u8 x0 32 = 0)))] Jn8 ?_
    refine Gi h (fun h70 h => ?_) fun h70 h => ?_
    ·
     rw [dt h70]
     refine Gn 2 [] Jn9 ?_
     refine Xs 24 4 32 24 ⟨b3, 0, none⟩ uhp Xa (by kernel_rfl) (by kernel_rfl) (by rw [uhr]; kernel_rfl) (At_all (p38.mem 0 rfl)) ?_
     refine Gb h fun y71 e72 h => ?_
     refine Gc (kc 273 [32] #[24]) 33 24 273 _ (W.z4g y67 y71 e72 _ p38 (uhq.ext z38) uhr) ?_
     rintro _ w39 ⟨S39, uhs, rfl, z39, p39, uht, uhu⟩
     refine Xp 24 4 33 0 0 b3 4 uhs p39 rfl uhr Xe (by kernel_rfl) (by kernel_rfl) (by kernel_rfl) uhu (Xq uht) fun w40 z40 p40 => ?_
     refine Gn 3 [] Jnb ?_
     refine Xs 24 4 34 24 ⟨b3, 0, none⟩ uhs Xa (by kernel_rfl) (by kernel_rfl) (by rw [uhu]; kernel_rfl) (At_all (p40.mem 0 rfl)) ?_
     have f73 : Els kU S39 w40 ([.u 0, .u 0, .u 0, .u 0] : List Value) [0, 0, 0, 0] := (Els.cons (K := kU) (vs := [.u 0]) (x := 0) rfl (Els.cons (K := kU) (vs := [.u 0]) (x := 0) rfl (Els.cons (K := kU) (vs := [.u 0]) (x := 0) rfl (Els.cons (K := kU) (vs := [.u 0]) (x := 0) rfl Els.nil))))
     refine Xp 24 2 34 0 1 b1 4 uhs p40 rfl rfl Xe (by kernel_rfl) (by kernel_rfl) (by kernel_rfl) uhu (Xq (uht.ext z40)) fun w41 z41 p41 => ?_
     refine Gn 2 [(3, .bool true)] Jna ?_
     obtain rfl := sj h
     have p41 := p41.dp 0
     exact Xx (fn := Tryz.f298) (by kernel_rfl) (v := .tuple #[.agg uhs.toArray, .bool true]) (results_n2 (fn := Tryz.f298) (a := .cell 2 24) (b := .tmp 3) (by kernel_rfl) (resV_cell ⟨b1, 0, none⟩ (by kernel_rfl) (run_loadN uhs (by kernel_rfl) (by rw [uhu]; kernel_rfl) (At_all (p41.mem 0 rfl)))) (resV_tmp (by kernel_rfl))) ⟨S39, uhs, rfl, (((((((((((z2.t z3).t z32).t z33).t z34).t z35).t z36).t z37).t z38).t z39).t z40).t z41), p41.drop, (uht.ext (z40.t z41)), uhu⟩
    ·
     rw [df h70]
     refine Gn 4 [] Jnb ?_
     refine Xs 24 4 34 24 ⟨b3, 0, none⟩ uhp Xa (by kernel_rfl) (by kernel_rfl) (by rw [uhr]; kernel_rfl) (At_all (p38.mem 0 rfl)) ?_
     have f74 : Els kU S37 w38 ([.u 0, .u 0, .u 0, .u 0] : List Value) [0, 0, 0, 0] := (Els.cons (K := kU) (vs := [.u 0]) (x := 0) rfl (Els.cons (K := kU) (vs := [.u 0]) (x := 0) rfl (Els.cons (K := kU) (vs := [.u 0]) (x := 0) rfl (Els.cons (K := kU) (vs := [.u 0]) (x := 0) rfl Els.nil))))
     refine Xp 24 2 34 0 1 b1 4 uhp p38 rfl rfl Xe (by kernel_rfl) (by kernel_rfl) (by kernel_rfl) uhr (Xq (uhq.ext z38)) fun w42 z42 p42 => ?_
     refine Gn 2 [(3, .bool true)] Jna ?_
     obtain rfl := sj h
     have p42 := p42.dp 0
     exact Xx (fn := Tryz.f298) (by kernel_rfl) (v := .tuple #[.agg uhp.toArray, .bool true]) (results_n2 (fn := Tryz.f298) (a := .cell 2 24) (b := .tmp 3) (by kernel_rfl) (resV_cell ⟨b1, 0, none⟩ (by kernel_rfl) (run_loadN uhp (by kernel_rfl) (by rw [uhr]; kernel_rfl) (At_all (p42.mem 0 rfl)))) (resV_tmp (by kernel_rfl))) ⟨S37, uhp, rfl, (((((((((z2.t z3).t z32).t z33).t z34).t z35).t z36).t z37).t z38).t z42), p42.drop, (uhq.ext (z38.t z42)), uhr⟩
   ·
    rw [df h53]
    refine Gn 6 [] (Yt 111010100 B298 [0, 1, 2] Jni) ?_
    refine Xg 24 4 28 24 ⟨b3, 0, none⟩ [.u 0, .u 0, .u 0, .u 0] (p3.pa 0 0) ?_
    refine So 24 2 28 0 1 b1 0 (.agg #[.u 0, .u 0, .u 0, .u 0]) [.u 0, .u 0, .u 0, .u 0] p3 rfl Xe fun w43 z43 p43 => ?_
    refine Gn 2 [(3, .bool false)] Jni ?_
    obtain rfl := sj h
    have p43 := p43.dp 0
    exact R2 Tryz.f298 (.cell 2 24) 3 (.tuple #[.agg #[.u 0, .u 0, .u 0, .u 0], .bool false]) (Rn b1 (p43.pa 0 0)) Rt ⟨_, _, rfl, ((z2.t z3).t z43), p43.drop, (show Els kU S0 w43 ([.u 0, .u 0, .u 0, .u 0] : List Value) _ from (Els.cons (K := kU) (vs := [.u 0]) (x := 0) rfl (Els.cons (K := kU) (vs := [.u 0]) (x := 0) rfl (Els.cons (K := kU) (vs := [.u 0]) (x := 0) rfl (Els.cons (K := kU) (vs := [.u 0]) (x := 0) rfl Els.nil))))), rfl⟩
def Jnk := Ys 111 B323 []
def Jnl := Ys 1101 B323 Jnk
def Jno := Ys 1111 B323 []
def Post.z4q (r : Int) (v : Value) (w' : World) : Prop :=
 ∃ S', v = .int .u8 r ∧ Ext S0 w0 S' w' ∧ Hp nz wz S' w' (Lr)
theorem W.z4q (x0 : Int) (r : Int) (h : M.a7f x0 = some r) {nz wz S0 w0 Lr} (p0 : Hp nz wz S0 w0 (Lr)) :
  Calls Tg 323 #[.int .u8 x0] w0 (Rets (Post.z4q nz wz S0 w0 Lr r)) := by
 refine Zf Tryz.f323 B323 12 ?_
 refine Gj 13 [(0, .int .u8 x0)] fun junk => ?_
 delta M.a7f at h
 refine Gm 10 [([2], .int .u8 0), ([3], .int .u8 x0), ([4, 5], .bool (decide (x0 ≥ 65)))] (Yt 1100 B323 [3, 4, 5] Jnl) ?_
 refine Gi h (fun h1 h => ?_) fun h1 h => ?_
 ·
  rw [dt h1]
  refine Gm 4 [([6], .int .u8 x0), ([7, 8], .bool (decide (x0 ≤ 70)))] Jnl ?_
  refine Gi h (fun h2 h => ?_) fun h2 h => ?_
  ·
   rw [dt h2]
   refine Gm 8 [([9], .int .u8 x0), ([10], .int .u8 (wr .u8 (x0 + 97))), ([11, 2], .int .u8 (wr .u8 ((wr .u8 (x0 + 97)) - 65)))] (Ys 110101 B323 Jnk) ?_
   obtain rfl := sj h
   exact Xd Tryz.f323 (.int .u8 (wr .u8 ((wr .u8 (x0 + 97)) - 65))) ⟨_, rfl, (Xj S0 w0), p0⟩
  ·
   rw [df h2]
   refine Gm 7 [([12, 2], .int .u8 x0)] Jno ?_
   obtain rfl := sj h
   exact Xd Tryz.f323 (.int .u8 x0) ⟨_, rfl, (Xj S0 w0), p0⟩
 ·
  rw [df h1]
  refine Gm 11 [([6, 7], undef), ([8], .bool false), ([12, 2], .int .u8 x0)] Jno ?_
  obtain rfl := sj h
  exact Xd Tryz.f323 (.int .u8 x0) ⟨_, rfl, (Xj S0 w0), p0⟩
def Jnp := Ys 111 B199 []
def Post.z4r (r : Int) (v : Value) (w' : World) : Prop :=
 ∃ S', v = .i r ∧ Ext S0 w0 S' w' ∧ Hp nz wz S' w' (Lr)
theorem W.z4r (x0 : ByteArray) (x1 : Int) (r : Int) (h : M.a7g x0 x1 = some r) {nz wz S0 w0 Lr} (p0 : Hp nz wz S0 w0 (Lr)) :
  Calls Tg 199 #[.string x0, .int .u8 x1] w0 (Rets (Post.z4r nz wz S0 w0 Lr r)) := by
 refine Zf Tryz.f199 B199 6 ?_
 refine Gj 8 [(0, .string x0), (1, .int .u8 x1)] fun junk => ?_
 delta M.a7g at h
 refine Gn 8 [(4, .i 0), (5, .string x0), (6, .int .u8 x1)] (Yt 110 B199 [2, 3] Jnp) ?_
 refine Op_.ext { callee := .value (.func 249), args := #[5, 6], argTypes := #[9, 5] } 7 3 249 #[.string x0, .int .u8 x1] Tryz.f249 Extern.BytealgIndexByte.indexByte (.i (ixB x0 x1)) Xa (by kernel_rfl) (by kernel_rfl) (by kernel_rfl) (by kernel_rfl) (by kernel_rfl) (by kernel_rfl) (ixB_run _ _) ?_
 refine Gn 2 [(4, .i (ixB x0 x1))] Jnp ?_
 obtain rfl := sj h
 exact Xd Tryz.f199 (.i (ixB x0 x1)) ⟨_, rfl, (Xj S0 w0), p0⟩
def Jnr := Ys 111 B134 []
def Post.z4s (r : Int) (v : Value) (w' : World) : Prop :=
 ∃ S', v = .i r ∧ Ext S0 w0 S' w' ∧ Hp nz wz S' w' (Lr)
theorem W.z4s (x0 : ByteArray) (x1 : Int) (r : Int) (h : M.ax x0 x1 = some r) {nz wz S0 w0 Lr} (p0 : Hp nz wz S0 w0 (Lr)) :
  Calls Tg 134 #[.string x0, .int .u8 x1] w0 (Rets (Post.z4s nz wz S0 w0 Lr r)) := by
 refine Zf Tryz.f134 B134 6 ?_
 refine Gj 8 [(0, .string x0), (1, .int .u8 x1)] fun junk => ?_
 delta M.ax at h
 refine Gn 8 [(4, .i 0), (5, .string x0), (6, .int .u8 x1)] (Yt 110 B134 [2, 3] Jnr) ?_
 refine Gb h fun y1 e2 h => ?_
 refine Gc (kc 199 [5, 6] #[9, 5]) 7 3 199 _ (W.z4r x0 x1 y1 e2  p0 ) ?_
 rintro _ w2 ⟨S2, rfl, z2, p2⟩
 refine Gn 2 [(4, .i y1)] Jnr ?_
 obtain rfl := sj h
 exact Xd Tryz.f134 (.i y1) ⟨_, rfl, z2, p2⟩
def Jnt := Ys 111 B316 []
def Post.z4t (r : Int) (v : Value) (w' : World) : Prop :=
 ∃ S', v = .i r ∧ Ext S0 w0 S' w' ∧ Hp nz wz S' w' (Lr)
theorem W.z4t (x0 : Int) (r : Int) (h : M.a7h x0 = some r) {nz wz S0 w0 Lr} (p0 : Hp nz wz S0 w0 (Lr)) :
  Calls Tg 316 #[.int .u8 x0] w0 (Rets (Post.z4t nz wz S0 w0 Lr r)) := by
 refine Zf Tryz.f316 B316 5 ?_
 refine Gj 6 [(0, .int .u8 x0)] fun junk => ?_
 delta M.a7h at h
 refine Gn 7 [(2, .i 0), (3, .int .u8 x0)] (Yt 110 B316 [1, 2, 3] Jnt) ?_
 refine Gb h fun y1 e2 h => ?_
 refine Gc (kc 323 [3] #[5]) 4 5 323 _ (W.z4q x0 y1 e2  p0 ) ?_
 rintro _ w2 ⟨S2, rfl, z2, p2⟩
 refine Gb h fun y3 e4 h => ?_
 refine Gc (.call { callee := .value (.func 134), args := #[(.const (.string ⟨#[48, 49, 50, 51, 52, 53, 54, 55, 56, 57, 97, 98, 99, 100, 101, 102]⟩)), 4], argTypes := #[9, 5] }) 5 3 134 _ (W.z4s (⟨#[48, 49, 50, 51, 52, 53, 54, 55, 56, 57, 97, 98, 99, 100, 101, 102]⟩ : ByteArray) y1 y3 e4  p2 ) ?_
 rintro _ w3 ⟨S3, rfl, z3, p3⟩
 refine Gn 2 [(2, .i y3)] Jnt ?_
 obtain rfl := sj h
 exact Xd Tryz.f316 (.i y3) ⟨_, rfl, (z2.t z3), p3⟩
def Jnx := Ys 1111 B299 []
def Jo2 := Ys 11111 B299 []
def Qit := Yq 11110 B299
def Post.z4u (gx0 : Nat) (r : Int × T134) (v : Value) (w' : World) : Prop :=
 ∃ S' ug0, v = .int .u8 r.1 ∧ Ext S0 w0 S' w' ∧ Hp nz wz S' w' ((some gx0, .row 135 (vT134 r.2 ug0) 4 0) :: Lr) ∧ PtO kT138 S' w' ug0 r.2.bad
theorem W.z4u (x0v : T134) (r : Int × T134) (h : M.a43 x0v = some r) {nz wz S0 w0 Lr} (gx0 ug2) (p0 : Hp nz wz S0 w0 ((some gx0, .row 135 (vT134 x0v ug2) 4 0) :: Lr)) (ug3 : PtO kT138 S0 w0 ug2 x0v.bad) :
  Calls Tg 299 #[(pt gx0 0)] w0 (Rets (Post.z4u nz wz S0 w0 Lr gx0 r)) := by
 refine Zf Tryz.f299 B299 23 ?_
 refine Gj 24 [(0, (pt gx0 0))] fun junk => ?_
 delta M.a43 at h
 refine Gn 7 [(2, .int .u8 0), (4, (pt gx0 0))] (Yt 110 B299 [1, 2, 3] (Ys 111 B299 [])) ?_
 refine Gb h fun y2 e3 h => ?_
 refine Gc (kc 197 [4] #[132]) 5 5 197 _ (W.z4a x0v y2 e3 _ _ p0 ug3) ?_
 rintro _ w2 ⟨S2, ug5, rfl, z2, p2, ug6⟩
 refine Gb h fun y4 e5 h => ?_
 refine Gc (kc 316 [5] #[5]) 6 3 316 _ (W.z4t y2.1 y4 e5  p2 ) ?_
 rintro _ w3 ⟨S3, rfl, z3, p3⟩
 refine Gm 8 [([3, 7], .i y4), ([8], .bool (decide (y4 < 0)))] (Ys 11101 B299 Jnx) ?_
 refine Gi h (fun h6 h => ?_) fun h6 h => ?_
 ·
  rw [dt h6]
  refine Gm 7 [([9, 10, 11], (pt gx0 0)), ([12], (pt gx0 1))] (Yt 1110100 B299 [4, 5] (Ys 1110101 B299 Jnx)) ?_
  refine Xc 3 12 13 3 ⟨gx0, 1, none⟩ (.i y2.2.at_) (p3.c 0 1) ?_
  refine Gb h fun y7 e8 h => ?_
  refine Gc (kc 69 [9, 13] #[132, 3]) 14 27 69 _ (W.z4c y2.2 y2.2.at_ y7 e8 _ _ p3 (ug6.ext z3)) ?_
  rintro _ w4 ⟨S4, uhv, uhw, uhx, uhy, rfl, z4, p4, uhz, ui0, rfl, ui1⟩
  refine Gn 5 [(2, .int .u8 0)] (Ys 11101011 B299 Jnx) ?_
  obtain rfl := sj h
  exact Xd Tryz.f299 (.int .u8 0) ⟨_, _, rfl, ((z2.t z3).t z4), p4, ui1⟩
 ·
  rw [df h6]
  refine Gm 7 [([15, 16], (pt gx0 0)), ([17], (pt gx0 1))] (Zr Qit [3, 4, 5, 6, 7] Jo2) ?_
  refine Xc 3 17 18 3 ⟨gx0, 1, none⟩ (.i y2.2.at_) (p3.c 0 1) ?_
  refine Gn 3 [(19, .i (wr .i64 (y2.2.at_ + 1))), (20, (pt gx0 0)), (21, (pt gx0 1))] (Zr Qit [7] Jo2) ?_
  refine So 3 21 19 0 0 gx0 1 (.i (wr .i64 (y2.2.at_ + 1))) [.i (wr .i64 (y2.2.at_ + 1))] p3 rfl Xe fun w5 z5 p5 => ?_
  refine Gm 7 [([22], .i y4), ([23, 2], .int .u8 (wr .u8 y4))] (Ys 111111 B299 []) ?_
  obtain rfl := sj h
  exact Xd Tryz.f299 (.int .u8 (wr .u8 y4)) ⟨_, _, rfl, ((z2.t z3).t z5), p5, (ug6.ext (z3.t z5))⟩
def Jo8 := Ys 111 B300 []
def Qiy := Yq 110 B300
def Post.z4v (r : T370) (v : Value) (w' : World) : Prop :=
 ∃ S', v = (ag (vT370 r)) ∧ Ext S0 w0 S' w' ∧ Hp nz wz S' w' (Lr) ∧ r.set_.length = 4
theorem W.z4v (x0 : Int) (r : T370) (h : M.ai x0 = some r) {nz wz S0 w0 Lr} (p0 : Hp nz wz S0 w0 (Lr)) :
  Calls Tg 300 #[.int .u8 x0] w0 (Rets (Post.z4v nz wz S0 w0 Lr r)) := by
 refine Zf Tryz.f300 B300 6 ?_
 refine Gj 7 [(0, .int .u8 x0)] fun junk => ?_
 delta M.ai at h
 refine Gn 2 [] (Yt 10 B300 [0] (Ys 11 B300 [])) ?_
 refine Oa 371 2 0 (.agg #[.u 0, .u 0, .u 0, .u 0, .int .u8 0, .bool false]) [.u 0, .u 0, .u 0, .u 0, .int .u8 0, .bool false] p0 Xa fun b1 w2 z2 p2 => ?_
 refine Gn 4 [(3, .int .u8 x0)] (Zr Qiy [1, 2, 3, 4] Jo8) ?_
 refine Gb h fun y3 e4 h => ?_
 refine Gc (kc 274 [3] #[5]) 4 24 274 _ (W.z4f x0 y3 e4  p2 ) ?_
 rintro _ w3 ⟨S3, ui2, rfl, z3, p3, u3k, ui3⟩
 refine Gn 1 [(5, .int .u8 x0)] (Zr Qiy [3, 4] Jo8) ?_
 have l5 := Xm u3k ui3 rfl
 obtain rfl := els_lit4 u3k ui3
 refine Gn 1 [(6, (ag (U4 y3 [.int .u8 x0, .bool true])))] (Zr Qiy [4] Jo8) ?_
 refine So 371 2 6 0 0 b1 0 (ag (U4 y3 [.int .u8 x0, .bool true])) (U4 y3 [.int .u8 x0, .bool true]) p3 rfl Xe fun w4 z4 p4 => ?_
 refine Gn 1 [] Jo8 ?_
 obtain rfl := sj h
 exact R1 Tryz.f300 (.cell 2 371) (ag (U4 y3 [.int .u8 x0, .bool true])) (Rn b1 (p4.pa 0 0)) ⟨_, rfl, ((z2.t z3).t z4), p4.drop, l5⟩
def Jod := Zb 0 (Ys 11111 B277 [])
def Joe := Ys 1111001111111 B277 Jod
def Joh := Ys 1111001111111011 B277 Jod
def Joj := Ys 111111 B277 []
def Qj6 := Yq 111110 B277
def Jom := Ys 1111111 B277 []
def Post.z4w (gx0 : Nat) (r : T370 × T134) (v : Value) (w' : World) : Prop :=
 ∃ S' ug0, v = (ag (vT370 r.1)) ∧ Ext S0 w0 S' w' ∧ Hp nz wz S' w' ((some gx0, .row 135 (vT134 r.2 ug0) 4 0) :: Lr) ∧ r.1.set_.length = 4 ∧ PtO kT138 S' w' ug0 r.2.bad
def L.z4x (gx0 : Nat) : T370 × Int × Bool × T134 → (T370 × T134) → Prop := fun ⟨x2v, x3, x66, e0v⟩ r => ∀ S1 w1, Ext S0 w0 S1 w1 → ∀ gx2 ug0 (_ : Hp nz wz S1 w1 ((some gx2, .row 371 (vT370 x2v) 6 0) :: (some gx0, .row 135 (vT134 e0v ug0) 4 0) :: Lr)) (_ : x2v.set_.length = 4) (_ : PtO kT138 S1 w1 ug0 e0v.bad) (junk : Nat → Value),
 Goes Tg (base 277) Joe ⟨lfr 90 [(0, (pt gx0 0)), (2, (pt gx2 0)), (3, .int .u8 x3), (66, .bool x66)] junk, []⟩ w1 (Done Tg 277 (Rets (Post.z4w nz wz S0 w0 Lr gx0 r)))
theorem W.z4x {nz wz S0 w0 Lr} (gx0 : Nat) : ∀ a r, M.a44 a = some r → L.z4x nz wz S0 w0 Lr gx0 a r := by
 intro ⟨x2v, x3, x66, e0v⟩ r h S1 w1 hx gx2 ug0 p1 ugb ug1 junk
 rw [M.a44] at h
 try dsimp only at h
 refine Gi h (fun h30 h => ?_) fun h30 h => ?_
 ·
  rw [h30]
  refine Gm 7 [([74, 75, 76], (pt gx0 0)), ([77], (pt gx0 1))] (Yt 111100111111100 B277 [4, 5] (Ys 111100111111101 B277 Jod)) ?_
  refine Xc 3 77 78 3 ⟨gx0, 1, none⟩ (.i e0v.at_) (p1.c 1 1) ?_
  have p1 := p1.fr 1
  refine Gb h fun y31 e32 h => ?_
  refine Gc (kc 69 [74, 78] #[132, 3]) 79 27 69 _ (W.z4c e0v e0v.at_ y31 e32 _ _ p1 ug1) ?_
  rintro _ w21 ⟨S21, ui4, ui5, ui6, ui7, rfl, z21, p21, ui8, ui9, rfl, uia⟩
  refine Gn 4 [(80, .agg #[.u 0, .u 0, .u 0, .u 0, .int .u8 0, .bool false])] (Yt 1111001111111010 B277 [1] Joh) ?_
  refine So 371 2 80 0 1 gx2 0 (.agg #[.u 0, .u 0, .u 0, .u 0, .int .u8 0, .bool false]) [.u 0, .u 0, .u 0, .u 0, .int .u8 0, .bool false] p21 rfl Xe fun w22 z22 p22 => ?_
  refine Gn 1 [] Joh ?_
  obtain rfl := sj h
  have p22 := (p22.fr 0).fr 1
  exact R1 Tryz.f277 (.cell 2 371) (.agg #[.u 0, .u 0, .u 0, .u 0, .int .u8 0, .bool false]) (Rn gx2 (p22.pa 0 0)) ⟨_, _, rfl, ((hx.t z21).t z22), p22.drop, rfl, (uia.ext z22)⟩
 ·
  rw [bf h30]
  refine Gm 8 [([81, 82], (pt gx0 0)), ([83], (pt gx0 1))] (Zr Qj6 [3, 4, 5, 6, 7] Joj) ?_
  refine Xc 3 83 84 3 ⟨gx0, 1, none⟩ (.i e0v.at_) (p1.c 1 1) ?_
  refine Gn 3 [(85, .i (wr .i64 (e0v.at_ + 1))), (86, (pt gx0 0)), (87, (pt gx0 1))] (Zr Qj6 [7] Joj) ?_
  refine So 3 87 85 0 1 gx0 1 (.i (wr .i64 (e0v.at_ + 1))) [.i (wr .i64 (e0v.at_ + 1))] p1 rfl Xe fun w23 z23 p23 => ?_
  refine Gn 4 [(88, .int .u8 x3)] (Yt 1111110 B277 [1, 2] Jom) ?_
  refine Gb h fun y33 e34 h => ?_
  refine Gc (kc 300 [88] #[5]) 89 371 300 _ (W.z4v x3 y33 e34  p23 ) ?_
  rintro _ w24 ⟨S24, rfl, z24, p24, uic⟩
  refine So 371 2 89 0 0 gx2 0 (ag (vT370 y33)) (vT370 y33) p24 rfl Xe fun w25 z25 p25 => ?_
  refine Gn 1 [] Jom ?_
  obtain rfl := sj h
  exact R1 Tryz.f277 (.cell 2 371) (ag (vT370 y33)) (Rn gx2 (p25.pa 0 0)) ⟨_, _, rfl, (((hx.t z23).t z24).t z25), p25.drop, uic, (ug1.ext ((z23.t z24).t z25))⟩
def Jos := Ys 1111 B277 []
def Jot := Ys 11101 B277 Jos
def Qjf := Yq 11100 B277
def Jox := Ys 11101101 B277 Jos
def Qji := Yq 11101100 B277
def Jp0 := Ys 111011011 B277 Jos
def Qjk := Yq 111011010 B277
def Jp4 := Ys 111100101 B277 Jod
def Qjn := Yq 111100100 B277
def Jpb := Ys 111100101111 B277 Jod
def Jpe := Ys 11110011101 B277 Jod
def Qjw := Yq 11110011100 B277
def Jph := Ys 111100111011 B277 Jod
def Jpk := Ys 1111001111101 B277 Jod
def Qk1 := Yq 1111001111100 B277
def Jpn := Ys 11110011111011 B277 Jod
def Qk4 := Yq 1111001111110 B277
theorem W.z4w (x0v : T134) (r : T370 × T134) (h : M.a45 x0v = some r) {nz wz S0 w0 Lr} (gx0 ug2) (p0 : Hp nz wz S0 w0 ((some gx0, .row 135 (vT134 x0v ug2) 4 0) :: Lr)) (ug3 : PtO kT138 S0 w0 ug2 x0v.bad) :
  Calls Tg 277 #[(pt gx0 0)] w0 (Rets (Post.z4w nz wz S0 w0 Lr gx0 r)) := by
 refine Zf Tryz.f277 B277 89 ?_
 refine Gj 90 [(0, (pt gx0 0))] fun junk => ?_
 delta M.a45 at h
 refine Gn 2 [] (Yt 10 B277 [0] (Ys 11 B277 [])) ?_
 refine Oa 371 2 0 (.agg #[.u 0, .u 0, .u 0, .u 0, .int .u8 0, .bool false]) [.u 0, .u 0, .u 0, .u 0, .int .u8 0, .bool false] p0 Xa fun b2 w2 z2 p2 => ?_
 refine Gn 4 [(8, (pt gx0 0))] (Yt 110 B277 [1, 2] (Ys 111 B277 [])) ?_
 have p2 := p2.fr 1
 refine Gb h fun y4 e5 h => ?_
 refine Gc (kc 197 [8] #[132]) 9 5 197 _ (W.z4a x0v y4 e5 _ _ p2 (ug3.ext z2)) ?_
 rintro _ w3 ⟨S3, uid, rfl, z3, p3, uie⟩
 refine Gm 6 [([3, 11], .int .u8 y4.1)] (Zr Qjf [1, 2, 3, 4, 5, 6, 7] Jot) ?_
 refine Gb h fun y6 e7 h => ?_
 refine Gc (kc 298 [11] #[5]) 12 393 298 _ (W.z4p y4.1 y6 e7  p3 ) ?_
 rintro _ w4 ⟨S4, uif, rfl, z4, p4, udd, uig⟩
 refine Gn 3 [(10, .tuple #[.agg uif.toArray, .bool y6.2]), (13, .agg uif.toArray), (14, .bool y6.2)] (Zr Qjf [5, 6, 7] Jot) ?_
 refine Oa 24 4 0 (.agg #[.u 0, .u 0, .u 0, .u 0]) [.u 0, .u 0, .u 0, .u 0] p4 Xa fun b8 w5 z5 p5 => ?_
 have f10 : Els kU S4 w5 ([.u 0, .u 0, .u 0, .u 0] : List Value) [0, 0, 0, 0] := (Els.cons (K := kU) (vs := [.u 0]) (x := 0) rfl (Els.cons (K := kU) (vs := [.u 0]) (x := 0) rfl (Els.cons (K := kU) (vs := [.u 0]) (x := 0) rfl (Els.cons (K := kU) (vs := [.u 0]) (x := 0) rfl Els.nil))))
 refine Xp 24 4 13 0 0 b8 4 uif p5 rfl rfl Xe (by kernel_rfl) (by kernel_rfl) (by kernel_rfl) uig (Xq (udd.ext z5)) fun w6 z6 p6 => ?_
 refine Gm 6 [([5, 15], .bool y6.2)] (Ys 111011 B277 Jos) ?_
 refine Gi h (fun h11 h => ?_) fun h11 h => ?_
 ·
  rw [h11]
  refine Gm 6 [([16, 17], (pt gx0 0)), ([18], (pt gx0 1))] (Zr Qji [3, 4, 5, 6, 7] Jox) ?_
  refine Xc 3 18 19 3 ⟨gx0, 1, none⟩ (.i y4.2.at_) (p6.c 1 1) ?_
  refine Gn 3 [(20, .i (wr .i64 (y4.2.at_ + 1))), (21, (pt gx0 0)), (22, (pt gx0 1))] (Zr Qji [7] Jox) ?_
  refine So 3 22 20 0 1 gx0 1 (.i (wr .i64 (y4.2.at_ + 1))) [.i (wr .i64 (y4.2.at_ + 1))] p6 rfl Xe fun w7 z7 p7 => ?_
  refine Gn 3 [] (Zr Qjk [0, 1, 2] Jp0) ?_
  refine Xs 24 4 23 24 ⟨b8, 0, none⟩ uif Xa (by kernel_rfl) (by kernel_rfl) (by rw [uig]; kernel_rfl) (At_all (p7.mem 0 rfl)) ?_
  have l12 := Xm (udd.ext ((z5.t z6).t z7)) uig rfl
  obtain rfl := els_lit4 (udd.ext ((z5.t z6).t z7)) uig
  refine Gn 1 [(24, (ag (U4 y6.1 [.int .u8 0, .bool false])))] (Zr Qjk [2] Jp0) ?_
  refine So 371 2 24 0 2 b2 0 (ag (U4 y6.1 [.int .u8 0, .bool false])) (U4 y6.1 [.int .u8 0, .bool false]) p7 rfl Xe fun w8 z8 p8 => ?_
  refine Gn 1 [] Jp0 ?_
  obtain rfl := sj h
  have p8 := p8.dp 0
  have p8 := (p8.fr 0).fr 1
  exact R1 Tryz.f277 (.cell 2 371) (ag (U4 y6.1 [.int .u8 0, .bool false])) (Rn b2 (p8.pa 0 0)) ⟨_, _, rfl, ((((((z2.t z3).t z4).t z5).t z6).t z7).t z8), p8.drop, l12, (uie.ext ((((z4.t z5).t z6).t z7).t z8))⟩
 ·
  rw [bf h11]
  refine Gm 10 [([26], .int .u8 y4.1), ([27, 25], .bool (decide (y4.1 = 120)))] (Ys 1111001 B277 Jod) ?_
  refine Gi h (fun h13 h => ?_) fun h13 h => ?_
  ·
   rw [dt h13]
   refine Gm 6 [([28, 29], (pt gx0 0)), ([30], (pt gx0 1))] (Zr Qjn [3, 4, 5, 6, 7] Jp4) ?_
   refine Xc 3 30 31 3 ⟨gx0, 1, none⟩ (.i y4.2.at_) (p6.c 1 1) ?_
   refine Gn 3 [(32, .i (wr .i64 (y4.2.at_ + 1))), (33, (pt gx0 0)), (34, (pt gx0 1))] (Zr Qjn [7] Jp4) ?_
   refine So 3 34 32 0 1 gx0 1 (.i (wr .i64 (y4.2.at_ + 1))) [.i (wr .i64 (y4.2.at_ + 1))] p6 rfl Xe fun w9 z9 p9 => ?_
   refine Gn 4 [(35, (pt gx0 0))] (Yt 1111001010 B277 [1, 2] (Ys 1111001011 B277 Jod)) ?_
   have p9 := p9.fr 1
   refine Gb h fun y14 e15 h => ?_
   refine Gc (kc 299 [35] #[132]) 36 5 299 _ (W.z4u (⟨y4.2.s, wr .i64 (y4.2.at_ + 1), y4.2.deep, y4.2.bad⟩ : T134) y14 e15 _ _ p9 (uie.ext (((z4.t z5).t z6).t z9))) ?_
   rintro _ w10 ⟨S10, uih, rfl, z10, p10, uii⟩
   have p10 := p10.dp 1
   refine Gn 5 [(6, .int .u8 y14.1), (37, (pt gx0 0))] (Yt 11110010110 B277 [1, 2] (Ys 11110010111 B277 Jod)) ?_
   refine Gb h fun y16 e17 h => ?_
   refine Gc (kc 299 [37] #[132]) 38 5 299 _ (W.z4u y14.2 y16 e17 _ _ p10 uii) ?_
   rintro _ w11 ⟨S11, uij, rfl, z11, p11, uik⟩
   refine Gm 8 [([7, 41], .int .u8 y16.1), ([39], .int .u8 y14.1), ([40], .int .u8 (ishl .u8 y14.1 4)), ([42], .int .u8 (ior .u8 (ishl .u8 y14.1 4) y16.1))] (Yt 111100101110 B277 [4, 5] Jpb) ?_
   refine Gb h fun y18 e19 h => ?_
   refine Gc (kc 300 [42] #[5]) 43 371 300 _ (W.z4v (ior .u8 (ishl .u8 y14.1 4) y16.1) y18 e19  p11 ) ?_
   rintro _ w12 ⟨S12, rfl, z12, p12, uil⟩
   refine So 371 2 43 0 1 b2 0 (ag (vT370 y18)) (vT370 y18) p12 rfl Xe fun w13 z13 p13 => ?_
   refine Gn 1 [] Jpb ?_
   obtain rfl := sj h
   have p13 := (p13.fr 0).fr 1
   exact R1 Tryz.f277 (.cell 2 371) (ag (vT370 y18)) (Rn b2 (p13.pa 0 0)) ⟨_, _, rfl, (((((((((z2.t z3).t z4).t z5).t z6).t z9).t z10).t z11).t z12).t z13), p13.drop, uil, (uik.ext (z12.t z13))⟩
  ·
   rw [df h13]
   refine Gm 7 [([45], .int .u8 y4.1), ([46, 44], .bool (decide (y4.1 = 110)))] (Ys 111100111 B277 Jod) ?_
   refine Gi h (fun h20 h => ?_) fun h20 h => ?_
   ·
    rw [dt h20]
    refine Gm 6 [([47, 48], (pt gx0 0)), ([49], (pt gx0 1))] (Zr Qjw [3, 4, 5, 6, 7] Jpe) ?_
    refine Xc 3 49 50 3 ⟨gx0, 1, none⟩ (.i y4.2.at_) (p6.c 1 1) ?_
    refine Gn 3 [(51, .i (wr .i64 (y4.2.at_ + 1))), (52, (pt gx0 0)), (53, (pt gx0 1))] (Zr Qjw [7] Jpe) ?_
    refine So 3 53 51 0 1 gx0 1 (.i (wr .i64 (y4.2.at_ + 1))) [.i (wr .i64 (y4.2.at_ + 1))] p6 rfl Xe fun w14 z14 p14 => ?_
    refine Gn 3 [] (Yt 111100111010 B277 [0, 1] Jph) ?_
    refine Gb h fun y21 e22 h => ?_
    refine Gc (.call { callee := .value (.func 300), args := #[(.const (.int .u8 10))], argTypes := #[5] }) 54 371 300 _ (W.z4v 10 y21 e22  p14 ) ?_
    rintro _ w15 ⟨S15, rfl, z15, p15, uim⟩
    have p15 := p15.dp 0
    refine So 371 2 54 0 1 b2 0 (ag (vT370 y21)) (vT370 y21) p15 rfl Xe fun w16 z16 p16 => ?_
    refine Gn 1 [] Jph ?_
    obtain rfl := sj h
    have p16 := (p16.fr 0).fr 1
    exact R1 Tryz.f277 (.cell 2 371) (ag (vT370 y21)) (Rn b2 (p16.pa 0 0)) ⟨_, _, rfl, (((((((z2.t z3).t z4).t z5).t z6).t z14).t z15).t z16), p16.drop, uim, (uie.ext (((((z4.t z5).t z6).t z14).t z15).t z16))⟩
   ·
    rw [df h20]
    refine Gm 7 [([56], .int .u8 y4.1), ([57, 55], .bool (decide (y4.1 = 116)))] (Ys 11110011111 B277 Jod) ?_
    refine Gi h (fun h23 h => ?_) fun h23 h => ?_
    ·
     rw [dt h23]
     refine Gm 6 [([58, 59], (pt gx0 0)), ([60], (pt gx0 1))] (Zr Qk1 [3, 4, 5, 6, 7] Jpk) ?_
     refine Xc 3 60 61 3 ⟨gx0, 1, none⟩ (.i y4.2.at_) (p6.c 1 1) ?_
     refine Gn 3 [(62, .i (wr .i64 (y4.2.at_ + 1))), (63, (pt gx0 0)), (64, (pt gx0 1))] (Zr Qk1 [7] Jpk) ?_
     refine So 3 64 62 0 1 gx0 1 (.i (wr .i64 (y4.2.at_ + 1))) [.i (wr .i64 (y4.2.at_ + 1))] p6 rfl Xe fun w17 z17 p17 => ?_
     refine Gn 3 [] (Yt 11110011111010 B277 [0, 1] Jpn) ?_
     refine Gb h fun y24 e25 h => ?_
     refine Gc (.call { callee := .value (.func 300), args := #[(.const (.int .u8 9))], argTypes := #[5] }) 65 371 300 _ (W.z4v 9 y24 e25  p17 ) ?_
     rintro _ w18 ⟨S18, rfl, z18, p18, uin⟩
     have p18 := p18.dp 0
     refine So 371 2 65 0 1 b2 0 (ag (vT370 y24)) (vT370 y24) p18 rfl Xe fun w19 z19 p19 => ?_
     refine Gn 1 [] Jpn ?_
     obtain rfl := sj h
     have p19 := (p19.fr 0).fr 1
     exact R1 Tryz.f277 (.cell 2 371) (ag (vT370 y24)) (Rn b2 (p19.pa 0 0)) ⟨_, _, rfl, (((((((z2.t z3).t z4).t z5).t z6).t z17).t z18).t z19), p19.drop, uin, (uie.ext (((((z4.t z5).t z6).t z17).t z18).t z19))⟩
    ·
     rw [df h23]
     refine Gm 6 [([67], .int .u8 y4.1), ([68, 69], .bool (decide (y4.1 = 0)))] (Zr Qk4 [3, 4, 5, 6, 7] Joe) ?_
     refine Gi h (fun h26 h => ?_) fun h26 h => ?_
     ·
      rw [dt h26]
      refine Gm 6 [([70, 71, 72], undef), ([73, 66], .bool true)] Joe ?_
      have p6 := p6.dp 0
      have p6 := (p6.fr 0).fr 1
      exact Gj 90 [(0, (pt gx0 0)), (2, (pt b2 0)), (3, .int .u8 y4.1), (66, .bool true)] (W.z4x gx0 _ _ h _ _ ((((z2.t z3).t z4).t z5).t z6) _ _ p6 rfl (uie.ext ((z4.t z5).t z6)))
     ·
      rw [df h26]
      refine Gn 1 [(70, .int .u8 y4.1)] (Zr Qk4 [4, 5, 6, 7] Joe) ?_
      refine Gb h fun y28 e29 h => ?_
      refine Gc (.call { callee := .value (.func 134), args := #[(.const (.string ⟨#[92, 46, 91, 93, 40, 41, 42, 43, 63, 123, 125, 94, 36, 45, 47, 124]⟩)), 70], argTypes := #[9, 5] }) 71 3 134 _ (W.z4s (⟨#[92, 46, 91, 93, 40, 41, 42, 43, 63, 123, 125, 94, 36, 45, 47, 124]⟩ : ByteArray) y4.1 y28 e29  p6 ) ?_
      rintro _ w20 ⟨S20, rfl, z20, p20⟩
      have p20 := p20.dp 0
      refine Gm 4 [([72, 73, 66], .bool (decide (y28 < 0)))] Joe ?_
      have p20 := (p20.fr 0).fr 1
      exact Gj 90 [(0, (pt gx0 0)), (2, (pt b2 0)), (3, .int .u8 y4.1), (66, .bool (decide (y28 < 0)))] (W.z4x gx0 _ _ h _ _ (((((z2.t z3).t z4).t z5).t z6).t z20) _ _ p20 rfl (uie.ext (((z4.t z5).t z6).t z20)))
def Jps := Zb 0 (Ys 1111 B322 [])
def Jpt := Ys 11100111 B322 Jps
def Jpw := Ys 11100111011 B322 Jps
def Jpy := Ys 11111 B322 []
def Qkc := Yq 11110 B322
def Jq1 := Ys 111111 B322 []
def Post.z4y (gx0 : Nat) (r : T370 × T134) (v : Value) (w' : World) : Prop :=
 ∃ S' ug0, v = (ag (vT370 r.1)) ∧ Ext S0 w0 S' w' ∧ Hp nz wz S' w' ((some gx0, .row 135 (vT134 r.2 ug0) 4 0) :: Lr) ∧ r.1.set_.length = 4 ∧ PtO kT138 S' w' ug0 r.2.bad
def L.z4z (gx0 : Nat) : T370 × Int × Bool × T134 → (T370 × T134) → Prop := fun ⟨x2v, x3, x11, e0v⟩ r => ∀ S1 w1, Ext S0 w0 S1 w1 → ∀ gx2 ug0 (_ : Hp nz wz S1 w1 ((some gx2, .row 371 (vT370 x2v) 6 0) :: (some gx0, .row 135 (vT134 e0v ug0) 4 0) :: Lr)) (_ : x2v.set_.length = 4) (_ : PtO kT138 S1 w1 ug0 e0v.bad) (junk : Nat → Value),
 Goes Tg (base 322) Jpt ⟨lfr 39 [(0, (pt gx0 0)), (2, (pt gx2 0)), (3, .int .u8 x3), (11, .bool x11)] junk, []⟩ w1 (Done Tg 322 (Rets (Post.z4y nz wz S0 w0 Lr gx0 r)))
theorem W.z4z {nz wz S0 w0 Lr} (gx0 : Nat) : ∀ a r, M.a1i a = some r → L.z4z nz wz S0 w0 Lr gx0 a r := by
 intro ⟨x2v, x3, x11, e0v⟩ r h S1 w1 hx gx2 ug0 p1 ugb ug1 junk
 rw [M.a1i] at h
 try dsimp only at h
 refine Gi h (fun h16 h => ?_) fun h16 h => ?_
 ·
  rw [h16]
  refine Gm 7 [([23, 24, 25], (pt gx0 0)), ([26], (pt gx0 1))] (Yt 1110011100 B322 [4, 5] (Ys 1110011101 B322 Jps)) ?_
  refine Xc 3 26 27 3 ⟨gx0, 1, none⟩ (.i e0v.at_) (p1.c 1 1) ?_
  have p1 := p1.fr 1
  refine Gb h fun y17 e18 h => ?_
  refine Gc (kc 69 [23, 27] #[132, 3]) 28 27 69 _ (W.z4c e0v e0v.at_ y17 e18 _ _ p1 ug1) ?_
  rintro _ w8 ⟨S8, uio, uip, uiq, uir, rfl, z8, p8, uis, uit, rfl, uiu⟩
  refine Gn 4 [(29, .agg #[.u 0, .u 0, .u 0, .u 0, .int .u8 0, .bool false])] (Yt 11100111010 B322 [1] Jpw) ?_
  refine So 371 2 29 0 1 gx2 0 (.agg #[.u 0, .u 0, .u 0, .u 0, .int .u8 0, .bool false]) [.u 0, .u 0, .u 0, .u 0, .int .u8 0, .bool false] p8 rfl Xe fun w9 z9 p9 => ?_
  refine Gn 1 [] Jpw ?_
  obtain rfl := sj h
  have p9 := (p9.fr 0).fr 1
  exact R1 Tryz.f322 (.cell 2 371) (.agg #[.u 0, .u 0, .u 0, .u 0, .int .u8 0, .bool false]) (Rn gx2 (p9.pa 0 0)) ⟨_, _, rfl, ((hx.t z8).t z9), p9.drop, rfl, (uiu.ext z9)⟩
 ·
  rw [bf h16]
  refine Gm 8 [([30, 31], (pt gx0 0)), ([32], (pt gx0 1))] (Zr Qkc [3, 4, 5, 6, 7] Jpy) ?_
  refine Xc 3 32 33 3 ⟨gx0, 1, none⟩ (.i e0v.at_) (p1.c 1 1) ?_
  refine Gn 3 [(34, .i (wr .i64 (e0v.at_ + 1))), (35, (pt gx0 0)), (36, (pt gx0 1))] (Zr Qkc [7] Jpy) ?_
  refine So 3 36 34 0 1 gx0 1 (.i (wr .i64 (e0v.at_ + 1))) [.i (wr .i64 (e0v.at_ + 1))] p1 rfl Xe fun w10 z10 p10 => ?_
  refine Gn 4 [(37, .int .u8 x3)] (Yt 111110 B322 [1, 2] Jq1) ?_
  refine Gb h fun y19 e20 h => ?_
  refine Gc (kc 300 [37] #[5]) 38 371 300 _ (W.z4v x3 y19 e20  p10 ) ?_
  rintro _ w11 ⟨S11, rfl, z11, p11, uiv⟩
  refine So 371 2 38 0 0 gx2 0 (ag (vT370 y19)) (vT370 y19) p11 rfl Xe fun w12 z12 p12 => ?_
  refine Gn 1 [] Jq1 ?_
  obtain rfl := sj h
  exact R1 Tryz.f322 (.cell 2 371) (ag (vT370 y19)) (Rn gx2 (p12.pa 0 0)) ⟨_, _, rfl, (((hx.t z10).t z11).t z12), p12.drop, uiv, (ug1.ext ((z10.t z11).t z12))⟩
def Jq7 := Ys 111001 B322 Jps
def Jq9 := Ys 11100101 B322 Jps
def Qkn := Yq 11100110 B322
theorem W.z4y (x0v : T134) (r : T370 × T134) (h : M.a46 x0v = some r) {nz wz S0 w0 Lr} (gx0 ug2) (p0 : Hp nz wz S0 w0 ((some gx0, .row 135 (vT134 x0v ug2) 4 0) :: Lr)) (ug3 : PtO kT138 S0 w0 ug2 x0v.bad) :
  Calls Tg 322 #[(pt gx0 0)] w0 (Rets (Post.z4y nz wz S0 w0 Lr gx0 r)) := by
 refine Zf Tryz.f322 B322 38 ?_
 refine Gj 39 [(0, (pt gx0 0))] fun junk => ?_
 delta M.a46 at h
 refine Gn 2 [] (Yt 10 B322 [0] (Ys 11 B322 [])) ?_
 refine Oa 371 2 0 (.agg #[.u 0, .u 0, .u 0, .u 0, .int .u8 0, .bool false]) [.u 0, .u 0, .u 0, .u 0, .int .u8 0, .bool false] p0 Xa fun b2 w2 z2 p2 => ?_
 refine Gn 4 [(4, (pt gx0 0))] (Yt 110 B322 [1, 2] (Ys 111 B322 [])) ?_
 have p2 := p2.fr 1
 refine Gb h fun y4 e5 h => ?_
 refine Gc (kc 197 [4] #[132]) 5 5 197 _ (W.z4a x0v y4 e5 _ _ p2 (ug3.ext z2)) ?_
 rintro _ w3 ⟨S3, uid, rfl, z3, p3, uie⟩
 refine Gn 7 [(3, .int .u8 y4.1), (7, (pt gx0 0))] (Yt 111000 B322 [1, 2] Jq7) ?_
 refine Gb h fun y6 e7 h => ?_
 refine Gc (.call { callee := .value (.func 132), args := #[7, (.const (.int .u8 92))], argTypes := #[132, 5] }) 8 4 132 _ (W.z4d y4.2 92 y6 e7 _ _ p3 uie) ?_
 rintro _ w4 ⟨S4, uhy, rfl, z4, p4, ui1⟩
 refine Gn 2 [(6, .bool y6.1)] Jq7 ?_
 refine Gi h (fun h8 h => ?_) fun h8 h => ?_
 ·
  rw [h8]
  refine Gn 4 [(9, (pt gx0 0))] (Yt 11100100 B322 [1, 2] Jq9) ?_
  refine Gb h fun y9 e10 h => ?_
  refine Gc (kc 277 [9] #[132]) 10 371 277 _ (W.z4w y6.2 y9 e10 _ _ p4 ui1) ?_
  rintro _ w5 ⟨S5, uiw, rfl, z5, p5, uix, uiy⟩
  refine So 371 2 10 0 1 b2 0 (ag (vT370 y9.1)) (vT370 y9.1) p5 rfl Xe fun w6 z6 p6 => ?_
  refine Gn 1 [] Jq9 ?_
  obtain rfl := sj h
  have p6 := (p6.fr 0).fr 1
  exact R1 Tryz.f322 (.cell 2 371) (ag (vT370 y9.1)) (Rn b2 (p6.pa 0 0)) ⟨_, _, rfl, ((((z2.t z3).t z4).t z5).t z6), p6.drop, uix, (uiy.ext z6)⟩
 ·
  rw [bf h8]
  refine Gm 6 [([12], .int .u8 y4.1), ([13, 14], .bool (decide (y4.1 < 32)))] (Zr Qkn [3, 4, 5, 6, 7, 8, 9, 10, 11] Jpt) ?_
  refine Gi h (fun h11 h => ?_) fun h11 h => ?_
  ·
   rw [dt h11]
   refine Gm 10 [([15, 16, 19, 20, 21], undef), ([17, 18, 22, 11], .bool true)] Jpt ?_
   have p4 := (p4.fr 0).fr 1
   exact Gj 39 [(0, (pt gx0 0)), (2, (pt b2 0)), (3, .int .u8 y4.1), (11, .bool true)] (W.z4z gx0 _ _ h _ _ ((z2.t z3).t z4) _ _ p4 rfl ui1)
  ·
   rw [df h11]
   refine Gm 4 [([15], .int .u8 y4.1), ([16, 17, 18], .bool (decide (y4.1 > 126)))] (Zr Qkn [7, 8, 9, 10, 11] Jpt) ?_
   refine Gi h (fun h13 h => ?_) fun h13 h => ?_
   ·
    rw [dt h13]
    refine Gm 6 [([19, 20, 21], undef), ([22, 11], .bool true)] Jpt ?_
    have p4 := (p4.fr 0).fr 1
    exact Gj 39 [(0, (pt gx0 0)), (2, (pt b2 0)), (3, .int .u8 y4.1), (11, .bool true)] (W.z4z gx0 _ _ h _ _ ((z2.t z3).t z4) _ _ p4 rfl ui1)
   ·
    rw [df h13]
    refine Gn 1 [(19, .int .u8 y4.1)] (Zr Qkn [8, 9, 10, 11] Jpt) ?_
    refine Gb h fun y14 e15 h => ?_
    refine Gc (.call { callee := .value (.func 134), args := #[(.const (.string ⟨#[93, 91, 45]⟩)), 19], argTypes := #[9, 5] }) 20 3 134 _ (W.z4s (⟨#[93, 91, 45]⟩ : ByteArray) y4.1 y14 e15  p4 ) ?_
    rintro _ w7 ⟨S7, rfl, z7, p7⟩
    refine Gm 4 [([21, 22, 11], .bool (decide (y14 ≥ 0)))] Jpt ?_
    have p7 := (p7.fr 0).fr 1
    exact Gj 39 [(0, (pt gx0 0)), (2, (pt b2 0)), (3, .int .u8 y4.1), (11, .bool (decide (y14 ≥ 0)))] (W.z4z gx0 _ _ h _ _ (((z2.t z3).t z4).t z7) _ _ p7 rfl (ui1.ext z7))
def Jqf := Zb 0 (Ys 1111111111 B314 [])
def Jqg := Ys 111111111001 B314 Jqf
def Jqh := Ys 11111111111 B314 []
def Jqi := Yt 11111111110 B314 [1, 2] Jqh
def Jqj := Ys 11111111100111 B314 Jqf
def Jql := Ys 1111111110011111 B314 Jqf
def Qkv := Yq 1111111110011110 B314
def Jqp := Ys 111111111001111111 B314 Jqf
def Qky := Yq 111111111001111110 B314
def Post.z50 (gx0 : Nat) (r : (List Int) × T134) (v : Value) (w' : World) : Prop :=
 ∃ S' vsq ug0, v = .agg vsq.toArray ∧ Ext S0 w0 S' w' ∧ Hp nz wz S' w' ((some gx0, .row 135 (vT134 r.2 ug0) 4 0) :: Lr) ∧ Els kU S' w' vsq r.1 ∧ vsq.length = 4 ∧ PtO kT138 S' w' ug0 r.2.bad
def L.z51 (gx0 : Nat) : (List Int) × Int × T370 × Int × T370 × Bool × T134 → ((List Int) × T134) → Prop := fun ⟨u4, x3, x4v, x5, x6v, x47, e0v⟩ r => ∀ S1 w1, Ext S0 w0 S1 w1 → ∀ gx2 gx4 gx6 ug0 (_ : Hp nz wz S1 w1 ((some gx2, .row 24 (U4 u4 []) 4 0) :: (some gx4, .row 371 (vT370 x4v) 6 0) :: (some gx6, .row 371 (vT370 x6v) 6 0) :: (some gx0, .row 135 (vT134 e0v ug0) 4 0) :: Lr)) (_ : u4.length = 4) (_ : x4v.set_.length = 4) (_ : x6v.set_.length = 4) (_ : PtO kT138 S1 w1 ug0 e0v.bad) (junk : Nat → Value),
 Goes Tg (base 314) Jqg ⟨lfr 72 [(0, (pt gx0 0)), (2, (pt gx2 0)), (3, .i x3), (4, (pt gx4 0)), (5, .i x5), (6, (pt gx6 0)), (47, .bool x47)] junk, []⟩ w1 (Done Tg 314 (Rets (Post.z50 nz wz S0 w0 Lr gx0 r)))
theorem W.z51 {nz wz S0 w0 Lr} (gx0 : Nat) : ∀ a r, M.a47 a = some r → L.z51 nz wz S0 w0 Lr gx0 a r := by
 intro ⟨u4, x3, x4v, x5, x6v, x47, e0v⟩ r h S1 w1 hx gx2 gx4 gx6 ug0 p1 ugb ugi uiz ug1 junk
 rw [M.a47] at h
 try dsimp only at h
 refine Gi h (fun h28 h => ?_) fun h28 h => ?_
 ·
  rw [h28]
  refine Gn 6 [(70, (pt gx4 0))] Jqi ?_
  refine Xg 24 70 71 24 ⟨gx4, 0, none⟩ (U4 x4v.set_ []) (p1.pa 1 0) ?_
  refine So 24 2 71 0 0 gx2 0 (ag (U4 x4v.set_ [])) (U4 x4v.set_ []) p1 rfl Xe fun w14 z14 p14 => ?_
  refine Gn 1 [] Jqh ?_
  obtain rfl := sj h
  have p14 := (p14.dp 1).dp 1
  exact R1 Tryz.f314 (.cell 2 24) (ag (U4 x4v.set_ [])) (Rn gx2 (p14.pa 0 0)) ⟨_, _, _, rfl, (hx.t z14), p14.drop, (els_mk4 (S := S1) (w := w14) (k := .u64) ugi), rfl, (ug1.ext z14)⟩
 ·
  rw [bf h28]
  refine Gn 4 [(54, (pt gx6 5))] (Yt 11111111100110 B314 [1, 2, 3] Jqj) ?_
  refine Xc 4 54 55 4 ⟨gx6, 5, none⟩ (.bool x6v.single) (p1.c 2 5) ?_
  refine Gm 3 [([56, 53], .bool (!x6v.single))] Jqj ?_
  refine Gi h (fun h29 h => ?_) fun h29 h => ?_
  ·
   rw [h29]
   have p1 : Hp nz wz S1 w1 ((some gx2, .row 24 (U4 u4 []) 4 0) :: (some gx4, .row 371 (vT370 x4v) 6 0) :: (some gx6, .row 371 (U4 x6v.set_ [.int .u8 x6v.b, .bool true]) 6 0) :: (some gx0, .row 135 (vT134 e0v ug0) 4 0) :: Lr) := by simp only [wT29, vT69, vT165, vT26, vT134, vT370, vT218, h29] at p1; exact p1
   refine Gn 4 [(62, (pt gx4 4))] (Zr Qkv [1, 2, 3, 4, 5] Jql) ?_
   refine Xc 5 62 63 5 ⟨gx4, 4, none⟩ (.int .u8 x4v.b) (p1.c 1 4) ?_
   refine Gn 1 [(64, (pt gx6 4))] (Zr Qkv [3, 4, 5] Jql) ?_
   refine Xc 5 64 65 5 ⟨gx6, 4, none⟩ (.int .u8 x6v.b) (p1.c 2 4) ?_
   refine Gm 3 [([66, 61], .bool (decide (x4v.b > x6v.b)))] Jql ?_
   refine Gi h (fun h30 h => ?_) fun h30 h => ?_
   ·
    rw [dt h30]
    refine Gn 4 [(67, (pt gx0 0)), (68, .i x3)] (Yt 11111111100111110 B314 [2] Jqf) ?_
    have p1 := p1.fr 3
    refine Gb h fun y31 e32 h => ?_
    refine Gc (kc 69 [67, 68] #[132, 3]) 69 27 69 _ (W.z4c e0v x3 y31 e32 _ _ p1 ug1) ?_
    rintro _ w15 ⟨S15, uj0, uj1, uj2, uj3, rfl, z15, p15, uj4, uj5, rfl, uj6⟩
    have p15 := p15.dp 3
    refine Gn 5 [(70, (pt gx4 0))] Jqi ?_
    refine Xg 24 70 71 24 ⟨gx4, 0, none⟩ (U4 x4v.set_ []) (p15.pa 2 0) ?_
    refine So 24 2 71 0 1 gx2 0 (ag (U4 x4v.set_ [])) (U4 x4v.set_ []) p15 rfl Xe fun w16 z16 p16 => ?_
    refine Gn 1 [] Jqh ?_
    obtain rfl := sj h
    have p16 := p16.dp 2
    have p16 := (p16.fr 0).fr 1
    exact R1 Tryz.f314 (.cell 2 24) (ag (U4 x4v.set_ [])) (Rn gx2 (p16.pa 0 0)) ⟨_, _, _, rfl, ((hx.t z15).t z16), p16.drop, (els_mk4 (S := S15) (w := w16) (k := .u64) ugi), rfl, (uj6.ext z16)⟩
   ·
    rw [df h30]
    refine Gn 4 [(42, (pt gx4 4))] (Zr Qky [1, 2, 3, 4, 5] Jqp) ?_
    refine Xc 5 42 43 5 ⟨gx4, 4, none⟩ (.int .u8 x4v.b) (p1.c 1 4) ?_
    refine Gn 1 [(44, (pt gx6 4))] (Zr Qky [3, 4, 5] Jqp) ?_
    refine Xc 5 44 45 5 ⟨gx6, 4, none⟩ (.int .u8 x6v.b) (p1.c 2 4) ?_
    refine Gb h fun y33 e34 h => ?_
    refine Gc (kc 315 [43, 45] #[5, 5]) 46 24 315 _ (W.z4j x4v.b x6v.b y33 e34  p1 ) ?_
    rintro _ w17 ⟨S17, uj7, rfl, z17, p17, uj8, uj9⟩
    have p17 := (p17.dp 1).dp 1
    have f35 : Els kU S17 w17 ((U4 u4 []) : List Value) u4 := (els_mk4 (k := .u64) ugb)
    refine Xp 24 2 46 0 0 gx2 4 uj7 p17 rfl rfl Xe (by kernel_rfl) (by kernel_rfl) (by kernel_rfl) uj9 (Xq uj8) fun w18 z18 p18 => ?_
    refine Gn 1 [] Jqp ?_
    obtain rfl := sj h
    exact Xx (fn := Tryz.f314) (by kernel_rfl) (v := .agg uj7.toArray) (results_n1 (fn := Tryz.f314) (a := .cell 2 24) (by kernel_rfl) (resV_cell ⟨gx2, 0, none⟩ (by kernel_rfl) (run_loadN uj7 (by kernel_rfl) (by rw [uj9]; kernel_rfl) (At_all (p18.mem 0 rfl))))) ⟨S17, uj7, ug0, rfl, ((hx.t z17).t z18), p18.drop, (uj8.ext z18), uj9, (ug1.ext (z17.t z18))⟩
  ·
   have uja := bf h29
   rw [uja]
   have p1 : Hp nz wz S1 w1 ((some gx2, .row 24 (U4 u4 []) 4 0) :: (some gx4, .row 371 (vT370 x4v) 6 0) :: (some gx6, .row 371 (U4 x6v.set_ [.int .u8 x6v.b, .bool false]) 6 0) :: (some gx0, .row 135 (vT134 e0v ug0) 4 0) :: Lr) := by simp only [wT29, vT69, vT165, vT26, vT134, vT370, vT218, uja] at p1; exact p1
   refine Gn 5 [(57, (pt gx0 0)), (58, .i x5), (59, .i (wr .i64 (x5 + 1)))] (Yt 111111111001110 B314 [3] Jqf) ?_
   have p1 := p1.fr 3
   refine Gb h fun y36 e37 h => ?_
   refine Gc (kc 69 [57, 59] #[132, 3]) 60 27 69 _ (W.z4c e0v (wr .i64 (x5 + 1)) y36 e37 _ _ p1 ug1) ?_
   rintro _ w19 ⟨S19, ujb, ujc, ujd, uje, rfl, z19, p19, ujf, ujg, rfl, ujh⟩
   have p19 := p19.dp 3
   refine Gn 5 [(70, (pt gx4 0))] Jqi ?_
   refine Xg 24 70 71 24 ⟨gx4, 0, none⟩ (U4 x4v.set_ []) (p19.pa 2 0) ?_
   refine So 24 2 71 0 1 gx2 0 (ag (U4 x4v.set_ [])) (U4 x4v.set_ []) p19 rfl Xe fun w20 z20 p20 => ?_
   refine Gn 1 [] Jqh ?_
   obtain rfl := sj h
   have p20 := p20.dp 2
   have p20 := (p20.fr 0).fr 1
   exact R1 Tryz.f314 (.cell 2 24) (ag (U4 x4v.set_ [])) (Rn gx2 (p20.pa 0 0)) ⟨_, _, _, rfl, ((hx.t z19).t z20), p20.drop, (els_mk4 (S := S19) (w := w20) (k := .u64) ugi), rfl, (ujh.ext z20)⟩
def Jqz := Ys 11111 B314 []
def Jr0 := Ys 111101 B314 Jqz
def Jr2 := Ys 111111 B314 []
def Jr3 := Ys 1111101 B314 Jr2
def Jr5 := Ys 1111111 B314 []
def Qld := Yq 1111110 B314
def Jrf := Ys 1111101011 B314 Jr2
def Jrh := Ys 11110101 B314 Jqz
theorem W.z50 (x0v : T134) (r : (List Int) × T134) (h : M.a5a x0v = some r) {nz wz S0 w0 Lr} (gx0 ug2) (p0 : Hp nz wz S0 w0 ((some gx0, .row 135 (vT134 x0v ug2) 4 0) :: Lr)) (ug3 : PtO kT138 S0 w0 ug2 x0v.bad) :
  Calls Tg 314 #[(pt gx0 0)] w0 (Rets (Post.z50 nz wz S0 w0 Lr gx0 r)) := by
 refine Zf Tryz.f314 B314 71 ?_
 refine Gj 72 [(0, (pt gx0 0))] fun junk => ?_
 delta M.a5a at h
 refine Gn 2 [] (Yt 10 B314 [0] (Ys 11 B314 [])) ?_
 refine Oa 24 2 0 (.agg #[.u 0, .u 0, .u 0, .u 0]) [.u 0, .u 0, .u 0, .u 0] p0 Xa fun b2 w2 z2 p2 => ?_
 refine Gm 6 [([7, 8], (pt gx0 0)), ([9], (pt gx0 1))] (Yt 110 B314 [3, 4] (Ys 111 B314 [])) ?_
 refine Xc 3 9 10 3 ⟨gx0, 1, none⟩ (.i x0v.at_) (p2.c 1 1) ?_
 refine Gn 5 [(3, .i x0v.at_), (11, (pt gx0 0))] (Yt 1110 B314 [1, 2, 3] (Ys 1111 B314 [])) ?_
 have p2 := p2.fr 1
 refine Gb h fun y4 e5 h => ?_
 refine Gc (kc 322 [11] #[132]) 12 371 322 _ (W.z4y x0v y4 e5 _ _ p2 (ug3.ext z2)) ?_
 rintro _ w3 ⟨S3, uid, rfl, z3, p3, uji, uie⟩
 refine Oa 371 4 0 (.agg #[.u 0, .u 0, .u 0, .u 0, .int .u8 0, .bool false]) [.u 0, .u 0, .u 0, .u 0, .int .u8 0, .bool false] p3 Xa fun b6 w4 z4 p4 => ?_
 refine So 371 4 12 0 0 b6 0 (ag (vT370 y4.1)) (vT370 y4.1) p4 rfl Xe fun w5 z5 p5 => ?_
 refine Gn 5 [(13, (pt gx0 0))] (Yt 111100 B314 [1, 2] Jr0) ?_
 have p5 := p5.fr 1
 refine Gb h fun y8 e9 h => ?_
 refine Gc (kc 197 [13] #[132]) 14 5 197 _ (W.z4a y4.2 y8 e9 _ _ p5 (uie.ext (z4.t z5))) ?_
 rintro _ w6 ⟨S6, ujj, rfl, z6, p6, ujk⟩
 refine Gn 2 [(15, .bool (!(decide (y8.1 = 45))))] Jr0 ?_
 refine Gi h (fun h10 h => ?_) fun h10 h => ?_
 ·
  rw [dt h10]
  refine Gn 6 [(18, (pt b6 5))] (Yt 1111100 B314 [1, 2] Jr3) ?_
  refine Xc 4 18 19 4 ⟨b6, 5, none⟩ (.bool y4.1.single) (p6.c 1 5) ?_
  refine Gn 2 [(20, .bool (!y4.1.single))] Jr3 ?_
  refine Gi h (fun h11 h => ?_) fun h11 h => ?_
  ·
   rw [h11]
   have p6 : Hp nz wz S6 w6 ((some gx0, .row 135 (vT134 y8.2 ujj) 4 0) :: (some b6, .row 371 (U4 y4.1.set_ [.int .u8 y4.1.b, .bool true]) 6 0) :: (some b2, .row 24 [.u 0, .u 0, .u 0, .u 0] 4 0) :: Lr) := by simp only [wT29, vT69, vT165, vT26, vT134, vT370, vT218, h11] at p6; exact p6
   refine Gm 7 [([29, 30], (pt gx0 0)), ([31], (pt gx0 1))] (Zr Qld [3, 4, 5, 6, 7] Jr5) ?_
   refine Xc 3 31 32 3 ⟨gx0, 1, none⟩ (.i y8.2.at_) (p6.c 0 1) ?_
   refine Gn 3 [(33, .i (wr .i64 (y8.2.at_ + 1))), (34, (pt gx0 0)), (35, (pt gx0 1))] (Zr Qld [7] Jr5) ?_
   refine So 3 35 33 0 0 gx0 1 (.i (wr .i64 (y8.2.at_ + 1))) [.i (wr .i64 (y8.2.at_ + 1))] p6 rfl Xe fun w7 z7 p7 => ?_
   refine Gm 6 [([36, 37], (pt gx0 0)), ([38], (pt gx0 1))] (Yt 11111110 B314 [3, 4] (Ys 11111111 B314 [])) ?_
   refine Xc 3 38 39 3 ⟨gx0, 1, none⟩ (.i (wr .i64 (y8.2.at_ + 1))) (p7.c 0 1) ?_
   refine Gn 5 [(5, .i (wr .i64 (y8.2.at_ + 1))), (40, (pt gx0 0))] (Yt 111111110 B314 [1, 2, 3] (Ys 111111111 B314 [])) ?_
   refine Gb h fun y12 e13 h => ?_
   refine Gc (kc 322 [40] #[132]) 41 371 322 _ (W.z4y (⟨y8.2.s, wr .i64 (y8.2.at_ + 1), y8.2.deep, y8.2.bad⟩ : T134) y12 e13 _ _ p7 (ujk.ext z7)) ?_
   rintro _ w8 ⟨S8, uir, rfl, z8, p8, ujl, uiu⟩
   refine Oa 371 6 0 (.agg #[.u 0, .u 0, .u 0, .u 0, .int .u8 0, .bool false]) [.u 0, .u 0, .u 0, .u 0, .int .u8 0, .bool false] p8 Xa fun b14 w9 z9 p9 => ?_
   refine So 371 6 41 0 0 b14 0 (ag (vT370 y12.1)) (vT370 y12.1) p9 rfl Xe fun w10 z10 p10 => ?_
   refine Gm 8 [([48, 49], (pt gx0 0)), ([50], (pt gx0 3))] (Yt 111111111000 B314 [3, 4, 5] Jqg) ?_
   refine Xc 133 50 51 133 ⟨gx0, 3, none⟩ (uir) (p10.c 1 3) ?_
   refine Gl h fun v25 h16 h => ?_
   rcases v25 with _ | y17
   ·
    try dsimp only at h
    obtain rfl := PtO.nil (uiu.ext (z9.t z10)) h16
    refine Gm 3 [([52, 47], .bool false)] Jqg ?_
    have p10 := (((p10.fr 1).fr 1).fr 2).fr 3
    exact Gj 72 [(0, (pt gx0 0)), (2, (pt b2 0)), (3, .i x0v.at_), (4, (pt b6 0)), (5, .i (wr .i64 (y8.2.at_ + 1))), (6, (pt b14 0)), (47, .bool false)] (W.z51 gx0 _ _ h _ _ ((((((((z2.t z3).t z4).t z5).t z6).t z7).t z8).t z9).t z10) _ _ _ (.pointer none) p10 rfl uji ujl rfl)
   ·
    try dsimp only at h
    obtain ⟨a19, _, rfl, -, f20, q21⟩ := PtO.got (uiu.ext (z9.t z10)) h16
    obtain rfl := q21
    refine Gm 3 [([52, 47], .bool true)] Jqg ?_
    have p10 := (((p10.fr 1).fr 1).fr 2).fr 3
    exact Gj 72 [(0, (pt gx0 0)), (2, (pt b2 0)), (3, .i x0v.at_), (4, (pt b6 0)), (5, .i (wr .i64 (y8.2.at_ + 1))), (6, (pt b14 0)), (47, .bool true)] (W.z51 gx0 _ _ h _ _ ((((((((z2.t z3).t z4).t z5).t z6).t z7).t z8).t z9).t z10) _ _ _ _ p10 rfl uji ujl ⟨_, _, rfl, List.cons_ne_nil _ _, f20, rfl⟩)
  ·
   have u1q := bf h11
   rw [u1q]
   have p6 : Hp nz wz S6 w6 ((some gx0, .row 135 (vT134 y8.2 ujj) 4 0) :: (some b6, .row 371 (U4 y4.1.set_ [.int .u8 y4.1.b, .bool false]) 6 0) :: (some b2, .row 24 [.u 0, .u 0, .u 0, .u 0] 4 0) :: Lr) := by simp only [wT29, vT69, vT165, vT26, vT134, vT370, vT218, u1q] at p6; exact p6
   refine Gm 7 [([21, 22, 23], (pt gx0 0)), ([24], (pt gx0 1))] (Yt 111110100 B314 [4, 5] (Ys 111110101 B314 Jr2)) ?_
   refine Xc 3 24 25 3 ⟨gx0, 1, none⟩ (.i y8.2.at_) (p6.c 0 1) ?_
   refine Gb h fun y26 e27 h => ?_
   refine Gc (kc 69 [21, 25] #[132, 3]) 26 27 69 _ (W.z4c y8.2 y8.2.at_ y26 e27 _ _ p6 ujk) ?_
   rintro _ w11 ⟨S11, ujm, ujn, ujo, uij, rfl, z11, p11, ujp, ujq, rfl, uik⟩
   refine Gn 4 [(27, (pt b6 0))] (Yt 1111101010 B314 [1, 2] Jrf) ?_
   refine Xg 24 27 28 24 ⟨b6, 0, none⟩ (U4 y4.1.set_ []) (p11.pa 1 0) ?_
   refine So 24 2 28 0 2 b2 0 (ag (U4 y4.1.set_ [])) (U4 y4.1.set_ []) p11 rfl Xe fun w12 z12 p12 => ?_
   refine Gn 1 [] Jrf ?_
   obtain rfl := sj h
   have p12 := p12.dp 1
   have p12 := (p12.fr 0).fr 1
   exact R1 Tryz.f314 (.cell 2 24) (ag (U4 y4.1.set_ [])) (Rn b2 (p12.pa 0 0)) ⟨_, _, _, rfl, ((((((z2.t z3).t z4).t z5).t z6).t z11).t z12), p12.drop, (els_mk4 (S := S11) (w := w12) (k := .u64) uji), rfl, (uik.ext z12)⟩
 ·
  rw [df h10]
  refine Gn 4 [(16, (pt b6 0))] (Yt 11110100 B314 [1, 2] Jrh) ?_
  refine Xg 24 16 17 24 ⟨b6, 0, none⟩ (U4 y4.1.set_ []) (p6.pa 1 0) ?_
  refine So 24 2 17 0 2 b2 0 (ag (U4 y4.1.set_ [])) (U4 y4.1.set_ []) p6 rfl Xe fun w13 z13 p13 => ?_
  refine Gn 1 [] Jrh ?_
  obtain rfl := sj h
  have p13 := p13.dp 1
  have p13 := (p13.fr 0).fr 1
  exact R1 Tryz.f314 (.cell 2 24) (ag (U4 y4.1.set_ [])) (Rn b2 (p13.pa 0 0)) ⟨_, _, _, rfl, (((((z2.t z3).t z4).t z5).t z6).t z13), p13.drop, (els_mk4 (S := S6) (w := w13) (k := .u64) uji), rfl, (ujk.ext z13)⟩
def Qlq := Yq 1111010 B275
def Qlr := Yq 11110100 B275
def Qls := Yq 11110101 B275
def Post.z52 (lk : Nat) (rk : Nat) (jkk : Nat → Value) (u20 : Nat) (ujr : Option Nat) (ujs : Nat) (ujt : Nat) (uju : List Value) (ujv : Nat) (ujw : Nat) (ujx : Nat) (ujy : Value) (ujz : T26) (kq3 : Bool) (uk0 : T134) (r : List Int) (v : Value) (w' : World) : Prop :=
 ∃ S' uk1, v = .bool true ∧ Ext S0 w0 S' w' ∧ Hp nz wz S' w' ((some lk, .obj (lpst 275 (lfr 20 [(2, (pt u20 0)), (3, .bool kq3), (4, (pt ujv 0)), (9, .func (.func 313) #[] #[(pt ujw 0)])] jkk) #[10] (rfAssign (Qlq)) (rfBody (Qlq)) rk .ready none)) :: (some u20, .row 27 (vT26 ujz (Gp ujr) ujs ujt) 8 0) :: (ujr, .row 27 uju (ujt * kT26.size) 0) :: (some ujv, .row 24 uk1 4 0) :: (some ujw, .row 132 [(pt ujx 0)] 1 0) :: (some ujx, .row 135 (vT134 uk0 ujy) 4 0) :: Lr) ∧ Els kU S' w' uk1 r ∧ uk1.length = 4
theorem W.z52 (ujz : T26) (kq3 : Bool) (kq4 : List Int) (uk0 : T134) (a0 : List Int) (r : List Int) (h : M.a5b ujz kq3 kq4 uk0 a0 = some r) {nz wz S0 w0 Lr} (lk rk jkk u20 ujr ujs ujt uju ujv uk2 ujw ujx ujy uk3) (p0 : Hp nz wz S0 w0 ((some lk, .obj (lpst 275 (lfr 20 [(2, (pt u20 0)), (3, .bool kq3), (4, (pt ujv 0)), (9, .func (.func 313) #[] #[(pt ujw 0)])] jkk) #[10] (rfAssign (Qlq)) (rfBody (Qlq)) rk .ready none)) :: (some u20, .row 27 (vT26 ujz (Gp ujr) ujs ujt) 8 0) :: (ujr, .row 27 uju (ujt * kT26.size) 0) :: (some ujv, .row 24 uk2 4 0) :: (some ujw, .row 132 [(pt ujx 0)] 1 0) :: (some ujx, .row 135 (vT134 uk0 ujy) 4 0) :: Lr)) (uk4 : ujz.Set.length = 4) (uk5 : Els kT26 S0 w0 uju ujz.L) (uk6 : ujz.L.length = ujs) (uk7 : Els kU S0 w0 uk2 kq4) (uk8 : uk2.length = 4) (uk9 : PtO kT138 S0 w0 ujy uk0.bad) (fa0 : Els kU S0 w0 uk3 a0) (la0 : uk3.length = 4) :
  Goes Tg (rbase 275 lk) [.code (rfAssign (Qlq)), .beginRound, .code (rfBody (Qlq))] ⟨setp (lfr 20 [(2, (pt u20 0)), (3, .bool kq3), (4, (pt ujv 0)), (9, .func (.func 313) #[] #[(pt ujw 0)])] jkk) #[10] #[.agg uk3.toArray], []⟩ w0 (DoneR (Post.z52 nz wz S0 w0 Lr lk rk jkk u20 ujr ujs ujt uju ujv ujw ujx ujy ujz kq3 uk0 r)) := by
 subst uk6
 refine Gj 20 [(2, (pt u20 0)), (3, .bool kq3), (4, (pt ujv 0)), (9, .func (.func 313) #[] #[(pt ujw 0)]), (10, .agg uk3.toArray)] fun junk => ?_
 delta M.a5b at h
 refine Gn 1 [] [.inRegion (opsOf (Qlr)) [0, 1], .beginRound, .code (Qls)] ?_
 refine Oa 24 5 0 (.agg #[.u 0, .u 0, .u 0, .u 0]) [.u 0, .u 0, .u 0, .u 0] p0 Xa fun b7 w2 z2 p2 => ?_
 have f9 : Els kU S0 w2 ([.u 0, .u 0, .u 0, .u 0] : List Value) [0, 0, 0, 0] := (Els.cons (K := kU) (vs := [.u 0]) (x := 0) rfl (Els.cons (K := kU) (vs := [.u 0]) (x := 0) rfl (Els.cons (K := kU) (vs := [.u 0]) (x := 0) rfl (Els.cons (K := kU) (vs := [.u 0]) (x := 0) rfl Els.nil))))
 refine Xp 24 5 10 0 0 b7 4 uk3 p2 rfl rfl Xe (by kernel_rfl) (by kernel_rfl) (by kernel_rfl) la0 (Xq (fa0.ext z2)) fun w3 z3 p3 => ?_
 refine Gn 1 [] [.beginRound, .code (Qls)] ?_
 refine Goes.beginR 1 rfl p3 rfl fun w4 z4 p4 => ?_
 refine Gn 2 [] (Yt 111101010 B275 [0, 1, 2, 3, 4] J2w) ?_
 refine Xs 24 4 11 24 ⟨ujv, 0, none⟩ uk2 Xa (by kernel_rfl) (by kernel_rfl) (by rw [uk8]; kernel_rfl) (At_all (p4.mem 4 rfl)) ?_
 refine Xs 24 5 12 24 ⟨b7, 0, none⟩ uk3 Xa (by kernel_rfl) (by kernel_rfl) (by rw [la0]; kernel_rfl) (At_all (p4.mem 0 rfl)) ?_
 have l10 := Xm (uk7.ext ((z2.t z3).t z4)) uk8 rfl
 obtain rfl := els_lit4 (uk7.ext ((z2.t z3).t z4)) uk8
 have l11 := Xm (fa0.ext ((z2.t z3).t z4)) la0 rfl
 obtain rfl := els_lit4 (fa0.ext ((z2.t z3).t z4)) la0
 have f13 : Els (kArr 4 kU) S0 w4 ((U4 kq4 (U4 a0 [])) : List Value) [kq4, a0] := by exact (Els.cons (K := (kArr 4 kU)) (vs := (U4 kq4 [])) (x := kq4) ⟨l10, els_mk4 l10⟩ (Els.cons (K := (kArr 4 kU)) (vs := (U4 a0 [])) (x := a0) ⟨l11, els_mk4 l11⟩ Els.nil))
 refine Om (.buildSlice 405 2 #[(0, 11), (1, 12)]) 13 405 (fun b => .slice (Gp (some b)) 2 2) 24 ((U4 kq4 (U4 a0 [])) : List Value) (2 * (kArr 4 kU).size) p4 Xa fun b12 w5 z5 p5 => ?_
 obtain ⟨S6, z6, p6, f15⟩ := p5.freezeRd 0 rfl (f13.ext z5) (by decide)
 refine Gb h fun y16 e17 h => ?_
 refine Gc (kc 297 [13] #[405]) 14 24 297 _ (W.z4l [kq4, a0] y16 e17 _ _ _ p6 f15 rfl) ?_
 rintro _ w7 ⟨S7, ugu, rfl, z7, p7, ugv, ugw⟩
 have p7 := (p7.dp 0).dp 0
 refine Xp 24 4 14 0 3 ujv 4 ugu p7 rfl uk8 Xe (by kernel_rfl) (by kernel_rfl) (by kernel_rfl) ugw (Xq ugv) fun w8 z8 p8 => ?_
 refine Gn 2 [] [] ?_
 obtain rfl := sj h
 refine Goes.endR 0 p8 rfl fun w9 z9 p9 => ?_
 exact ⟨S7, ugu, rfl, (((((((z2.t z3).t z4).t z5).t z6).t z7).t z8).t z9), p9, (ugv.ext (z8.t z9)), ugw⟩
def Qlt := Yq 1100 B313
def Jrk := Zl Qlt J2z
def Jrl := Zc Qlt Jrk
def Jrn := Ys 110001 B313 (Ys 11001 B313 Jrk)
def Qlw := Yq 110000 B313
def Jru := Yt 11001000 B313 [1, 2, 3, 4] (Ys 11001001 B313 (Zb 1 (Ys 110011 B313 Jrk)))
def Post.z53 (lx0 : Nat) (rx0 : Nat) (u2f : Nat → Value) (u2g : Nat) (uka : Option Nat) (ukb : Nat) (ukc : Nat) (ukd : List Value) (uke : Nat) (ukf : Nat) (ukg : Nat) (ukh : T26) (uki : Bool) (r : (List Int) × T134) (v : Value) (w' : World) : Prop :=
 ∃ S' uk1 ukj, v = .tuple #[] ∧ Ext S0 w0 S' w' ∧ Hp nz wz S' w' ((some lx0, .obj (lpst 275 (lfr 20 [(2, (pt u2g 0)), (3, .bool uki), (4, (pt uke 0)), (9, .func (.func 313) #[] #[(pt ukf 0)])] u2f) #[10] (rfAssign (Qlq)) (rfBody (Qlq)) rx0 .ready none)) :: (some u2g, .row 27 (vT26 ukh (Gp uka) ukb ukc) 8 0) :: (uka, .row 27 ukd (ukc * kT26.size) 0) :: (some uke, .row 24 uk1 4 0) :: (some ukf, .row 132 [(pt ukg 0)] 1 0) :: (some ukg, .row 135 (vT134 r.2 ukj) 4 0) :: Lr) ∧ Els kU S' w' uk1 r.1 ∧ uk1.length = 4 ∧ PtO kT138 S' w' ukj r.2.bad
def L.z54 (lx0 : Nat) (rx0 : Nat) (u2f : Nat → Value) (u2g : Nat) (uka : Option Nat) (ukb : Nat) (ukc : Nat) (ukd : List Value) (uke : Nat) (ukf : Nat) (ukg : Nat) : Bool × (List Int) × T134 × T26 × Bool → ((List Int) × T134) → Prop := fun ⟨x3, e2, e4v, ukh, uki⟩ r => ∀ S1 w1, Ext S0 w0 S1 w1 → ∀ uk1 ukj (_ : Hp nz wz S1 w1 ((some lx0, .obj (lpst 275 (lfr 20 [(2, (pt u2g 0)), (3, .bool uki), (4, (pt uke 0)), (9, .func (.func 313) #[] #[(pt ukf 0)])] u2f) #[10] (rfAssign (Qlq)) (rfBody (Qlq)) rx0 .ready none)) :: (some u2g, .row 27 (vT26 ukh (Gp uka) ukb ukc) 8 0) :: (uka, .row 27 ukd (ukc * kT26.size) 0) :: (some uke, .row 24 uk1 4 0) :: (some ukf, .row 132 [(pt ukg 0)] 1 0) :: (some ukg, .row 135 (vT134 e4v ukj) 4 0) :: Lr)) (_ : ukh.Set.length = 4) (_ : Els kT26 S1 w1 ukd ukh.L) (_ : ukh.L.length = ukb) (_ : Els kU S1 w1 uk1 e2) (_ : uk1.length = 4) (_ : PtO kT138 S1 w1 ukj e4v.bad) (junk : Nat → Value),
 Goes Tg (base 313) Jrl ⟨lfr 22 [(0, yieldV lx0), (1, (pt ukf 0)), (3, .bool x3)] junk, []⟩ w1 (Done Tg 313 (Rets (Post.z53 nz wz S0 w0 Lr lx0 rx0 u2f u2g uka ukb ukc ukd uke ukf ukg ukh uki r)))
def L.z55 (lx0 : Nat) (rx0 : Nat) (u2f : Nat → Value) (u2g : Nat) (uka : Option Nat) (ukb : Nat) (ukc : Nat) (ukd : List Value) (uke : Nat) (ukf : Nat) (ukg : Nat) : Bool × (List Int) × T134 × T26 × Bool → ((List Int) × T134) → Prop := fun ⟨x16, e2, e4v, ukh, uki⟩ r => ∀ S1 w1, Ext S0 w0 S1 w1 → ∀ uk1 ukj (_ : Hp nz wz S1 w1 ((some lx0, .obj (lpst 275 (lfr 20 [(2, (pt u2g 0)), (3, .bool uki), (4, (pt uke 0)), (9, .func (.func 313) #[] #[(pt ukf 0)])] u2f) #[10] (rfAssign (Qlq)) (rfBody (Qlq)) rx0 .ready none)) :: (some u2g, .row 27 (vT26 ukh (Gp uka) ukb ukc) 8 0) :: (uka, .row 27 ukd (ukc * kT26.size) 0) :: (some uke, .row 24 uk1 4 0) :: (some ukf, .row 132 [(pt ukg 0)] 1 0) :: (some ukg, .row 135 (vT134 e4v ukj) 4 0) :: Lr)) (_ : ukh.Set.length = 4) (_ : Els kT26 S1 w1 ukd ukh.L) (_ : ukh.L.length = ukb) (_ : Els kU S1 w1 uk1 e2) (_ : uk1.length = 4) (_ : PtO kT138 S1 w1 ukj e4v.bad) (junk : Nat → Value),
 Goes Tg (base 313) Jrn ⟨lfr 22 [(0, yieldV lx0), (1, (pt ukf 0)), (16, .bool x16)] junk, []⟩ w1 (Done Tg 313 (Rets (Post.z53 nz wz S0 w0 Lr lx0 rx0 u2f u2g uka ukb ukc ukd uke ukf ukg ukh uki r)))
theorem W.z56 {nz wz S0 w0 Lr} (lx0 : Nat) (rx0 : Nat) (u2f : Nat → Value) (u2g : Nat) (uka : Option Nat) (ukb : Nat) (ukc : Nat) (ukd : List Value) (uke : Nat) (ukf : Nat) (ukg : Nat) : (∀ a r, M.a1j a = some r → (L.z54 nz wz S0 w0 Lr lx0 rx0 u2f u2g uka ukb ukc ukd uke ukf ukg) a r) ∧ (∀ a r, M.a1k a = some r → (L.z55 nz wz S0 w0 Lr lx0 rx0 u2f u2g uka ukb ukc ukd uke ukf ukg) a r) := by
 refine M.a1j.mutual_partial_correctness (L.z54 nz wz S0 w0 Lr lx0 rx0 u2f u2g uka ukb ukc ukd uke ukf ukg) (L.z55 nz wz S0 w0 Lr lx0 rx0 u2f u2g uka ukb ukc ukd uke ukf ukg) ?_ ?_
 ·
  intro ukk ukl ⟨x3, e2, e4v, ukh, uki⟩ r h S1 w1 hx uk1 ukj p1 ukm fs1 ls1 fe2 le2 ukn junk
  try dsimp only at h
  subst ls1
  refine Gn 3 [] (Zr Qlw [0, 1, 2, 3, 4, 5, 6, 7, 8, 9, 10, 11, 12] Jrn) ?_
  refine Xc 132 1 4 132 ⟨ukf, 0, none⟩ (pt ukg 0) (p1.c 4 0) ?_
  refine Gn 2 [(5, (pt ukg 0)), (6, (pt ukg 3))] (Zr Qlw [3, 4, 5, 6, 7, 8, 9, 10, 11, 12] Jrn) ?_
  refine Xc 133 6 7 133 ⟨ukg, 3, none⟩ (ukj) (p1.c 5 3) ?_
  refine Gl h fun v17 h8 h => ?_
  rcases v17 with _ | y9
  ·
   try dsimp only at h
   obtain rfl := PtO.nil ukn h8
   refine Gm 4 [([8, 9], .bool true), ([10, 11], .bool x3)] (Zr Qlw [8, 9, 10, 11, 12] Jrn) ?_
   refine Gi h (fun h14 h => ?_) fun h14 h => ?_
   ·
    rw [h14]
    refine Gm 6 [([12, 13, 14], undef), ([15, 16], .bool true)] Jrn ?_
    exact Gj 22 [(0, yieldV lx0), (1, (pt ukf 0)), (16, .bool true)] (ukl _ _ h _ _ hx _ (.pointer none) p1 ukm fs1 rfl fe2 le2 rfl)
   ·
    rw [bf h14]
    refine Xc 132 1 12 132 ⟨ukf, 0, none⟩ (pt ukg 0) (p1.c 4 0) ?_
    have p1 := p1.fr 5
    refine Gb h fun y15 e16 h => ?_
    refine Gc (.call { callee := .value (.func 132), args := #[12, (.const (.int .u8 93))], argTypes := #[132, 5] }) 13 4 132 _ (W.z4d (⟨e4v.s, e4v.at_, e4v.deep, none⟩ : T134) 93 y15 e16 _ (.pointer none) p1 rfl) ?_
    rintro _ w2 ⟨S2, ug5, rfl, z2, p2, ug6⟩
    refine Gm 4 [([14, 15, 16], .bool (!y15.1))] Jrn ?_
    have p2 := (((((p2.fr 0).fr 5).fr 5).fr 5).fr 5).fr 5
    exact Gj 22 [(0, yieldV lx0), (1, (pt ukf 0)), (16, .bool (!y15.1))] (ukl _ _ h _ _ (hx.t z2) _ _ p2 ukm (fs1.ext z2) rfl (fe2.ext z2) le2 ug6)
  ·
   try dsimp only at h
   obtain ⟨a11, _, rfl, -, f12, q13⟩ := PtO.got ukn h8
   obtain rfl := q13
   refine Gm 10 [([8, 9, 16], .bool false), ([10, 11, 12, 13, 14, 15], undef)] Jrn ?_
   exact Gj 22 [(0, yieldV lx0), (1, (pt ukf 0)), (16, .bool false)] (ukl _ _ h _ _ hx _ _ p1 ukm fs1 rfl fe2 le2 ⟨_, _, rfl, List.cons_ne_nil _ _, f12, rfl⟩)
 ·
  intro uko ukp ⟨x16, e2, e4v, ukh, uki⟩ r h S1 w1 hx uk1 ukj p1 ukm fs1 ls1 fe2 le2 ukn junk
  try dsimp only at h
  subst ls1
  refine Gi h (fun h18 h => ?_) fun h18 h => ?_
  ·
   rw [h18]
   refine Gn 7 [(17, yieldV lx0)] Jru ?_
   refine Xc 132 1 18 132 ⟨ukf, 0, none⟩ (pt ukg 0) (p1.c 4 0) ?_
   have p1 := p1.fr 5
   refine Gb h fun y19 e20 h => ?_
   refine Gc (kc 314 [18] #[132]) 19 24 314 _ (W.z50 e4v y19 e20 _ _ p1 ukn) ?_
   rintro _ w3 ⟨S3, ui2, uid, rfl, z3, p3, u3k, ui3, uie⟩
   have p3 := (((((p3.fr 0).fr 5).fr 5).fr 5).fr 5).fr 5
   refine Gb h fun y21 e22 h => ?_
   refine Goes.yieldAt (.call { callee := .value 17, args := #[19], argTypes := #[24] }) 20 4 0 lx0 #[.agg ui2.toArray] p3 rfl (by kernel_rfl) rfl (fun _ => by kernel_rfl) rfl (W.z52 ukh uki e2 y19.2 y19.1 y21 e22 _ _ _ _ _ _ _ _ _ _ _ _ _ _ p3 ukm (fs1.ext z3) rfl (fe2.ext z3) le2 uie u3k ui3) ?_
   rintro _ w4 ⟨S4, ukq, rfl, z4, p4, ukr, uks⟩
   refine Gn 9 [(21, .bool (!true)), (3, .bool false)] Jrl ?_
   exact Gj 22 [(0, yieldV lx0), (1, (pt ukf 0)), (3, .bool false)] (ukp _ _ h _ _ ((hx.t z3).t z4) _ _ p4 ukm (fs1.ext (z3.t z4)) rfl ukr uks (uie.ext z4))
  ·
   rw [bf h18]
   refine Gn 2 [] [] ?_
   obtain rfl := sj h
   exact Xy (fn := Tryz.f313) (by kernel_rfl) (v := .tuple #[]) (by kernel_rfl) ⟨S1, uk1, ukj, rfl, hx, p1, fe2, le2, ukn⟩
theorem W.z54 {nz wz S0 w0 Lr} (lx0 : Nat) (rx0 : Nat) (u2f : Nat → Value) (u2g : Nat) (uka : Option Nat) (ukb : Nat) (ukc : Nat) (ukd : List Value) (uke : Nat) (ukf : Nat) (ukg : Nat) : ∀ a r, M.a1j a = some r → (L.z54 nz wz S0 w0 Lr lx0 rx0 u2f u2g uka ukb ukc ukd uke ukf ukg) a r := (W.z56 lx0 rx0 u2f u2g uka ukb ukc ukd uke ukf ukg).1
theorem W.z55 {nz wz S0 w0 Lr} (lx0 : Nat) (rx0 : Nat) (u2f : Nat → Value) (u2g : Nat) (uka : Option Nat) (ukb : Nat) (ukc : Nat) (ukd : List Value) (uke : Nat) (ukf : Nat) (ukg : Nat) : ∀ a r, M.a1k a = some r → (L.z55 nz wz S0 w0 Lr lx0 rx0 u2f u2g uka ukb ukc ukd uke ukf ukg) a r := (W.z56 lx0 rx0 u2f u2g uka ukb ukc ukd uke ukf ukg).2
theorem W.z53 (ukh : T26) (uki : Bool) (ukt : List Int) (uku : T134) (r : (List Int) × T134) (h : M.a5c ukh uki ukt uku = some r) {nz wz S0 w0 Lr} (lx0 rx0 u2f u2g uka ukb ukc ukd uke ukf ukg ukv) (p0 : Hp nz wz S0 w0 ((some lx0, .obj (lpst 275 (lfr 20 [(2, (pt u2g 0)), (3, .bool uki), (4, (pt uke 0)), (9, .func (.func 313) #[] #[(pt ukf 0)])] u2f) #[10] (rfAssign (Qlq)) (rfBody (Qlq)) rx0 .ready none)) :: (some u2g, .row 27 (vT26 ukh (Gp uka) ukb ukc) 8 0) :: (uka, .row 27 ukd (ukc * kT26.size) 0) :: (some uke, .row 24 (U4 ukt []) 4 0) :: (some ukf, .row 132 [(pt ukg 0)] 1 0) :: (some ukg, .row 135 (vT134 uku ukv) 4 0) :: Lr)) (ukm : ukh.Set.length = 4) (ukw : Els kT26 S0 w0 ukd ukh.L) (ukx : ukh.L.length = ukb) (uky : ukt.length = 4) (ukz : PtO kT138 S0 w0 ukv uku.bad) :
  Calls Tg 313 #[yieldV lx0, (pt ukf 0)] w0 (Rets (Post.z53 nz wz S0 w0 Lr lx0 rx0 u2f u2g uka ukb ukc ukd uke ukf ukg ukh uki r)) := by
 subst ukx
 refine Zf Tryz.f313 B313 20 ?_
 refine Gj 22 [(0, yieldV lx0), (1, (pt ukf 0))] fun junk => ?_
 delta M.a5c at h
 refine Gn 6 [(3, .bool true)] Jrl ?_
 have f7 : Els kU S0 w0 ((U4 ukt []) : List Value) ukt := (els_mk4 (k := .u64) uky)
 exact Gj 22 [(0, yieldV lx0), (1, (pt ukf 0)), (3, .bool true)] (W.z54 lx0 rx0 u2f u2g uka ukh.L.length ukc ukd uke ukf ukg _ _ h _ _ (Xj S0 w0) _ _ p0 ukm ukw rfl f7 rfl ukz)
def Js1 := Ys 11111 B275 []
def Js4 := Zb 0 Js1
def Js6 := Ys 111111 B275 []
def Js9 := Ys 1111111 B275 []
def Qmd := Yq 1111110 B275
def Jsa := Zr Qmd [0, 1, 2] Js9
def Jsb := Zr Qmd [2] Js9
def Post.z57 (gx0 : Nat) (r : T26 × T134) (v : Value) (w' : World) : Prop :=
 ∃ S' ug4 u1 u2 ug0, v = (ag (vT26 r.1 ug4 u1 u2)) ∧ Ext S0 w0 S' w' ∧ Hp nz wz S' w' ((some gx0, .row 135 (vT134 r.2 ug0) 4 0) :: Lr) ∧ r.1.Set.length = 4 ∧ Rd kT26 S' w' ug4 u2 r.1.L ∧ r.1.L.length = u1 ∧ PtO kT138 S' w' ug0 r.2.bad
theorem W.z57 (x0v : T134) (r : T26 × T134) (h : M.a5d x0v = some r) {nz wz S0 w0 Lr} (gx0 ug2) (p0 : Hp nz wz S0 w0 ((some gx0, .row 135 (vT134 x0v ug2) 4 0) :: Lr)) (ug3 : PtO kT138 S0 w0 ug2 x0v.bad) :
  Calls Tg 275 #[(pt gx0 0)] w0 (Rets (Post.z57 nz wz S0 w0 Lr gx0 r)) := by
 refine Zf Tryz.f275 B275 19 ?_
 refine Gj 20 [(0, (pt gx0 0))] fun junk => ?_
 delta M.a5d at h
 refine Gn 2 [] (Yt 10 B275 [0] (Ys 11 B275 [])) ?_
 refine Oa 27 2 0 (.agg #[.i 0, .u 0, .u 0, .u 0, .u 0, Sn, .i 0, .i 0]) [.i 0, .u 0, .u 0, .u 0, .u 0, Sn, .i 0, .i 0] p0 Xa fun b2 w2 z2 p2 => ?_
 refine Gn 4 [(6, (pt gx0 0))] (Yt 110 B275 [1, 2] (Ys 111 B275 [])) ?_
 have p2 := p2.fr 1
 refine Gb h fun y4 e5 h => ?_
 refine Gc (.call { callee := .value (.func 132), args := #[6, (.const (.int .u8 94))], argTypes := #[132, 5] }) 7 4 132 _ (W.z4d x0v 94 y4 e5 _ _ p2 (ug3.ext z2)) ?_
 rintro _ w3 ⟨S3, uid, rfl, z3, p3, uie⟩
 refine Gn 4 [(3, .bool y4.1)] (Yt 1110 B275 [0] (Ys 1111 B275 [])) ?_
 refine Oa 24 4 0 (.agg #[.u 0, .u 0, .u 0, .u 0]) [.u 0, .u 0, .u 0, .u 0] p3 Xa fun b6 w4 z4 p4 => ?_
 refine Gn 5 [(8, (pt gx0 0))] (Yt 111100 B275 [1] (Ys 111101 B275 Js1)) ?_
 have p4 := p4.fr 1
 refine Gb h fun y8 e9 h => ?_
 refine Gc (kc 296 [8] #[132]) 9 390 296 _ (W.z4i y4.2 y8 e9 _ _ p4 (uie.ext z4)) ?_
 rintro _ w5 ⟨S5, ul0, rfl, z5, p5⟩
 refine Gn 2 [] (Zc Qlq Js4) ?_
 refine Gj 20 [(2, (pt b2 0)), (3, .bool y4.1), (4, (pt b6 0)), (9, .func (.func 313) #[] #[(pt ul0 0)])] (fun ul1 => ?_)
 refine Goes.rangeF (f := 275) 9 #[10] 313 #[] #[(pt ul0 0)] (by kernel_rfl) (by kernel_rfl) (fun _ => by kernel_rfl) p5 fun r12 l13 w6 z6 p6 => ?_
 have p6 : Hp nz wz S5 w6 ((none, .row 27 [] (0 * kT26.size) 0) :: (some l13, .obj (lpst 275 (lfr 20 [(2, (pt b2 0)), (3, .bool y4.1), (4, (pt b6 0)), (9, .func (.func 313) #[] #[(pt ul0 0)])] ul1) #[10] (rfAssign (Qlq)) (rfBody (Qlq)) r12 .ready none)) :: (some r12, .obj (.deferred (some []))) :: (some ul0, .row 132 [(pt gx0 0)] 1 0) :: (some gx0, .row 135 (vT134 y4.2 uid) 4 0) :: (some b6, .row 24 [.u 0, .u 0, .u 0, .u 0] 4 0) :: (some b2, .row 27 [.i 0, .u 0, .u 0, .u 0, .u 0, Sn, .i 0, .i 0] 8 0) :: Lr) := p6.nilRow' 27
 have p6 := (((((p6.fr 4).fr 4).fr 5).fr 3).fr 6).fr 5
 refine Gb h fun y17 e18 h => ?_
 refine ⟨_, W.z53 (⟨0, [0, 0, 0, 0], ([] : List T26), 0, 0⟩ : T26) y4.1 [0, 0, 0, 0] y4.2 y17 e18 _ _ _ _ none 0 0 [] _ _ _ _ p6 rfl (Els.nil (K := kT26)) rfl rfl (uie.ext ((z4.t z5).t z6)), ?_⟩
 rintro _ w7 ⟨S7, ul2, ul3, rfl, z7, p7, ul4, ul5, ul6⟩
 refine Goes.endF 0 p7 rfl rfl fun w8 z8 p8 => ?_
 replace p8 : Hp nz wz S7 w8 ((some b2, .row 27 [.i 0, .u 0, .u 0, .u 0, .u 0, .slice (Gp none) 0 0, .i 0, .i 0] 8 0) :: (none, .row 27 [] (0 * kT26.size) 0) :: (some b6, .row 24 ul2 4 0) :: (some ul0, .row 132 [(pt gx0 0)] 1 0) :: (some gx0, .row 135 (vT134 y17.2 ul3) 4 0) :: (some r12, .obj (.deferred (some []))) :: Lr) := (p8.front 0 _ rfl).drop
 show Goes _ _ Js4 _ _ _
 refine Gn 6 [(15, .bool y4.1)] (Ys 1111101 B275 Js6) ?_
 refine Gi h (fun h19 h => ?_) fun h19 h => ?_
 ·
  rw [h19]
  refine Gn 2 [] (Yt 11111010 B275 [0, 1, 2] Js6) ?_
  refine Xs 24 4 16 24 ⟨b6, 0, none⟩ ul2 Xa (by kernel_rfl) (by kernel_rfl) (by rw [ul5]; kernel_rfl) (At_all (p8.mem 2 rfl)) ?_
  refine Gb h fun y20 e21 h => ?_
  refine Gc (kc 273 [16] #[24]) 17 24 273 _ (W.z4g y17.1 y20 e21 _ p8 (ul4.ext z8) ul5) ?_
  rintro _ w9 ⟨S9, ul7, rfl, z9, p9, ues, ul8⟩
  have p9 := p9.dp 3
  refine Xp 24 4 17 0 2 b6 4 ul7 p9 rfl ul5 Xe (by kernel_rfl) (by kernel_rfl) (by kernel_rfl) ul8 (Xq ues) fun w10 z10 p10 => ?_
  refine Gn 3 [] Jsa ?_
  refine Xs 24 4 18 24 ⟨b6, 0, none⟩ ul7 Xa (by kernel_rfl) (by kernel_rfl) (by rw [ul8]; kernel_rfl) (At_all (p10.mem 2 rfl)) ?_
  have l22 := Xm (ues.ext z10) ul8 rfl
  obtain rfl := els_lit4 (ues.ext z10) ul8
  refine Gn 1 [(19, (ag (.i 1 :: U4 y20 [Sn, .i 0, .i 0])))] Jsb ?_
  refine So 27 2 19 0 0 b2 0 (ag (.i 1 :: U4 y20 [Sn, .i 0, .i 0])) (.i 1 :: U4 y20 [Sn, .i 0, .i 0]) p10 rfl Xe fun w11 z11 p11 => ?_
  refine Gn 1 [] Js9 ?_
  obtain rfl := sj h
  have p11 := (p11.dp 1).dp 1
  have p11 := ((p11.fr 1).fr 1).fr 2
  refine Goes.retL ?_
  refine lvs_mark 0 rfl rfl p11 rfl fun w12 z12 p12 => ?_
  replace p12 : Hp nz wz S9 w12 ((some b2, .row 27 (.i 1 :: U4 y20 [Sn, .i 0, .i 0]) 8 0) :: (some gx0, .row 135 (vT134 y17.2 ul3) 4 0) :: Lr) := p12.drop
  exact lvs_done (fn := Tryz.f275) rfl rfl rfl rfl (by kernel_rfl) (v := (ag (.i 1 :: U4 y20 [Sn, .i 0, .i 0]))) (results_n1 (fn := Tryz.f275) (a := .cell 2 27) (by kernel_rfl) (resV_cell ⟨b2, 0, none⟩ (by kernel_rfl) (run_loadN (.i 1 :: U4 y20 [Sn, .i 0, .i 0]) (by kernel_rfl) (by kernel_rfl) (p12.pa 0 0)))) ⟨S9, none, 0, 0, ul3, rfl, ((((((((((z2.t z3).t z4).t z5).t z6).t z7).t z8).t z9).t z10).t z11).t z12), p12.drop, l22, Xr, rfl, (ul6.ext ((((z8.t z9).t z10).t z11).t z12))⟩
 ·
  rw [bf h19]
  refine Gn 4 [] Jsa ?_
  refine Xs 24 4 18 24 ⟨b6, 0, none⟩ ul2 Xa (by kernel_rfl) (by kernel_rfl) (by rw [ul5]; kernel_rfl) (At_all (p8.mem 2 rfl)) ?_
  have l23 := Xm (ul4.ext z8) ul5 rfl
  obtain rfl := els_lit4 (ul4.ext z8) ul5
  refine Gn 1 [(19, (ag (.i 1 :: U4 y17.1 [Sn, .i 0, .i 0])))] Jsb ?_
  refine So 27 2 19 0 0 b2 0 (ag (.i 1 :: U4 y17.1 [Sn, .i 0, .i 0])) (.i 1 :: U4 y17.1 [Sn, .i 0, .i 0]) p8 rfl Xe fun w13 z13 p13 => ?_
  refine Gn 1 [] Js9 ?_
  obtain rfl := sj h
  have p13 := ((p13.dp 1).dp 1).dp 1
  have p13 := ((p13.fr 1).fr 1).fr 2
  refine Goes.retL ?_
  refine lvs_mark 0 rfl rfl p13 rfl fun w14 z14 p14 => ?_
  replace p14 : Hp nz wz S7 w14 ((some b2, .row 27 (.i 1 :: U4 y17.1 [Sn, .i 0, .i 0]) 8 0) :: (some gx0, .row 135 (vT134 y17.2 ul3) 4 0) :: Lr) := p14.drop
  exact lvs_done (fn := Tryz.f275) rfl rfl rfl rfl (by kernel_rfl) (v := (ag (.i 1 :: U4 y17.1 [Sn, .i 0, .i 0]))) (results_n1 (fn := Tryz.f275) (a := .cell 2 27) (by kernel_rfl) (resV_cell ⟨b2, 0, none⟩ (by kernel_rfl) (run_loadN (.i 1 :: U4 y17.1 [Sn, .i 0, .i 0]) (by kernel_rfl) (by kernel_rfl) (p14.pa 0 0)))) ⟨S7, none, 0, 0, ul3, rfl, ((((((((z2.t z3).t z4).t z5).t z6).t z7).t z8).t z13).t z14), p14.drop, l23, Xr, rfl, (ul6.ext ((z8.t z13).t z14))⟩
def Jsc := Ys 11 B279 []
def Post.z58 (gx0 : Nat) (r : T134) (v : Value) (w' : World) : Prop :=
 ∃ S' ug0, v = .tuple #[] ∧ Ext S0 w0 S' w' ∧ Hp nz wz S' w' ((some gx0, .row 135 (vT134 r ug0) 4 0) :: Lr) ∧ PtO kT138 S' w' ug0 r.bad
theorem W.z58 (x0v : T134) (x1 : Int) (r : T134) (h : M.a2m x0v x1 = some r) {nz wz S0 w0 Lr} (gx0 ug2) (p0 : Hp nz wz S0 w0 ((some gx0, .row 135 (vT134 x0v ug2) 4 0) :: Lr)) (ug3 : PtO kT138 S0 w0 ug2 x0v.bad) :
  Calls Tg 279 #[(pt gx0 0), .int .u8 x1] w0 (Rets (Post.z58 nz wz S0 w0 Lr gx0 r)) := by
 refine Zf Tryz.f279 B279 12 ?_
 refine Gj 14 [(0, (pt gx0 0)), (1, .int .u8 x1)] fun junk => ?_
 delta M.a2m at h
 refine Gn 4 [(4, (pt gx0 0)), (5, .int .u8 x1)] (Yt 10 B279 [2, 3] Jsc) ?_
 refine Gb h fun y2 e3 h => ?_
 refine Gc (kc 132 [4, 5] #[132, 5]) 6 4 132 _ (W.z4d x0v x1 y2 e3 _ _ p0 ug3) ?_
 rintro _ w2 ⟨S2, ug5, rfl, z2, p2, ug6⟩
 refine Gn 2 [(7, .bool (!y2.1))] Jsc ?_
 refine Gi h (fun h4 h => ?_) fun h4 h => ?_
 ·
  rw [h4]
  refine Gn 2 [] [] ?_
  obtain rfl := sj h
  exact Xy (fn := Tryz.f279) (by kernel_rfl) (v := .tuple #[]) (by kernel_rfl) ⟨S2, ug5, rfl, z2, p2, ug6⟩
 ·
  rw [bf h4]
  refine Gm 6 [([8, 9, 10], (pt gx0 0)), ([11], (pt gx0 1))] (Yt 110 B279 [4, 5] []) ?_
  refine Xc 3 11 12 3 ⟨gx0, 1, none⟩ (.i y2.2.at_) (p2.c 0 1) ?_
  refine Gb h fun y5 e6 h => ?_
  refine Gc (kc 69 [8, 12] #[132, 3]) 13 27 69 _ (W.z4c y2.2 y2.2.at_ y5 e6 _ _ p2 ug6) ?_
  rintro _ w3 ⟨S3, ula, ulb, ulc, uid, rfl, z3, p3, uld, ule, rfl, uie⟩
  refine Gn 1 [] [] ?_
  obtain rfl := sj h
  exact Xy (fn := Tryz.f279) (by kernel_rfl) (v := .tuple #[]) (by kernel_rfl) ⟨S3, uid, rfl, (z2.t z3), p3, uie⟩
def Jsf := Ys 111 B301 []
def Qmi := Yq 110 B301
def Post.z59 (gx0 : Nat) (ulf : Nat) (r : Bool × T134) (v : Value) (w' : World) : Prop :=
 ∃ S' ulg, v = .bool r.1 ∧ Ext S0 w0 S' w' ∧ Hp nz wz S' w' ((some gx0, .row 132 [(pt ulf 0)] 1 0) :: (some ulf, .row 135 (vT134 r.2 ulg) 4 0) :: Lr) ∧ PtO kT138 S' w' ulg r.2.bad
theorem W.z59 (ulh : T134) (r : Bool × T134) (h : M.a75 ulh = some r) {nz wz S0 w0 Lr} (gx0 ulf uli) (p0 : Hp nz wz S0 w0 ((some gx0, .row 132 [(pt ulf 0)] 1 0) :: (some ulf, .row 135 (vT134 ulh uli) 4 0) :: Lr)) (ulj : PtO kT138 S0 w0 uli ulh.bad) :
  Calls Tg 301 #[(pt gx0 0)] w0 (Rets (Post.z59 nz wz S0 w0 Lr gx0 ulf r)) := by
 refine Zf Tryz.f301 B301 9 ?_
 refine Gj 10 [(0, (pt gx0 0))] fun junk => ?_
 delta M.a75 at h
 refine Gn 6 [(1, .bool false)] (Zr Qmi [0, 1, 2, 3, 4, 5, 6, 7, 8] Jsf) ?_
 refine Xc 132 0 2 132 ⟨gx0, 0, none⟩ (pt ulf 0) (p0.c 0 0) ?_
 have p0 := p0.fr 1
 refine Gb h fun y3 e4 h => ?_
 refine Gc (kc 197 [2] #[132]) 3 5 197 _ (W.z4a ulh y3 e4 _ _ p0 ulj) ?_
 rintro _ w2 ⟨S2, ug5, rfl, z2, p2, ug6⟩
 refine Gm 2 [([4, 5], .bool (decide (y3.1 ≥ 48)))] (Zr Qmi [4, 5, 6, 7, 8] Jsf) ?_
 refine Gi h (fun h5 h => ?_) fun h5 h => ?_
 ·
  rw [dt h5]
  refine Xc 132 0 6 132 ⟨gx0, 0, none⟩ (pt ulf 0) (p2.c 1 0) ?_
  refine Gb h fun y6 e7 h => ?_
  refine Gc (kc 197 [6] #[132]) 7 5 197 _ (W.z4a y3.2 y6 e7 _ _ p2 ug6) ?_
  rintro _ w3 ⟨S3, uid, rfl, z3, p3, uie⟩
  refine Gm 4 [([8, 9, 1], .bool (decide (y6.1 ≤ 57)))] Jsf ?_
  obtain rfl := sj h
  have p3 := (p3.fr 0).fr 1
  exact Xd Tryz.f301 (.bool (decide (y6.1 ≤ 57))) ⟨_, _, rfl, (z2.t z3), p3, uie⟩
 ·
  rw [df h5]
  refine Gm 6 [([6, 7, 8], undef), ([9, 1], .bool false)] Jsf ?_
  obtain rfl := sj h
  have p2 := (p2.fr 0).fr 1
  exact Xd Tryz.f301 (.bool false) ⟨_, _, rfl, z2, p2, ug6⟩
def Jsi := Ys 1111111 B278 []
def Jsj := Ys 11111101 B278 Jsi
def Qml := Yq 1111110101 B278
def Jsp := Ys 11111111 B278 []
def Post.z5a (gx0 : Nat) (r : Int × T134) (v : Value) (w' : World) : Prop :=
 ∃ S' ug0, v = .i r.1 ∧ Ext S0 w0 S' w' ∧ Hp nz wz S' w' ((some gx0, .row 135 (vT134 r.2 ug0) 4 0) :: Lr) ∧ PtO kT138 S' w' ug0 r.2.bad
def L.z5b (gx0 : Nat) : Int × Bool × T134 → (Int × T134) → Prop := fun ⟨x4, x25, e0v⟩ r => ∀ S1 w1, Ext S0 w0 S1 w1 → ∀ gx1 ug0 (_ : Hp nz wz S1 w1 ((some gx1, .row 132 [(pt gx0 0)] 1 0) :: (some gx0, .row 135 (vT134 e0v ug0) 4 0) :: Lr)) (_ : PtO kT138 S1 w1 ug0 e0v.bad) (junk : Nat → Value),
 Goes Tg (base 278) Jsj ⟨lfr 41 [(1, (pt gx1 0)), (4, .i x4), (25, .bool x25)] junk, []⟩ w1 (Done Tg 278 (Rets (Post.z5a nz wz S0 w0 Lr gx0 r)))
theorem W.z5b {nz wz S0 w0 Lr} (gx0 : Nat) : ∀ a r, M.a76 a = some r → L.z5b nz wz S0 w0 Lr gx0 a r := by
 intro ⟨x4, x25, e0v⟩ r h S1 w1 hx gx1 ug0 p1 ug1 junk
 rw [M.a76] at h
 try dsimp only at h
 refine Gi h (fun h13 h => ?_) fun h13 h => ?_
 ·
  rw [h13]
  refine Gn 5 [(26, .i x4), (27, .i (wr .i64 (10 * x4)))] (Yt 1111110100 B278 [2, 3, 4, 5, 6, 7] (Zc Qml Jsi)) ?_
  refine Xc 132 1 28 132 ⟨gx1, 0, none⟩ (pt gx0 0) (p1.c 0 0) ?_
  have p1 := p1.fr 1
  refine Gb h fun y14 e15 h => ?_
  refine Gc (kc 197 [28] #[132]) 29 5 197 _ (W.z4a e0v y14 e15 _ _ p1 ug1) ?_
  rintro _ w7 ⟨S7, ulk, rfl, z7, p7, ull⟩
  refine Gm 6 [([30], .int .u8 (wr .u8 (y14.1 - 48))), ([31], .i (wr .i64 (wr .u8 (y14.1 - 48)))), ([32, 4], .i (wr .i64 ((wr .i64 (10 * x4)) + (wr .i64 (wr .u8 (y14.1 - 48))))))] (Zr Qml [0, 1, 2, 3, 4, 5, 6, 7] Jsi) ?_
  refine Xc 132 1 33 132 ⟨gx1, 0, none⟩ (pt gx0 0) (p7.c 1 0) ?_
  refine Gn 2 [(34, (pt gx0 0)), (35, (pt gx0 1))] (Zr Qml [3, 4, 5, 6, 7] Jsi) ?_
  refine Xc 3 35 36 3 ⟨gx0, 1, none⟩ (.i y14.2.at_) (p7.c 0 1) ?_
  refine Gn 3 [(37, .i (wr .i64 (y14.2.at_ + 1))), (38, (pt gx0 0)), (39, (pt gx0 1))] (Zr Qml [7] Jsi) ?_
  refine So 3 39 37 0 0 gx0 1 (.i (wr .i64 (y14.2.at_ + 1))) [.i (wr .i64 (y14.2.at_ + 1))] p7 rfl Xe fun w8 z8 p8 => ?_
  refine Gm 6 [([40, 2], .i (wr .i64 ((wr .i64 (10 * x4)) + (wr .i64 (wr .u8 (y14.1 - 48))))))] Jsp ?_
  obtain rfl := sj h
  have p8 := p8.dp 1
  exact Xd Tryz.f278 (.i (wr .i64 ((wr .i64 (10 * x4)) + (wr .i64 (wr .u8 (y14.1 - 48)))))) ⟨_, _, rfl, ((hx.t z7).t z8), p8, (ull.ext z8)⟩
 ·
  rw [bf h13]
  refine Gm 7 [([40, 2], .i x4)] Jsp ?_
  obtain rfl := sj h
  have p1 := p1.dp 0
  exact Xd Tryz.f278 (.i x4) ⟨_, _, rfl, hx, p1, ug1⟩
def Jss := Ys 1111 B278 []
def Jst := Ys 11101 B278 Jss
def Jsx := Ys 111111 B278 []
def Qmw := Yq 111110 B278
def Qmx := Yq 11111100 B278
theorem W.z5a (x0v : T134) (r : Int × T134) (h : M.a77 x0v = some r) {nz wz S0 w0 Lr} (gx0 ug2) (p0 : Hp nz wz S0 w0 ((some gx0, .row 135 (vT134 x0v ug2) 4 0) :: Lr)) (ug3 : PtO kT138 S0 w0 ug2 x0v.bad) :
  Calls Tg 278 #[(pt gx0 0)] w0 (Rets (Post.z5a nz wz S0 w0 Lr gx0 r)) := by
 refine Zf Tryz.f278 B278 40 ?_
 refine Gj 41 [(0, (pt gx0 0))] fun junk => ?_
 delta M.a77 at h
 refine Gn 2 [] (Yt 10 B278 [0, 1] (Ys 11 B278 [])) ?_
 refine Ob 132 0 1 0 (pt gx0 0) [(pt gx0 0)] p0 Xa fun b2 w2 z2 p2 => ?_
 refine Gm 11 [([2], .i 0), ([5, 3, 6], .func (.func 301) #[] #[(pt b2 0)])] (Yt 11100 B278 [1, 2] Jst) ?_
 refine Gb h fun y4 e5 h => ?_
 refine Gc (.call { callee := .value 6, args := #[], argTypes := #[] }) 7 4 301 _ (W.z59 x0v y4 e5 _ _ _ p2 (ug3.ext z2)) ?_
 rintro _ w3 ⟨S3, ulm, rfl, z3, p3, uln⟩
 refine Gn 2 [(8, .bool (!y4.1))] Jst ?_
 refine Gi h (fun h6 h => ?_) fun h6 h => ?_
 ·
  rw [h6]
  refine Gn 4 [] (Yt 11110 B278 [0, 1, 2, 3, 4] (Ys 11111 B278 [])) ?_
  refine Xc 132 1 9 132 ⟨b2, 0, none⟩ (pt gx0 0) (p3.c 0 0) ?_
  have p3 := p3.fr 1
  refine Gb h fun y7 e8 h => ?_
  refine Gc (kc 197 [9] #[132]) 10 5 197 _ (W.z4a y4.2 y7 e8 _ _ p3 uln) ?_
  rintro _ w4 ⟨S4, uhy, rfl, z4, p4, ui1⟩
  refine Gm 6 [([11], .int .u8 (wr .u8 (y7.1 - 48))), ([12, 4], .i (wr .i64 (wr .u8 (y7.1 - 48))))] (Zr Qmw [0, 1, 2, 3, 4, 5, 6, 7] Jsx) ?_
  refine Xc 132 1 13 132 ⟨b2, 0, none⟩ (pt gx0 0) (p4.c 1 0) ?_
  refine Gn 2 [(14, (pt gx0 0)), (15, (pt gx0 1))] (Zr Qmw [3, 4, 5, 6, 7] Jsx) ?_
  refine Xc 3 15 16 3 ⟨gx0, 1, none⟩ (.i y7.2.at_) (p4.c 0 1) ?_
  refine Gn 3 [(17, .i (wr .i64 (y7.2.at_ + 1))), (18, (pt gx0 0)), (19, (pt gx0 1))] (Zr Qmw [7] Jsx) ?_
  refine So 3 19 17 0 0 gx0 1 (.i (wr .i64 (y7.2.at_ + 1))) [.i (wr .i64 (y7.2.at_ + 1))] p4 rfl Xe fun w5 z5 p5 => ?_
  refine Gm 7 [([20], .i (wr .i64 (wr .u8 (y7.1 - 48)))), ([21, 22], .bool (decide (wr .i64 (wr .u8 (y7.1 - 48)) > 0)))] (Zr Qmx [3, 4, 5] Jsj) ?_
  refine Gi h (fun h9 h => ?_) fun h9 h => ?_
  ·
   rw [dt h9]
   refine Gn 1 [(23, .func (.func 301) #[] #[(pt b2 0)])] (Zr Qmx [4, 5] Jsj) ?_
   have p5 := (p5.fr 0).fr 1
   refine Gb h fun y10 e11 h => ?_
   refine Gc (.call { callee := .value 23, args := #[], argTypes := #[] }) 24 4 301 _ (W.z59 (⟨y7.2.s, wr .i64 (y7.2.at_ + 1), y7.2.deep, y7.2.bad⟩ : T134) y10 e11 _ _ _ p5 (ui1.ext z5)) ?_
   rintro _ w6 ⟨S6, ulo, rfl, z6, p6, ulp⟩
   refine Gn 2 [(25, .bool y10.1)] Jsj ?_
   exact Gj 41 [(1, (pt b2 0)), (4, .i (wr .i64 (wr .u8 (y7.1 - 48)))), (25, .bool y10.1)] (W.z5b gx0 _ _ h _ _ ((((z2.t z3).t z4).t z5).t z6) _ _ p6 ulp)
  ·
   rw [df h9]
   refine Gm 4 [([23, 24], undef), ([25], .bool false)] Jsj ?_
   have p5 := (p5.fr 0).fr 1
   exact Gj 41 [(1, (pt b2 0)), (4, .i (wr .i64 (wr .u8 (y7.1 - 48)))), (25, .bool false)] (W.z5b gx0 _ _ h _ _ (((z2.t z3).t z4).t z5) _ _ p5 (ui1.ext z5))
 ·
  rw [bf h6]
  refine Gn 5 [(2, .i (-1))] (Ys 1110101 B278 Jss) ?_
  obtain rfl := sj h
  have p3 := p3.dp 0
  exact Xd Tryz.f278 (.i (-1)) ⟨_, _, rfl, (z2.t z3), p3, uln⟩
def Jt4 := Ys 111111 B248 []
def Jt7 := Ys 11111111 B248 []
def Jt8 := Ys 111111101 B248 Jt7
def Qn4 := Yq 111111100 B248
def Qn5 := Yq 1111111010 B248
def Jtb := Zr Qn5 [2] Jt7
def Jtc := Ys 111111111 B248 []
def Post.z5c (gx0 : Nat) (r : Int × Int × T134) (v : Value) (w' : World) : Prop :=
 ∃ S' ug0, v = .tuple #[.i r.1, .i r.2.1] ∧ Ext S0 w0 S' w' ∧ Hp nz wz S' w' ((some gx0, .row 135 (vT134 r.2.2 ug0) 4 0) :: Lr) ∧ PtO kT138 S' w' ug0 r.2.2.bad
def L.z5d (gx0 : Nat) : Int × Int × Int × T134 → (Int × Int × T134) → Prop := fun ⟨x1, x6, x7, e0v⟩ r => ∀ S1 w1, Ext S0 w0 S1 w1 → ∀ ug0 (_ : Hp nz wz S1 w1 ((some gx0, .row 135 (vT134 e0v ug0) 4 0) :: Lr)) (_ : PtO kT138 S1 w1 ug0 e0v.bad) (junk : Nat → Value),
 Goes Tg (base 248) Jt4 ⟨lfr 45 [(0, (pt gx0 0)), (1, .i x1), (6, .i x6), (7, .i x7)] junk, []⟩ w1 (Done Tg 248 (Rets (Post.z5c nz wz S0 w0 Lr gx0 r)))
theorem W.z5d {nz wz S0 w0 Lr} (gx0 : Nat) : ∀ a r, M.a78 a = some r → L.z5d nz wz S0 w0 Lr gx0 a r := by
 intro ⟨x1, x6, x7, e0v⟩ r h S1 w1 hx ug0 p1 ug1 junk
 rw [M.a78] at h
 try dsimp only at h
 refine Gn 3 [(23, (pt gx0 0))] (Yt 1111110 B248 [1] (Ys 1111111 B248 [])) ?_
 refine Gb h fun y12 e13 h => ?_
 refine Gc (.call { callee := .value (.func 279), args := #[23, (.const (.int .u8 125))], argTypes := #[132, 5] }) 24 0 279 _ (W.z58 e0v 125 y12 e13 _ _ p1 ug1) ?_
 rintro _ w6 ⟨S6, ujj, rfl, z6, p6, ujk⟩
 refine Gm 7 [([25], .i x6), ([26, 27], .bool (decide (x6 > 64)))] (Zr Qn4 [3, 4, 5, 6, 7, 8, 9, 10, 11, 12, 13, 14] Jt8) ?_
 refine Gi h (fun h14 h => ?_) fun h14 h => ?_
 ·
  rw [dt h14]
  refine Gm 14 [([28, 29, 32, 33, 34, 35, 36, 37, 38], undef), ([30, 31, 39], .bool true)] (Zc Qn5 Jt7) ?_
  refine Gn 3 [(40, (pt gx0 0)), (41, .i x1)] Jtb ?_
  refine Gb h fun y15 e16 h => ?_
  refine Gc (kc 69 [40, 41] #[132, 3]) 42 27 69 _ (W.z4c y12 x1 y15 e16 _ _ p6 ujk) ?_
  rintro _ w7 ⟨S7, ulq, u5s, u5t, ulk, rfl, z7, p7, ulr, u5v, rfl, ull⟩
  refine Gm 8 [([43, 4], .i x6), ([44, 5], .i x7)] Jtc ?_
  obtain rfl := sj h
  exact Xd Tryz.f248 (.tuple #[.i x6, .i x7]) ⟨_, _, rfl, ((hx.t z6).t z7), p7, ull⟩
 ·
  rw [df h14]
  refine Gm 4 [([28], .i x7), ([29, 30, 31], .bool (decide (x7 > 64)))] (Zr Qn4 [7, 8, 9, 10, 11, 12, 13, 14] Jt8) ?_
  refine Gi h (fun h17 h => ?_) fun h17 h => ?_
  ·
   rw [dt h17]
   refine Gm 13 [([32, 33, 34, 35, 36, 37, 38], undef), ([39], .bool true), ([40], (pt gx0 0)), ([41], .i x1)] Jtb ?_
   refine Gb h fun y18 e19 h => ?_
   refine Gc (kc 69 [40, 41] #[132, 3]) 42 27 69 _ (W.z4c y12 x1 y18 e19 _ _ p6 ujk) ?_
   rintro _ w8 ⟨S8, uio, uip, uiq, uir, rfl, z8, p8, uis, uit, rfl, uiu⟩
   refine Gm 8 [([43, 4], .i x6), ([44, 5], .i x7)] Jtc ?_
   obtain rfl := sj h
   exact Xd Tryz.f248 (.tuple #[.i x6, .i x7]) ⟨_, _, rfl, ((hx.t z6).t z8), p8, uiu⟩
  ·
   rw [df h17]
   refine Gm 3 [([32], .i x7), ([33, 34], .bool (decide (x7 ≥ 0)))] (Zr Qn4 [10, 11, 12, 13, 14] Jt8) ?_
   refine Gi h (fun h20 h => ?_) fun h20 h => ?_
   ·
    rw [dt h20]
    refine Gm 6 [([35], .i x6), ([36], .i x7), ([37, 38, 39], .bool (decide (x6 > x7)))] Jt8 ?_
    refine Gi h (fun h21 h => ?_) fun h21 h => ?_
    ·
     rw [dt h21]
     refine Gn 4 [(40, (pt gx0 0)), (41, .i x1)] Jtb ?_
     refine Gb h fun y22 e23 h => ?_
     refine Gc (kc 69 [40, 41] #[132, 3]) 42 27 69 _ (W.z4c y12 x1 y22 e23 _ _ p6 ujk) ?_
     rintro _ w9 ⟨S9, uls, u10, u11, ult, rfl, z9, p9, ulu, u13, rfl, ulv⟩
     refine Gm 8 [([43, 4], .i x6), ([44, 5], .i x7)] Jtc ?_
     obtain rfl := sj h
     exact Xd Tryz.f248 (.tuple #[.i x6, .i x7]) ⟨_, _, rfl, ((hx.t z6).t z9), p9, ulv⟩
    ·
     rw [df h21]
     refine Gm 9 [([43, 4], .i x6), ([44, 5], .i x7)] Jtc ?_
     obtain rfl := sj h
     exact Xd Tryz.f248 (.tuple #[.i x6, .i x7]) ⟨_, _, rfl, (hx.t z6), p6, ujk⟩
   ·
    rw [df h20]
    refine Gm 14 [([35, 36, 37], undef), ([38, 39], .bool false), ([43, 4], .i x6), ([44, 5], .i x7)] (Yt 111111110 B248 [] Jtc) ?_
    refine Gn 1 [] Jtc ?_
    obtain rfl := sj h
    exact Xd Tryz.f248 (.tuple #[.i x6, .i x7]) ⟨_, _, rfl, (hx.t z6), p6, ujk⟩
def Jtg := Ys 1111 B248 []
def Jth := Ys 1111101 B248 Jt4
def L.z5e (gx0 : Nat) : Int × Int × T134 → (Int × Int × T134) → Prop := fun ⟨x1, x6, e0v⟩ r => ∀ S1 w1, Ext S0 w0 S1 w1 → ∀ ug0 (_ : Hp nz wz S1 w1 ((some gx0, .row 135 (vT134 e0v ug0) 4 0) :: Lr)) (_ : PtO kT138 S1 w1 ug0 e0v.bad) (junk : Nat → Value),
 Goes Tg (base 248) Jtg ⟨lfr 45 [(0, (pt gx0 0)), (1, .i x1), (6, .i x6)] junk, []⟩ w1 (Done Tg 248 (Rets (Post.z5c nz wz S0 w0 Lr gx0 r)))
theorem W.z5e {nz wz S0 w0 Lr} (gx0 : Nat) : ∀ a r, M.a79 a = some r → L.z5e nz wz S0 w0 Lr gx0 a r := by
 intro ⟨x1, x6, e0v⟩ r h S1 w1 hx ug0 p1 ug1 junk
 rw [M.a79] at h
 try dsimp only at h
 refine Gm 9 [([18, 7], .i x6), ([19], (pt gx0 0))] (Yt 1111100 B248 [1] Jth) ?_
 refine Gb h fun y7 e8 h => ?_
 refine Gc (.call { callee := .value (.func 132), args := #[19, (.const (.int .u8 44))], argTypes := #[132, 5] }) 20 4 132 _ (W.z4d e0v 44 y7 e8 _ _ p1 ug1) ?_
 rintro _ w4 ⟨S4, uhy, rfl, z4, p4, ui1⟩
 refine Gn 1 [] Jth ?_
 refine Gi h (fun h9 h => ?_) fun h9 h => ?_
 ·
  rw [h9]
  refine Gn 3 [(21, (pt gx0 0))] (Yt 11111010 B248 [1, 2] Jt4) ?_
  refine Gb h fun y10 e11 h => ?_
  refine Gc (kc 278 [21] #[132]) 22 3 278 _ (W.z5a y7.2 y10 e11 _ _ p4 ui1) ?_
  rintro _ w5 ⟨S5, uiw, rfl, z5, p5, uiy⟩
  refine Gn 2 [(7, .i y10.1)] Jt4 ?_
  exact Gj 45 [(0, (pt gx0 0)), (1, .i x1), (6, .i x6), (7, .i y10.1)] (W.z5d gx0 _ _ h _ _ ((hx.t z4).t z5) _ p5 uiy)
 ·
  rw [bf h9]
  refine Gn 2 [] Jt4 ?_
  exact Gj 45 [(0, (pt gx0 0)), (1, .i x1), (6, .i x6), (7, .i x6)] (W.z5d gx0 _ _ h _ _ (hx.t z4) _ p4 ui1)
theorem W.z5c (x0v : T134) (x1 : Int) (r : Int × Int × T134) (h : M.a6m x0v x1 = some r) {nz wz S0 w0 Lr} (gx0 ug2) (p0 : Hp nz wz S0 w0 ((some gx0, .row 135 (vT134 x0v ug2) 4 0) :: Lr)) (ug3 : PtO kT138 S0 w0 ug2 x0v.bad) :
  Calls Tg 248 #[(pt gx0 0), .i x1] w0 (Rets (Post.z5c nz wz S0 w0 Lr gx0 r)) := by
 refine Zf Tryz.f248 B248 43 ?_
 refine Gj 45 [(0, (pt gx0 0)), (1, .i x1)] fun junk => ?_
 delta M.a6m at h
 refine Gm 8 [([4, 5], .i 0), ([8], (pt gx0 0))] (Yt 110 B248 [1, 2] (Ys 111 B248 [])) ?_
 refine Gb h fun y2 e3 h => ?_
 refine Gc (kc 278 [8] #[132]) 9 3 278 _ (W.z5a x0v y2 e3 _ _ p0 ug3) ?_
 rintro _ w2 ⟨S2, ug5, rfl, z2, p2, ug6⟩
 refine Gm 8 [([6, 10], .i y2.1), ([11], .bool (decide (y2.1 < 0)))] (Ys 11101 B248 Jtg) ?_
 refine Gi h (fun h4 h => ?_) fun h4 h => ?_
 ·
  rw [dt h4]
  refine Gm 6 [([12, 13, 14], (pt gx0 0)), ([15], (pt gx0 1))] (Yt 111010 B248 [4, 5] Jtg) ?_
  refine Xc 3 15 16 3 ⟨gx0, 1, none⟩ (.i y2.2.at_) (p2.c 0 1) ?_
  refine Gb h fun y5 e6 h => ?_
  refine Gc (kc 69 [12, 16] #[132, 3]) 17 27 69 _ (W.z4c y2.2 y2.2.at_ y5 e6 _ _ p2 ug6) ?_
  rintro _ w3 ⟨S3, ula, ulb, ulc, uid, rfl, z3, p3, uld, ule, rfl, uie⟩
  refine Gn 1 [] Jtg ?_
  exact Gj 45 [(0, (pt gx0 0)), (1, .i x1), (6, .i y2.1)] (W.z5e gx0 _ _ h _ _ (z2.t z3) _ p3 uie)
 ·
  rw [df h4]
  refine Gn 2 [] Jtg ?_
  exact Gj 45 [(0, (pt gx0 0)), (1, .i x1), (6, .i y2.1)] (W.z5e gx0 _ _ h _ _ z2 _ p2 ug6)
def Jtq := Ys 111 B133 []
def Jts := Ys 110101 B133 Jtq
def Jtu := Ys 1111 B133 []
def Post.z5f (r : T26) (v : Value) (w' : World) : Prop :=
 ∃ S' ug4 u1 u2, v = (ag (vT26 r ug4 u1 u2)) ∧ Ext S0 w0 S' w' ∧ Hp nz wz S' w' (Lr) ∧ r.Set.length = 4 ∧ Rd kT26 S' w' ug4 u2 r.L ∧ r.L.length = u1
theorem W.z5f (x0 : Int) (x1 : List T26) (r : T26) (h : M.a48 x0 x1 = some r) {nz wz S0 w0 Lr} (Ax1 nx1 cx1) (p0 : Hp nz wz S0 w0 (Lr)) (fx1 : Rd kT26 S0 w0 Ax1 cx1 x1) (lx1 : x1.length = nx1) :
  Calls Tg 133 #[.i x0, .slice Ax1 nx1 cx1] w0 (Rets (Post.z5f nz wz S0 w0 Lr r)) := by
 subst lx1
 refine Zf Tryz.f133 B133 12 ?_
 refine Gj 14 [(0, .i x0), (1, Sl Ax1 x1 cx1)] fun junk => ?_
 delta M.a48 at h
 refine Gn 2 [] (Yt 10 B133 [0] (Ys 11 B133 [])) ?_
 refine Oa 27 4 0 (.agg #[.i 0, .u 0, .u 0, .u 0, .u 0, Sn, .i 0, .i 0]) [.i 0, .u 0, .u 0, .u 0, .u 0, Sn, .i 0, .i 0] p0 Xa fun b1 w2 z2 p2 => ?_
 refine Gn 8 [(5, Sl Ax1 x1 cx1), (6, .i (x1.length : Int)), (7, .bool (decide ((x1.length : Int) = 1)))] (Ys 1101 B133 Jtq) ?_
 refine Gi h (fun h3 h => ?_) fun h3 h => ?_
 ·
  rw [dt h3]
  refine Gn 4 [(8, Sl Ax1 x1 cx1)] (Yt 110100 B133 [1, 2, 3] Jts) ?_
  refine Gg h fun g4 h => ?_
  refine Oi 25 8 (.const (.int .i64 0)) 9 0 27 .i64 0 (gi x1 0) rfl rfl (fx1.ext z2) Xa (by decide : (0 : Int) ≤ 0) g4 fun a5 _ f6 q7 => ?_
  have q8 := q7
  obtain ⟨_, _, rfl, rfl, ⟨_, _, rfl, ⟨l9, f10⟩, ⟨_, _, rfl, ⟨A11, c12, rfl, f13⟩, ⟨_, _, rfl, rfl, rfl⟩⟩⟩⟩ := kT26_open q8
  obtain rfl := els_lit4' f10 l9
  refine Xg 27 9 10 27 a5 ([.i ((gi x1 0).Kind)] ++ ((U4 ((gi x1 0).Set) []) ++ ([.slice A11 (((gi x1 0).L).length) c12] ++ ([.i ((gi x1 0).Min)] ++ [.i ((gi x1 0).Max)])))) (f6.cell) ?_
  refine So 27 4 10 0 0 b1 0 (ag (.i ((gi x1 0).Kind) :: U4 ((gi x1 0).Set) [.slice A11 (((gi x1 0).L).length) c12, .i ((gi x1 0).Min), .i ((gi x1 0).Max)])) (.i ((gi x1 0).Kind) :: U4 ((gi x1 0).Set) [.slice A11 (((gi x1 0).L).length) c12, .i ((gi x1 0).Min), .i ((gi x1 0).Max)]) p2 rfl Xe fun w3 z3 p3 => ?_
  refine Gn 1 [] Jts ?_
  obtain rfl := sj h
  exact R1 Tryz.f133 (.cell 4 27) (ag (.i ((gi x1 0).Kind) :: U4 ((gi x1 0).Set) [.slice A11 (((gi x1 0).L).length) c12, .i ((gi x1 0).Min), .i ((gi x1 0).Max)])) (Rn b1 (p3.pa 0 0)) ⟨_, _, _, _, rfl, (z2.t z3), p3.drop, l9, (f13.ext z3), rfl⟩
 ·
  rw [df h3]
  refine Gn 7 [(11, .i x0), (12, Sl Ax1 x1 cx1), (13, .agg #[.i x0, .u 0, .u 0, .u 0, .u 0, Sl Ax1 x1 cx1, .i 0, .i 0])] (Yt 1110 B133 [3] Jtu) ?_
  refine So 27 4 13 0 0 b1 0 (.agg #[.i x0, .u 0, .u 0, .u 0, .u 0, Sl Ax1 x1 cx1, .i 0, .i 0]) [.i x0, .u 0, .u 0, .u 0, .u 0, Sl Ax1 x1 cx1, .i 0, .i 0] p2 rfl Xe fun w4 z4 p4 => ?_
  refine Gn 1 [] Jtu ?_
  obtain rfl := sj h
  exact R1 Tryz.f133 (.cell 4 27) (.agg #[.i x0, .u 0, .u 0, .u 0, .u 0, Sl Ax1 x1 cx1, .i 0, .i 0]) (Rn b1 (p4.pa 0 0)) ⟨_, _, _, _, rfl, (z2.t z4), p4.drop, rfl, (fx1.ext (z2.t z4)), rfl⟩
end
end Go.Gx
