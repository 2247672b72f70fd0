import Derived.Test.YtdccklkdakfnaaaGreatWGsb
set_option linter.unusedVariables false
set_option linter.unusedSimpArgs false
set_option maxRecDepth 100000
set_option maxHeartbeats 4000000
namespace Go.Gx
open Go.RowKit Go.Proofs
variable (nz : Nat) (wz : World) (S0 : Fz) (w0 : World) (Lr : List Ent)
noncomputable section
def Qim := Yq 1101010 B192
def Qin := Yq 11010 B192
def Qio := Yq 110101 B192
def Post.z2y (lk : Nat) (rk : Nat) (jkk : Nat → Value) (u46 : Nat) (ue4 : Nat) (ue5 : ByteArray) (r : List ByteArray) (v : Value) (w' : World) : Prop :=
 ∃ S' ue6 ue7 ue8 ue9, v = .bool true ∧ Ext S0 w0 S' w' ∧ Hp nz wz S' w' ((some lk, .obj (lpst 192 (lfr 13 [(2, (pt u46 0)), (6, .func (.func 127) #[] #[(pt ue4 0)])] jkk) #[7] (rfAssign (Qin)) (rfBody (Qin)) rk .ready none)) :: (some u46, .row 43 [.slice (Gp ue6) ue7 ue8] 1 0) :: (ue6, .row 9 ue9 (ue8 * kStr.size) 0) :: (some ue4, .row 9 [.string ue5] 1 0) :: Lr) ∧ Els kStr S' w' ue9 r ∧ r.length = ue7
theorem W.z2y (uea : List ByteArray) (ue5 : ByteArray) (a0 : ByteArray) (r : List ByteArray) (h : M.a4r uea ue5 a0 = some r) {nz wz S0 w0 Lr} (lk rk jkk u46 ueb uec ued uee ue4) (p0 : Hp nz wz S0 w0 ((some lk, .obj (lpst 192 (lfr 13 [(2, (pt u46 0)), (6, .func (.func 127) #[] #[(pt ue4 0)])] jkk) #[7] (rfAssign (Qin)) (rfBody (Qin)) rk .ready none)) :: (some u46, .row 43 [.slice (Gp ueb) uec ued] 1 0) :: (ueb, .row 9 uee (ued * kStr.size) 0) :: (some ue4, .row 9 [.string ue5] 1 0) :: Lr)) (uef : Els kStr S0 w0 uee uea) (ueg : uea.length = uec) :
  Goes Tg (rbase 192 lk) [.code (rfAssign (Qin)), .beginRound, .code (rfBody (Qin))] ⟨setp (lfr 13 [(2, (pt u46 0)), (6, .func (.func 127) #[] #[(pt ue4 0)])] jkk) #[7] #[.string a0], []⟩ w0 (DoneR (Post.z2y nz wz S0 w0 Lr lk rk jkk u46 ue4 ue5 r)) := by
 subst ueg
 refine Gj 13 [(2, (pt u46 0)), (6, .func (.func 127) #[] #[(pt ue4 0)]), (7, .string a0)] fun junk => ?_
 delta M.a4r at h
 refine Gn 3 [(5, .string a0)] [.beginRound, .code (Qio)] ?_
 refine Goes.beginR 0 rfl p0 rfl fun w2 z2 p2 => ?_
 refine Gn 2 [] (Zr Qim [0, 1, 2, 3, 4] J7c) ?_
 refine Xb 43 2 8 43 ⟨u46, 0, none⟩ (.slice (Gp ueb) uea.length ued) (p2.c 1 0) ?_
 refine Gn 1 [(9, .string a0)] (Zr Qim [2, 3, 4] J7c) ?_
 have f6 : Els kStr S0 w2 ([.string a0] : List Value) [a0] := by exact (Els.cons (K := kStr) (vs := [.string a0]) (x := a0) rfl Els.nil)
 refine Om (.buildSlice 43 1 #[(0, 9)]) 10 43 (fun b => .slice (Gp (some b)) 1 1) 9 ([.string a0] : List Value) (1 * kStr.size) p2 Xa fun b5 w3 z3 p3 => ?_
 refine Gg h fun g11 h => ?_
 refine On (K := kStr) 43 8 10 11 43 9 3 (.string ⟨#[]⟩) 16 uea.length ued 1 uea [a0] (uea ++ [a0]) (Gp (some b5)) 1 rfl rfl rfl p3 rfl (uef.ext (z2.t z3)) Xa (f6.ext z3) (src_own p3 (q := 0) rfl) g11 fun w4 G12 c13 ueh z4 p4 f15 => ?_
 refine So 43 2 11 0 2 u46 0 (.slice (Gp G12) ((uea ++ [a0]).length) c13) [.slice (Gp G12) ((uea ++ [a0]).length) c13] p4 rfl Xd fun w5 z5 p5 => ?_
 refine Gn 2 [] [] ?_
 have p5 := p5.dp 0
 obtain rfl := sj h
 refine Goes.endR 0 p5 rfl fun w6 z6 p6 => ?_
 exact ⟨S0, G12, (uea ++ [a0]).length, c13, ueh, rfl, ((((z2.t z3).t z4).t z5).t z6), p6, (f15.ext (z5.t z6)), rfl⟩
def Qip := Yq 1100 B127
def Jml := Zl Qip J7e
def Jmm := Zc Qip Jml
def Jmr := Ys 1100110011 B127 (Zb 1 (Ys 1100111 B127 Jml))
def Qiu := Yq 1100110010 B127
def Post.z2z (lx0 : Nat) (rx0 : Nat) (u4q : Nat → Value) (u4r : Nat) (uei : Nat) (uej : ByteArray) (r : List ByteArray) (v : Value) (w' : World) : Prop :=
 ∃ S' ue6 ue7 ue8 ue9, v = .tuple #[] ∧ Ext S0 w0 S' w' ∧ Hp nz wz S' w' ((some lx0, .obj (lpst 192 (lfr 13 [(2, (pt u4r 0)), (6, .func (.func 127) #[] #[(pt uei 0)])] u4q) #[7] (rfAssign (Qin)) (rfBody (Qin)) rx0 .ready none)) :: (some u4r, .row 43 [.slice (Gp ue6) ue7 ue8] 1 0) :: (ue6, .row 9 ue9 (ue8 * kStr.size) 0) :: (some uei, .row 9 [.string uej] 1 0) :: Lr) ∧ Els kStr S' w' ue9 r ∧ r.length = ue7
def L.z30 (lx0 : Nat) (rx0 : Nat) (u4q : Nat → Value) (u4r : Nat) (uei : Nat) : Int × Int × (List ByteArray) × ByteArray → (List ByteArray) → Prop := fun ⟨x7, x8, uek, uej⟩ r => ∀ S1 w1, Ext S0 w0 S1 w1 → ∀ ue6 ue7 ue8 ue9 (_ : Hp nz wz S1 w1 ((some lx0, .obj (lpst 192 (lfr 13 [(2, (pt u4r 0)), (6, .func (.func 127) #[] #[(pt uei 0)])] u4q) #[7] (rfAssign (Qin)) (rfBody (Qin)) rx0 .ready none)) :: (some u4r, .row 43 [.slice (Gp ue6) ue7 ue8] 1 0) :: (ue6, .row 9 ue9 (ue8 * kStr.size) 0) :: (some uei, .row 9 [.string uej] 1 0) :: Lr)) (_ : Els kStr S1 w1 ue9 uek) (_ : uek.length = ue7) (junk : Nat → Value),
 Goes Tg (base 127) Jmm ⟨lfr 20 [(0, yieldV lx0), (1, (pt uei 0)), (7, .i x7), (8, .i x8)] junk, []⟩ w1 (Done Tg 127 (Rets (Post.z2z nz wz S0 w0 Lr lx0 rx0 u4q u4r uei uej r)))
theorem W.z30 {nz wz S0 w0 Lr} (lx0 : Nat) (rx0 : Nat) (u4q : Nat → Value) (u4r : Nat) (uei : Nat) : ∀ a r, M.a10 a = some r → (L.z30 nz wz S0 w0 Lr lx0 rx0 u4q u4r uei) a r := by
 refine M.a10.partial_correctness (motive := (L.z30 nz wz S0 w0 Lr lx0 rx0 u4q u4r uei)) ?_
 intro uel uem ⟨x7, x8, uek, uej⟩ r h S1 w1 hx ue6 ue7 ue8 ue9 p1 uen ueo junk
 try dsimp only at h
 subst ueo
 refine Gn 5 [(9, .bool (decide (x8 < x7)))] (Ys 110010 B127 (Ys 110011 B127 Jml)) ?_
 refine Gi h (fun h6 h => ?_) fun h6 h => ?_
 ·
  rw [dt h6]
  refine Gm 12 [([10, 3], .i x8), ([11], yieldV lx0)] (Zr Qiu [1, 2, 3, 4, 5, 6, 7] Jmr) ?_
  refine Xb 9 1 12 9 ⟨uei, 0, none⟩ (.string uej) (p1.c 3 0) ?_
  refine Gm 3 [([13, 14], .i x8), ([15], .i (wr .i64 (x8 + 3)))] (Zr Qiu [5, 6, 7] Jmr) ?_
  refine Gg h fun g7 h => ?_
  refine Gg h fun g8 h => ?_
  refine Gg h fun g9 h => ?_
  refine Op_.slS_n 9 12 (some 13) (some 15) 16 9 uej x8 (wr .i64 (x8 + 3)) (ss uej x8 (wr .i64 (x8 + 3))) rfl Xa (by kernel_rfl) (by kernel_rfl) (Bnd.at_ .i64 (by kernel_rfl)) (Bnd.at_ .i64 (by kernel_rfl)) g7 g8 g9 ?_
  refine Gb h fun y10 e11 h => ?_
  refine Goes.yieldAt (.call { callee := .value 11, args := #[16], argTypes := #[9] }) 17 4 0 lx0 #[.string (ss uej x8 (wr .i64 (x8 + 3)))] p1 rfl (by kernel_rfl) rfl (fun _ => by kernel_rfl) rfl (W.z2y uek uej (ss uej x8 (wr .i64 (x8 + 3))) y10 e11 _ _ _ _ _ _ _ _ _ p1 uen rfl) ?_
  rintro _ w2 ⟨S2, uep, ueq, uer, ues, rfl, z2, p2, uet, rfl⟩
  refine Gm 10 [([18], .bool (!true)), ([19, 8], .i (wr .i64 (x8 + 1)))] Jmm ?_
  exact Gj 20 [(0, yieldV lx0), (1, (pt uei 0)), (7, .i x7), (8, .i (wr .i64 (x8 + 1)))] (uem _ _ h _ _ (hx.t z2) _ _ _ _ p2 uet rfl)
 ·
  rw [df h6]
  refine Gn 2 [] [] ?_
  obtain rfl := sj h
  exact Xr (fn := Tryz.f127) (by kernel_rfl) (v := .tuple #[]) (by kernel_rfl) ⟨S1, ue6, uek.length, ue8, ue9, rfl, hx, p1, uen, rfl⟩
theorem W.z2z (ueu : List ByteArray) (uej : ByteArray) (r : List ByteArray) (h : M.a35 ueu uej = some r) {nz wz S0 w0 Lr} (lx0 rx0 u4q u4r uev uew uex uey uei) (p0 : Hp nz wz S0 w0 ((some lx0, .obj (lpst 192 (lfr 13 [(2, (pt u4r 0)), (6, .func (.func 127) #[] #[(pt uei 0)])] u4q) #[7] (rfAssign (Qin)) (rfBody (Qin)) rx0 .ready none)) :: (some u4r, .row 43 [.slice (Gp uev) uew uex] 1 0) :: (uev, .row 9 uey (uex * kStr.size) 0) :: (some uei, .row 9 [.string uej] 1 0) :: Lr)) (uez : Els kStr S0 w0 uey ueu) (uf0 : ueu.length = uew) :
  Calls Tg 127 #[yieldV lx0, (pt uei 0)] w0 (Rets (Post.z2z nz wz S0 w0 Lr lx0 rx0 u4q u4r uei uej r)) := by
 subst uf0
 refine Zf Tryz.f127 B127 18 ?_
 refine Gj 20 [(0, yieldV lx0), (1, (pt uei 0))] fun junk => ?_
 delta M.a35 at h
 refine Gn 2 [] (Yt 10 B127 [0, 1, 2, 3, 4] (Ys 11 B127 [])) ?_
 refine Xb 9 1 4 9 ⟨uei, 0, none⟩ (.string uej) (p0.c 3 0) ?_
 refine Gn 7 [(5, .i (uej.size : Int)), (6, .i (wr .i64 ((uej.size : Int) - 3))), (7, .i (wr .i64 ((wr .i64 ((uej.size : Int) - 3)) + 1))), (8, .i 0)] Jmm ?_
 exact Gj 20 [(0, yieldV lx0), (1, (pt uei 0)), (7, .i (wr .i64 ((wr .i64 ((uej.size : Int) - 3)) + 1))), (8, .i 0)] (W.z30 lx0 rx0 u4q u4r uei _ _ h _ _ (Xg S0 w0) _ _ _ _ p0 uez rfl)
def Jmz := Zb 0 (Ys 111 B192 [])
def Jn1 := Ys 1111 B192 []
def Post.z31 (uf1 : Nat) (uf2 : ByteArray) (r : List ByteArray) (v : Value) (w' : World) : Prop :=
 ∃ S' Gq nq cq csq, v = .slice (Gp Gq) nq cq ∧ Ext S0 w0 S' w' ∧ Hp nz wz S' w' ((Gq, .row 9 csq (cq * kStr.size) 0) :: (some uf1, .row 9 [.string uf2] 1 0) :: Lr) ∧ Els kStr S' w' csq r ∧ r.length = nq
theorem W.z31 (uf2 : ByteArray) (r : List ByteArray) (h : M.a41 uf2 = some r) {nz wz S0 w0 Lr} (uf1) (p0 : Hp nz wz S0 w0 ((some uf1, .row 9 [.string uf2] 1 0) :: Lr)) :
  Calls Tg 192 #[.slice none 0 0, .func (.func 127) #[] #[(pt uf1 0)]] w0 (Rets (Post.z31 nz wz S0 w0 Lr uf1 uf2 r)) := by
 refine Zf Tryz.f192 B192 11 ?_
 refine Gj 13 [(0, .slice none 0 0), (1, .func (.func 127) #[] #[(pt uf1 0)])] fun junk => ?_
 delta M.a41 at h
 refine Gn 2 [] (Yt 10 B192 [0, 1] (Ys 11 B192 [])) ?_
 refine Ob 43 0 2 0 (.slice none 0 0) [.slice none 0 0] p0 Xa fun b2 w2 z2 p2 => ?_
 refine Gn 8 [(4, .slice none 0 0), (6, .func (.func 127) #[] #[(pt uf1 0)])] (Zc Qin Jmz) ?_
 refine Gj 13 [(2, (pt b2 0)), (6, .func (.func 127) #[] #[(pt uf1 0)])] (fun uf3 => ?_)
 refine Goes.rangeF (f := 192) 6 #[7] 127 #[] #[(pt uf1 0)] (by kernel_rfl) (by kernel_rfl) (fun _ => by kernel_rfl) p2 fun r5 l6 w3 z3 p3 => ?_
 have p3 : Hp nz wz S0 w3 ((none, .row 9 [] (0 * kStr.size) 0) :: (some l6, .obj (lpst 192 (lfr 13 [(2, (pt b2 0)), (6, .func (.func 127) #[] #[(pt uf1 0)])] uf3) #[7] (rfAssign (Qin)) (rfBody (Qin)) r5 .ready none)) :: (some r5, .obj (.deferred (some []))) :: (some b2, .row 43 [.slice none 0 0] 1 0) :: (some uf1, .row 9 [.string uf2] 1 0) :: Lr) := p3.nilRow' 9
 have p3 := (((p3.fr 4).fr 1).fr 4).fr 3
 refine Gb h fun y10 e11 h => ?_
 refine ⟨_, W.z2z ([] : List ByteArray) uf2 y10 e11 _ _ _ _ none 0 0 [] _ p3 (Els.nil (K := kStr)) rfl, ?_⟩
 rintro _ w4 ⟨S4, uf4, uf5, uf6, uf7, rfl, z4, p4, uf8, rfl⟩
 refine Goes.endF 0 p4 rfl rfl fun w5 z5 p5 => ?_
 replace p5 : Hp nz wz S4 w5 ((some b2, .row 43 [.slice (Gp uf4) y10.length uf6] 1 0) :: (uf4, .row 9 uf7 (uf6 * kStr.size) 0) :: (some uf1, .row 9 [.string uf2] 1 0) :: (some r5, .obj (.deferred (some []))) :: Lr) := (p5.front 0 _ rfl).drop
 show Goes _ _ Jmz _ _ _
 refine Gn 3 [] (Yt 1110 B192 [0, 1] Jn1) ?_
 refine Xb 43 2 12 43 ⟨b2, 0, none⟩ (.slice (Gp uf4) y10.length uf6) (p5.c 0 0) ?_
 refine Gn 2 [(4, .slice (Gp uf4) y10.length uf6)] Jn1 ?_
 obtain rfl := sj h
 have p5 := p5.dp 0
 have p5 := ((p5.fr 1).fr 1).fr 2
 refine Goes.retL ?_
 refine lvs_mark 0 rfl rfl p5 rfl fun w6 z6 p6 => ?_
 replace p6 : Hp nz wz S4 w6 ((uf4, .row 9 uf7 (uf6 * kStr.size) 0) :: (some uf1, .row 9 [.string uf2] 1 0) :: Lr) := p6.drop
 exact lvs_done (fn := Tryz.f192) rfl rfl rfl rfl (by kernel_rfl) (v := .slice (Gp uf4) y10.length uf6) (by kernel_rfl) ⟨S4, uf4, y10.length, uf6, uf7, rfl, ((((z2.t z3).t z4).t z5).t z6), p6, (uf8.ext (z5.t z6)), rfl⟩
def Jn3 := Ys 111 B125 []
def Post.z32 (uf9 : Nat) (ufa : ByteArray) (r : List ByteArray) (v : Value) (w' : World) : Prop :=
 ∃ S' Gq nq cq csq, v = .slice (Gp Gq) nq cq ∧ Ext S0 w0 S' w' ∧ Hp nz wz S' w' ((Gq, .row 9 csq (cq * kStr.size) 0) :: (some uf9, .row 9 [.string ufa] 1 0) :: Lr) ∧ Els kStr S' w' csq r ∧ r.length = nq
theorem W.z32 (ufa : ByteArray) (r : List ByteArray) (h : M.a42 ufa = some r) {nz wz S0 w0 Lr} (uf9) (p0 : Hp nz wz S0 w0 ((some uf9, .row 9 [.string ufa] 1 0) :: Lr)) :
  Calls Tg 125 #[.func (.func 127) #[] #[(pt uf9 0)]] w0 (Rets (Post.z32 nz wz S0 w0 Lr uf9 ufa r)) := by
 refine Zf Tryz.f125 B125 4 ?_
 refine Gj 5 [(0, .func (.func 127) #[] #[(pt uf9 0)])] fun junk => ?_
 delta M.a42 at h
 refine Gn 7 [(2, .slice none 0 0), (3, .func (.func 127) #[] #[(pt uf9 0)])] (Yt 110 B125 [1, 2] Jn3) ?_
 refine Gb h fun y2 e3 h => ?_
 refine Gc (.call { callee := .value (.func 192), args := #[(.const (.slice none 0 0)), 3], argTypes := #[43, 125] }) 4 43 192 _ (W.z31 ufa y2 e3 _ p0 ) ?_
 rintro _ w2 ⟨S2, uc0, uc1, uc2, uc3, rfl, z2, p2, uc4, rfl⟩
 refine Gn 2 [(2, .slice (Gp uc0) y2.length uc2)] Jn3 ?_
 obtain rfl := sj h
 exact Xc Tryz.f125 (.slice (Gp uc0) y2.length uc2) ⟨_, _, _, _, _, rfl, z2, p2, uc4, rfl⟩
def Post.z33 (uf9 : Nat) (ufa : ByteArray) (r : List ByteArray) (v : Value) (w' : World) : Prop :=
 ∃ S' Gq nq cq csq, v = .slice (Gp Gq) nq cq ∧ Ext S0 w0 S' w' ∧ Hp nz wz S' w' ((Gq, .row 9 csq (cq * kStr.size) 0) :: (some uf9, .row 9 [.string ufa] 1 0) :: Lr) ∧ Els kStr S' w' csq r ∧ r.length = nq
theorem W.z33 (ufa : ByteArray) (r : List ByteArray) (h : M.a43 ufa = some r) {nz wz S0 w0 Lr} (uf9) (p0 : Hp nz wz S0 w0 ((some uf9, .row 9 [.string ufa] 1 0) :: Lr)) :
  Calls Tg 58 #[.func (.func 127) #[] #[(pt uf9 0)]] w0 (Rets (Post.z33 nz wz S0 w0 Lr uf9 ufa r)) := by
 refine Zf Tryz.f58 B58 8 ?_
 refine Gj 9 [(0, .func (.func 127) #[] #[(pt uf9 0)])] fun junk => ?_
 delta M.a43 at h
 refine Gn 7 [(2, .slice none 0 0), (4, .func (.func 127) #[] #[(pt uf9 0)])] (Yt 110 B58 [1, 2] (Ys 111 B58 [])) ?_
 refine Gb h fun y2 e3 h => ?_
 refine Gc (kc 125 [4] #[125]) 5 43 125 _ (W.z32 ufa y2 e3 _ p0 ) ?_
 rintro _ w2 ⟨S2, uc0, uc1, uc2, uc3, rfl, z2, p2, uc4, rfl⟩
 refine Gm 5 [([3, 6], .slice (Gp uc0) y2.length uc2)] (Yt 1110 B58 [1] (Ys 1111 B58 [])) ?_
 refine Gg h fun g5 h => ?_
 refine Gc (kc 126 [6] #[43]) 7 0 126 _ (sortS_calls Tryz.sortS p2 uc4 rfl g5) ?_
 rintro _ w3 ⟨rfl, z3, cs6, p3, f7⟩
 refine Gm 6 [([8, 2], .slice (Gp uc0) y2.length uc2)] (Ys 11111 B58 []) ?_
 obtain rfl := sj h
 exact Xc Tryz.f58 (.slice (Gp uc0) y2.length uc2) ⟨_, _, _, _, _, rfl, (z2.t z3), p3, f7, (srtS_len rfl)⟩
def Jna := Ys 111 B16 []
def Post.z34 (r : List ByteArray) (v : Value) (w' : World) : Prop :=
 ∃ S' Gq nq cq csq, v = .slice (Gp Gq) nq cq ∧ Ext S0 w0 S' w' ∧ Hp nz wz S' w' ((Gq, .row 9 csq (cq * kStr.size) 0) :: Lr) ∧ Els kStr S' w' csq r ∧ r.length = nq
theorem W.z34 (x0 : ByteArray) (r : List ByteArray) (h : M.a2c x0 = some r) {nz wz S0 w0 Lr} (p0 : Hp nz wz S0 w0 (Lr)) :
  Calls Tg 16 #[.string x0] w0 (Rets (Post.z34 nz wz S0 w0 Lr r)) := by
 refine Zf Tryz.f16 B16 6 ?_
 refine Gj 7 [(0, .string x0)] fun junk => ?_
 delta M.a2c at h
 refine Gn 7 [(2, .slice none 0 0), (3, .string x0)] (Yt 110 B16 [1, 2, 3, 4] Jna) ?_
 refine Gb h fun y1 e2 h => ?_
 refine Gc (kc 59 [3] #[9]) 4 125 59 _ (W.z2x x0 y1 e2  p0 ) ?_
 rintro _ w2 ⟨S2, ufb, rfl, z2, p2⟩
 refine Gb h fun y4 e5 h => ?_
 refine Gc (kc 58 [4] #[125]) 5 43 58 _ (W.z33 y1 y4 e5 _ p2 ) ?_
 rintro _ w3 ⟨S3, ufc, ufd, ufe, uff, rfl, z3, p3, u2d, rfl⟩
 have p3 := p3.dp 1
 refine Gg h fun g7 h => ?_
 refine Gc (kc 57 [5] #[43]) 6 43 57 _ (compactS_calls (zs := (cmpL y4)) Tryz.compS p3 u2d rfl rfl g7) ?_
 rintro _ w4 ⟨rfl, z4, cs8, p4, f9⟩
 refine Gn 2 [(2, .slice (Gp ufc) ((cmpL y4).length) ufe)] Jna ?_
 obtain rfl := sj h
 exact Xc Tryz.f16 (.slice (Gp ufc) ((cmpL y4).length) ufe) ⟨_, _, _, _, _, rfl, ((z2.t z3).t z4), p4, f9, rfl⟩
def Jnc := Ys 111 B188 []
def Post.z35 (r : Int × Int) (v : Value) (w' : World) : Prop :=
 ∃ S', v = .tuple #[.i r.1, .i r.2] ∧ Ext S0 w0 S' w' ∧ Hp nz wz S' w' (Lr)
theorem W.z35 (x0 : Int) (r : Int × Int) (h : M.a46 x0 = some r) {nz wz S0 w0 Lr} (p0 : Hp nz wz S0 w0 (Lr)) :
  Calls Tg 188 #[.i x0] w0 (Rets (Post.z35 nz wz S0 w0 Lr r)) := by
 refine Zf Tryz.f188 B188 5 ?_
 refine Gj 6 [(0, .i x0)] fun junk => ?_
 delta M.a46 at h
 refine Gm 11 [([2, 3], .i 0), ([4], .i x0), ([5], .bool (decide (x0 = 4)))] (Ys 1101 B188 Jnc) ?_
 refine Gi h (fun h1 h => ?_) fun h1 h => ?_
 ·
  rw [dt h1]
  refine Gn 6 [(2, .i 1), (3, .i 0)] (Ys 110101 B188 Jnc) ?_
  obtain rfl := sj h
  exact Xc Tryz.f188 (.tuple #[.i 1, .i 0]) ⟨_, rfl, (Xg S0 w0), p0⟩
 ·
  rw [df h1]
  refine Gn 7 [(2, .i 0), (3, .i 1)] (Ys 1111 B188 []) ?_
  obtain rfl := sj h
  exact Xc Tryz.f188 (.tuple #[.i 0, .i 1]) ⟨_, rfl, (Xg S0 w0), p0⟩
def Qjg := Yq 1110100 B235
def Jni := Zl Qjg (Zb 0 (Ys 1111 B235 []))
def Jnj := Zc Qjg Jni
def Jnm := Ys 111 B190 []
def Qjk := Yq 110 B190
def Jnw := Ys 111 B235 []
def Jo2 := Zb 1 (Ys 1110100111 B235 Jni)
def Jo3 := Ys 111010011001 B235 Jo2
def Qjs := Yq 111010011000 B235
def Jo8 := Ys 11101001100111 B235 Jo2
def Post.z36 (r : Bool) (v : Value) (w' : World) : Prop :=
 ∃ S', v = .bool r ∧ Ext S0 w0 S' w' ∧ Hp nz wz S' w' (Lr)
def Post.z37 (r : Bool) (v : Value) (w' : World) : Prop :=
 ∃ S', v = .bool r ∧ Ext S0 w0 S' w' ∧ Hp nz wz S' w' (Lr)
def LF.z36 : T29 × T29 → Bool → Prop := fun ⟨x0, x1⟩ r => ∀ {nz wz S0 w0 Lr} u92 u93 u94 ufg ufh ufi (_ : Hp nz wz S0 w0 (Lr)) (_ : Rd kT29 S0 w0 u92 u94 x0.L) (_ : x0.L.length = u93) (_ : Rd kT29 S0 w0 ufg ufi x1.L) (_ : x1.L.length = ufh),
 Calls Tg 190 #[(ag (vT29 x0 u92 u93 u94)), (ag (vT29 x1 ufg ufh ufi))] w0 (Rets (Post.z36 nz wz S0 w0 Lr r))
def LF.z37 : (List T29) × (List T29) → Bool → Prop := fun ⟨x0, x1⟩ r => ∀ {nz wz S0 w0 Lr} Ax0 nx0 cx0 Ax1 nx1 cx1 (_ : Hp nz wz S0 w0 (Lr)) (_ : Rd kT29 S0 w0 Ax0 cx0 x0) (_ : x0.length = nx0) (_ : Rd kT29 S0 w0 Ax1 cx1 x1) (_ : x1.length = nx1),
 Calls Tg 235 #[.slice Ax0 nx0 cx0, .slice Ax1 nx1 cx1, .func (.func 190) #[] #[]] w0 (Rets (Post.z37 nz wz S0 w0 Lr r))
def L.z38 : (List T29) × (List T29) × Int × Int → Bool → Prop := fun ⟨x1, x15, x16, x17⟩ r => ∀ S1 w1, Ext S0 w0 S1 w1 → ∀ Ax1 nx1 cx1 ufj ufk ufl (_ : Hp nz wz S1 w1 (Lr)) (_ : Rd kT29 S1 w1 Ax1 cx1 x1) (_ : x1.length = nx1) (_ : Rd kT29 S1 w1 ufj ufl x15) (_ : x15.length = ufk) (junk : Nat → Value),
 Goes Tg (base 235) Jnj ⟨lfr 32 [(1, .slice Ax1 nx1 cx1), (2, .func (.func 190) #[] #[]), (15, .slice ufj ufk ufl), (16, .i x16), (17, .i x17)] junk, []⟩ w1 (Done Tg 235 (Rets (Post.z37 nz wz S0 w0 Lr r)))
def LL.z38 : (List T29) × (List T29) × Int × Int → Bool → Prop := fun a r => ∀ {nz wz S0 w0 Lr}, L.z38 nz wz S0 w0 Lr a r
theorem W.z39 : (∀ a r, M.a11 a = some r → LF.z36 a r) ∧ (∀ a r, M.a36 a = some r → LF.z37 a r) ∧ (∀ a r, M.a12 a = some r → LL.z38 a r) := by
 refine M.a11.mutual_partial_correctness LF.z36 LF.z37 LL.z38 ?_ ?_ ?_
 ·
  intro ufm ufn ⟨x0, x1⟩ r h nz wz S0 w0 Lr u92 u93 u94 ufg ufh ufi p0 u9f u9g ufo ufp
  try dsimp only at h
  subst u9g
  subst ufp
  refine Zf Tryz.f190 B190 22 ?_
  refine Gj 24 [(0, (ag (vT29 x0 u92 x0.L.length u94))), (1, (ag (vT29 x1 ufg x1.L.length ufi)))] fun junk => ?_
  refine Gn 2 [] (Yt 10 B190 [0, 1, 2] (Ys 11 B190 [])) ?_
  refine Ob 30 0 2 0 (ag (vT29 x0 u92 x0.L.length u94)) (vT29 x0 u92 x0.L.length u94) p0 Xa fun b1 w2 z2 p2 => ?_
  refine Ob 30 1 3 0 (ag (vT29 x1 ufg x1.L.length ufi)) (vT29 x1 ufg x1.L.length ufi) p2 Xa fun b3 w3 z3 p3 => ?_
  refine Gn 5 [(4, .bool false), (5, (pt b1 0))] (Zr Qjk [1, 2, 3, 4, 5, 6, 7, 8, 9, 10, 11, 12, 13, 14, 15, 16, 17, 18, 19] Jnm) ?_
  refine Xb 3 5 6 3 ⟨b1, 0, none⟩ (.i x0.Op) (p3.c 1 0) ?_
  refine Gn 1 [(7, (pt b3 0))] (Zr Qjk [3, 4, 5, 6, 7, 8, 9, 10, 11, 12, 13, 14, 15, 16, 17, 18, 19] Jnm) ?_
  refine Xb 3 7 8 3 ⟨b3, 0, none⟩ (.i x1.Op) (p3.c 0 0) ?_
  refine Gm 2 [([9, 10], .bool (decide (x0.Op = x1.Op)))] (Zr Qjk [6, 7, 8, 9, 10, 11, 12, 13, 14, 15, 16, 17, 18, 19] Jnm) ?_
  refine Gi h (fun h5 h => ?_) fun h5 h => ?_
  ·
   rw [dt h5]
   refine Gn 1 [(11, (pt b1 1))] (Zr Qjk [7, 8, 9, 10, 11, 12, 13, 14, 15, 16, 17, 18, 19] Jnm) ?_
   refine Xb 9 11 12 9 ⟨b1, 1, none⟩ (.string x0.Text) (p3.c 1 1) ?_
   refine Gn 1 [(13, (pt b3 1))] (Zr Qjk [9, 10, 11, 12, 13, 14, 15, 16, 17, 18, 19] Jnm) ?_
   refine Xb 9 13 14 9 ⟨b3, 1, none⟩ (.string x1.Text) (p3.c 0 1) ?_
   refine Gm 3 [([15, 16, 17], .bool (x0.Text.toList == x1.Text.toList))] (Zr Qjk [13, 14, 15, 16, 17, 18, 19] Jnm) ?_
   refine Gi h (fun h6 h => ?_) fun h6 h => ?_
   ·
    rw [h6]
    refine Gn 1 [(18, (pt b1 2))] (Zr Qjk [14, 15, 16, 17, 18, 19] Jnm) ?_
    refine Xb 28 18 19 28 ⟨b1, 2, none⟩ (.slice u92 x0.L.length u94) (p3.c 1 2) ?_
    refine Gn 1 [(20, (pt b3 2))] (Zr Qjk [16, 17, 18, 19] Jnm) ?_
    refine Xb 28 20 21 28 ⟨b3, 2, none⟩ (.slice ufg x1.L.length ufi) (p3.c 0 2) ?_
    refine Gb h fun y7 e8 h => ?_
    refine Gc (.call { callee := .value (.func 235), args := #[19, 21, (.func 190)], argTypes := #[28, 28, 301] }) 22 4 235 _ (ufn (x0.L, x1.L) y7 e8 _ _ _ _ _ _ p3 (u9f.ext (z2.t z3)) rfl (ufo.ext (z2.t z3)) rfl) ?_
    rintro _ w4 ⟨S4, rfl, z4, p4⟩
    have p4 := (p4.dp 0).dp 0
    refine Gm 3 [([23, 4], .bool y7)] Jnm ?_
    obtain rfl := sj h
    exact Xc Tryz.f190 (.bool y7) ⟨_, rfl, ((z2.t z3).t z4), p4⟩
   ·
    rw [bf h6]
    refine Gm 8 [([18, 19, 20, 21, 22], undef), ([23, 4], .bool false)] Jnm ?_
    obtain rfl := sj h
    have p3 := (p3.dp 0).dp 0
    exact Xc Tryz.f190 (.bool false) ⟨_, rfl, (z2.t z3), p3⟩
  ·
   rw [df h5]
   refine Gm 14 [([11, 12, 13, 14, 15, 18, 19, 20, 21, 22], undef), ([16, 17, 23, 4], .bool false)] (Zr Qjk [] Jnm) ?_
   refine Gn 1 [] Jnm ?_
   obtain rfl := sj h
   have p3 := (p3.dp 0).dp 0
   exact Xc Tryz.f190 (.bool false) ⟨_, rfl, (z2.t z3), p3⟩
 ·
  intro ufq ufr ⟨x0, x1⟩ r h nz wz S0 w0 Lr Ax0 nx0 cx0 Ax1 nx1 cx1 p0 fx0 lx0 fx1 lx1
  try dsimp only at h
  subst lx0
  subst lx1
  refine Zf Tryz.f235 B235 29 ?_
  refine Gj 32 [(0, .slice Ax0 x0.length cx0), (1, .slice Ax1 x1.length cx1), (2, .func (.func 190) #[] #[])] fun junk => ?_
  refine Gn 13 [(6, .bool false), (10, .slice Ax0 x0.length cx0), (11, .i (x0.length : Int)), (12, .slice Ax1 x1.length cx1), (13, .i (x1.length : Int)), (14, .bool (!(decide ((x0.length : Int) = (x1.length : Int)))))] (Ys 1101 B235 Jnw) ?_
  refine Gi h (fun h1 h => ?_) fun h1 h => ?_
  ·
   rw [dt h1]
   refine Gn 11 [(15, .slice Ax0 x0.length cx0), (16, .i (x0.length : Int)), (17, .i 0)] Jnj ?_
   exact Gj 32 [(1, .slice Ax1 x1.length cx1), (2, .func (.func 190) #[] #[]), (15, .slice Ax0 x0.length cx0), (16, .i (x0.length : Int)), (17, .i 0)] (ufr _ _ h _ _ (Xg S0 w0) _ _ _ _ _ _ p0 fx1 rfl fx0 rfl)
  ·
   rw [df h1]
   refine Gn 5 [(6, .bool false)] (Ys 110101 B235 Jnw) ?_
   obtain rfl := sj h
   exact Xc Tryz.f235 (.bool false) ⟨_, rfl, (Xg S0 w0), p0⟩
 ·
  intro rec_gram_same ufq ih_gram_same ufr ⟨x1, x15, x16, x17⟩ r h nz wz S0 w0 Lr S1 w1 hx Ax1 nx1 cx1 ufj ufk ufl p1 fx1 lx1 ufs uft junk
  try dsimp only at h
  subst lx1
  subst uft
  refine Gn 5 [(18, .bool (decide (x17 < x16)))] (Ys 111010010 B235 (Ys 111010011 B235 Jni)) ?_
  refine Gi h (fun h2 h => ?_) fun h2 h => ?_
  ·
   rw [dt h2]
   refine Gn 7 [(19, .i x17)] (Zr Qjs [1, 2, 3, 4, 5] Jo3) ?_
   refine Gg h fun g3 h => ?_
   refine Gg h fun g4 h => ?_
   refine Oi 28 15 17 20 0 30 .i64 x17 (gi x15 x17) rfl rfl ufs Xa g3 g4 fun a5 _ f6 q7 => ?_
   have q8 := q7
   obtain ⟨_, _, rfl, rfl, ⟨_, _, rfl, rfl, ⟨A9, c10, rfl, f11⟩⟩⟩ := kT29_open q8
   refine Xf 30 20 21 30 a5 ([.i ((gi x15 x17).Op)] ++ ([.string ((gi x15 x17).Text)] ++ [.slice A9 (((gi x15 x17).L).length) c10])) (f6.cell) ?_
   refine Oa 30 8 0 (.agg #[.i 0, .string (⟨#[]⟩ : ByteArray), .slice none 0 0]) [.i 0, .string (⟨#[]⟩ : ByteArray), .slice none 0 0] p1 Xa fun b12 w2 z2 p2 => ?_
   refine Gn 1 [(7, .i x17)] (Zr Qjs [5] Jo3) ?_
   refine So 30 8 21 0 0 b12 0 ((ag (vT29 (gi x15 x17) A9 (((gi x15 x17).L).length) c10))) (vT29 (gi x15 x17) A9 (((gi x15 x17).L).length) c10) p2 rfl Xd fun w3 z3 p3 => ?_
   refine Gn 5 [(22, .slice Ax1 x1.length cx1), (23, .i x17)] (Yt 1110100110010 B235 [2, 3, 4, 5] (Ys 1110100110011 B235 Jo2)) ?_
   refine Gg h fun g14 h => ?_
   refine Oi 28 22 23 24 0 30 .i64 x17 (gi x1 x17) rfl rfl (fx1.ext (z2.t z3)) Xa g3 g14 fun a15 _ f16 q17 => ?_
   have q18 := q17
   obtain ⟨_, _, rfl, rfl, ⟨_, _, rfl, rfl, ⟨A19, c20, rfl, f21⟩⟩⟩ := kT29_open q18
   refine Xf 30 24 25 30 a15 ([.i ((gi x1 x17).Op)] ++ ([.string ((gi x1 x17).Text)] ++ [.slice A19 (((gi x1 x17).L).length) c20])) (f16.cell) ?_
   refine Oa 30 9 0 (.agg #[.i 0, .string (⟨#[]⟩ : ByteArray), .slice none 0 0]) [.i 0, .string (⟨#[]⟩ : ByteArray), .slice none 0 0] p3 Xa fun b22 w4 z4 p4 => ?_
   refine So 30 9 25 0 0 b22 0 ((ag (vT29 (gi x1 x17) A19 (((gi x1 x17).L).length) c20))) (vT29 (gi x1 x17) A19 (((gi x1 x17).L).length) c20) p4 rfl Xd fun w5 z5 p5 => ?_
   refine Gn 4 [(26, .func (.func 190) #[] #[])] (Yt 11101001100110 B235 [1, 2, 3, 4] Jo8) ?_
   refine Xf 30 8 27 30 ⟨b12, 0, none⟩ (vT29 (gi x15 x17) A9 (((gi x15 x17).L).length) c10) (p5.pa 1 0) ?_
   refine Xf 30 9 28 30 ⟨b22, 0, none⟩ (vT29 (gi x1 x17) A19 (((gi x1 x17).L).length) c20) (p5.pa 0 0) ?_
   refine Gb h fun y24 e25 h => ?_
   refine Gc (.call { callee := .value 26, args := #[27, 28], argTypes := #[30, 30] }) 29 4 190 _ (ih_gram_same (gi x15 x17, gi x1 x17) y24 e25 _ _ _ _ _ _ p5 (f11.ext (((z2.t z3).t z4).t z5)) rfl (f21.ext (z4.t z5)) rfl) ?_
   rintro _ w6 ⟨S6, rfl, z6, p6⟩
   have p6 := (p6.dp 0).dp 0
   refine Gn 2 [(30, .bool (!y24))] Jo8 ?_
   refine Gi h (fun h26 h => ?_) fun h26 h => ?_
   ·
    rw [h26]
    refine Gm 8 [([31, 17], .i (wr .i64 (x17 + 1)))] Jnj ?_
    exact Gj 32 [(1, .slice Ax1 x1.length cx1), (2, .func (.func 190) #[] #[]), (15, .slice ufj x15.length ufl), (16, .i x16), (17, .i (wr .i64 (x17 + 1)))] (ufr _ _ h _ _ (((((hx.t z2).t z3).t z4).t z5).t z6) _ _ _ _ _ _ p6 (fx1.ext ((((z2.t z3).t z4).t z5).t z6)) rfl (ufs.ext ((((z2.t z3).t z4).t z5).t z6)) rfl)
   ·
    rw [bf h26]
    refine Gn 5 [(6, .bool false)] (Ys 1110100110011101 B235 Jo2) ?_
    obtain rfl := sj h
    exact Xc Tryz.f235 (.bool false) ⟨_, rfl, (((((hx.t z2).t z3).t z4).t z5).t z6), p6⟩
  ·
   rw [df h2]
   refine Gn 6 [(6, .bool true)] (Ys 11111 B235 []) ?_
   obtain rfl := sj h
   exact Xc Tryz.f235 (.bool true) ⟨_, rfl, hx, p1⟩
theorem W.z36 : ∀ a r, M.a11 a = some r → LF.z36 a r := (W.z39).1
theorem W.z37 : ∀ a r, M.a36 a = some r → LF.z37 a r := (W.z39).2.1
theorem W.z38 : ∀ a r, M.a12 a = some r → LL.z38 a r := (W.z39).2.2
def Joe := Ys 111 B234 []
def Post.z3a (gx1 : Nat) (gx2 : Nat) (ufu : Option Addr) (u6p : Nat) (u6q : Nat) (x2v : T29) (r : Bool) (v : Value) (w' : World) : Prop :=
 ∃ S', v = .bool r ∧ Ext S0 w0 S' w' ∧ Hp nz wz S' w' ((some gx1, .row 301 [.func (.func 190) #[] #[]] 1 0) :: (some gx2, .row 30 (vT29 x2v ufu u6p u6q) 3 0) :: Lr)
theorem W.z3a (x0 : T29) (x2v : T29) (r : Bool) (h : M.a44 x0 x2v = some r) {nz wz S0 w0 Lr} (u92 u93 u94 gx1 gx2 ufu u6p u6q) (p0 : Hp nz wz S0 w0 ((some gx1, .row 301 [.func (.func 190) #[] #[]] 1 0) :: (some gx2, .row 30 (vT29 x2v ufu u6p u6q) 3 0) :: Lr)) (u9f : Rd kT29 S0 w0 u92 u94 x0.L) (u9g : x0.L.length = u93) (u6v : Rd kT29 S0 w0 ufu u6q x2v.L) (u6w : x2v.L.length = u6p) :
  Calls Tg 234 #[(ag (vT29 x0 u92 u93 u94)), (pt gx1 0), (pt gx2 0)] w0 (Rets (Post.z3a nz wz S0 w0 Lr gx1 gx2 ufu u6p u6q x2v r)) := by
 subst u9g
 subst u6w
 refine Zf Tryz.f234 B234 6 ?_
 refine Gj 9 [(0, (ag (vT29 x0 u92 x0.L.length u94))), (1, (pt gx1 0)), (2, (pt gx2 0))] fun junk => ?_
 delta M.a44 at h
 refine Gn 2 [] (Yt 10 B234 [0, 1] (Ys 11 B234 [])) ?_
 refine Ob 30 0 3 0 (ag (vT29 x0 u92 x0.L.length u94)) (vT29 x0 u92 x0.L.length u94) p0 Xa fun b3 w2 z2 p2 => ?_
 refine Gn 4 [(4, .bool false)] (Yt 110 B234 [0, 1, 2, 3, 4] Joe) ?_
 refine Xb 301 1 5 301 ⟨gx1, 0, none⟩ (.func (.func 190) #[] #[]) (p2.c 1 0) ?_
 refine Xf 30 2 6 30 ⟨gx2, 0, none⟩ (vT29 x2v ufu x2v.L.length u6q) (p2.pa 2 0) ?_
 refine Xf 30 3 7 30 ⟨b3, 0, none⟩ (vT29 x0 u92 x0.L.length u94) (p2.pa 0 0) ?_
 refine Gb h fun y5 e6 h => ?_
 refine Gc (.call { callee := .value 5, args := #[6, 7], argTypes := #[30, 30] }) 8 4 190 _ (W.z36 (x2v, x0) y5 e6 _ _ _ _ _ _ p2 (u6v.ext z2) rfl (u9f.ext z2) rfl) ?_
 rintro _ w3 ⟨S3, rfl, z3, p3⟩
 have p3 := p3.dp 0
 refine Gn 2 [(4, .bool y5)] Joe ?_
 obtain rfl := sj h
 exact Xc Tryz.f234 (.bool y5) ⟨_, rfl, (z2.t z3), p3⟩
def Qk4 := Yq 110100 B195
def Joi := Zl Qk4 (Zb 0 (Ys 111 B195 []))
def Joj := Zc Qk4 Joi
def Jol := Ys 11010010 B195 (Ys 11010011 B195 Joi)
def Jon := Zb 1 (Ys 110100111 B195 Joi)
def Joo := Ys 110100110011 B195 Jon
def Jop := Yt 110100110010 B195 [3, 4, 5] Joo
def Joq := Ys 11010011001101 B195 Jon
def Jor := Ys 1111 B195 []
def Post.z3b (uf1 : Nat) (ufv : Nat) (ufw : Option Addr) (ufx : Nat) (ufy : Nat) (ufz : T29) (r : Int) (v : Value) (w' : World) : Prop :=
 ∃ S', v = .i r ∧ Ext S0 w0 S' w' ∧ Hp nz wz S' w' ((some uf1, .row 301 [.func (.func 190) #[] #[]] 1 0) :: (some ufv, .row 30 (vT29 ufz ufw ufx ufy) 3 0) :: Lr)
def L.z3c (uf1 : Nat) (ufv : Nat) (ufw : Option Addr) (ufx : Nat) (ufy : Nat) : (List T29) × Int × Int × T29 → Int → Prop := fun ⟨x0, x7, x8, ufz⟩ r => ∀ S1 w1, Ext S0 w0 S1 w1 → ∀ Ax0 nx0 cx0 (_ : Hp nz wz S1 w1 ((some uf1, .row 301 [.func (.func 190) #[] #[]] 1 0) :: (some ufv, .row 30 (vT29 ufz ufw ufx ufy) 3 0) :: Lr)) (_ : Rd kT29 S1 w1 Ax0 cx0 x0) (_ : x0.length = nx0) (_ : Rd kT29 S1 w1 ufw ufy ufz.L) (_ : ufz.L.length = ufx) (junk : Nat → Value),
 Goes Tg (base 195) Joj ⟨lfr 19 [(0, .slice Ax0 nx0 cx0), (1, .func (.func 234) #[] #[(pt uf1 0), (pt ufv 0)]), (7, .i x7), (8, .i x8)] junk, []⟩ w1 (Done Tg 195 (Rets (Post.z3b nz wz S0 w0 Lr uf1 ufv ufw ufx ufy ufz r)))
theorem W.z3c {nz wz S0 w0 Lr} (uf1 : Nat) (ufv : Nat) (ufw : Option Addr) (ufx : Nat) (ufy : Nat) : ∀ a r, M.a13 a = some r → (L.z3c nz wz S0 w0 Lr uf1 ufv ufw ufx ufy) a r := by
 refine M.a13.partial_correctness (motive := (L.z3c nz wz S0 w0 Lr uf1 ufv ufw ufx ufy)) ?_
 intro ug0 ug1 ⟨x0, x7, x8, ufz⟩ r h S1 w1 hx Ax0 nx0 cx0 p1 fx0 lx0 ug2 ug3 junk
 try dsimp only at h
 subst lx0
 subst ug3
 refine Gn 5 [(9, .bool (decide (x8 < x7)))] Jol ?_
 refine Gi h (fun h3 h => ?_) fun h3 h => ?_
 ·
  rw [dt h3]
  refine Gm 14 [([10, 5, 13], .i x8), ([11], .func (.func 234) #[] #[(pt uf1 0), (pt ufv 0)]), ([12], .slice Ax0 x0.length cx0)] Jop ?_
  refine Gg h fun g4 h => ?_
  refine Gg h fun g5 h => ?_
  refine Oi 28 12 13 14 0 30 .i64 x8 (gi x0 x8) rfl rfl fx0 Xa g4 g5 fun a6 _ f7 q8 => ?_
  have q9 := q8
  obtain ⟨_, _, rfl, rfl, ⟨_, _, rfl, rfl, ⟨A10, c11, rfl, f12⟩⟩⟩ := kT29_open q9
  refine Xf 30 14 15 30 a6 ([.i ((gi x0 x8).Op)] ++ ([.string ((gi x0 x8).Text)] ++ [.slice A10 (((gi x0 x8).L).length) c11])) (f7.cell) ?_
  refine Gb h fun y13 e14 h => ?_
  refine Gc (.call { callee := .value 11, args := #[15], argTypes := #[30] }) 16 4 234 _ (W.z3a (gi x0 x8) ufz y13 e14 _ _ _ _ _ _ _ _ p1 f12 rfl ug2 rfl) ?_
  rintro _ w2 ⟨S2, rfl, z2, p2⟩
  refine Gn 1 [] Joo ?_
  refine Gi h (fun h15 h => ?_) fun h15 h => ?_
  ·
   rw [h15]
   refine Gm 6 [([17, 4], .i x8)] Joq ?_
   obtain rfl := sj h
   exact Xc Tryz.f195 (.i x8) ⟨_, rfl, (hx.t z2), p2⟩
  ·
   rw [bf h15]
   refine Gm 8 [([18, 8], .i (wr .i64 (x8 + 1)))] Joj ?_
   exact Gj 19 [(0, .slice Ax0 x0.length cx0), (1, .func (.func 234) #[] #[(pt uf1 0), (pt ufv 0)]), (7, .i x7), (8, .i (wr .i64 (x8 + 1)))] (ug1 _ _ h _ _ (hx.t z2) _ _ _ p2 (fx0.ext z2) rfl (ug2.ext z2) rfl)
 ·
  rw [df h3]
  refine Gn 6 [(4, .i (-1))] Jor ?_
  obtain rfl := sj h
  exact Xc Tryz.f195 (.i (-1)) ⟨_, rfl, hx, p1⟩
theorem W.z3b (x0 : List T29) (ufz : T29) (r : Int) (h : M.a45 x0 ufz = some r) {nz wz S0 w0 Lr} (Ax0 nx0 cx0 uf1 ufv ufw ufx ufy) (p0 : Hp nz wz S0 w0 ((some uf1, .row 301 [.func (.func 190) #[] #[]] 1 0) :: (some ufv, .row 30 (vT29 ufz ufw ufx ufy) 3 0) :: Lr)) (fx0 : Rd kT29 S0 w0 Ax0 cx0 x0) (lx0 : x0.length = nx0) (ug4 : Rd kT29 S0 w0 ufw ufy ufz.L) (ug5 : ufz.L.length = ufx) :
  Calls Tg 195 #[.slice Ax0 nx0 cx0, .func (.func 234) #[] #[(pt uf1 0), (pt ufv 0)]] w0 (Rets (Post.z3b nz wz S0 w0 Lr uf1 ufv ufw ufx ufy ufz r)) := by
 subst lx0
 subst ug5
 refine Zf Tryz.f195 B195 17 ?_
 refine Gj 19 [(0, .slice Ax0 x0.length cx0), (1, .func (.func 234) #[] #[(pt uf1 0), (pt ufv 0)])] fun junk => ?_
 delta M.a45 at h
 refine Gm 13 [([4, 8], .i 0), ([6], .slice Ax0 x0.length cx0), ([7], .i (x0.length : Int))] Joj ?_
 exact Gj 19 [(0, .slice Ax0 x0.length cx0), (1, .func (.func 234) #[] #[(pt uf1 0), (pt ufv 0)]), (7, .i (x0.length : Int)), (8, .i 0)] (W.z3c uf1 ufv ufw ufz.L.length ufy _ _ h _ _ (Xg S0 w0) _ _ _ p0 fx0 rfl ug4 rfl)
def Jos := Ys 111 B128 []
def Jot := Yt 110 B128 [2, 3, 4] Jos
def Post.z3d (uf1 : Nat) (ufv : Nat) (ufw : Option Addr) (ufx : Nat) (ufy : Nat) (ufz : T29) (r : Bool) (v : Value) (w' : World) : Prop :=
 ∃ S', v = .bool r ∧ Ext S0 w0 S' w' ∧ Hp nz wz S' w' ((some uf1, .row 301 [.func (.func 190) #[] #[]] 1 0) :: (some ufv, .row 30 (vT29 ufz ufw ufx ufy) 3 0) :: Lr)
theorem W.z3d (x0 : List T29) (ufz : T29) (r : Bool) (h : M.a37 x0 ufz = some r) {nz wz S0 w0 Lr} (Ax0 nx0 cx0 uf1 ufv ufw ufx ufy) (p0 : Hp nz wz S0 w0 ((some uf1, .row 301 [.func (.func 190) #[] #[]] 1 0) :: (some ufv, .row 30 (vT29 ufz ufw ufx ufy) 3 0) :: Lr)) (fx0 : Rd kT29 S0 w0 Ax0 cx0 x0) (lx0 : x0.length = nx0) (ug4 : Rd kT29 S0 w0 ufw ufy ufz.L) (ug5 : ufz.L.length = ufx) :
  Calls Tg 128 #[.slice Ax0 nx0 cx0, .func (.func 234) #[] #[(pt uf1 0), (pt ufv 0)]] w0 (Rets (Post.z3d nz wz S0 w0 Lr uf1 ufv ufw ufx ufy ufz r)) := by
 subst lx0
 subst ug5
 refine Zf Tryz.f128 B128 7 ?_
 refine Gj 9 [(0, .slice Ax0 x0.length cx0), (1, .func (.func 234) #[] #[(pt uf1 0), (pt ufv 0)])] fun junk => ?_
 delta M.a37 at h
 refine Gn 8 [(4, .bool false), (5, .slice Ax0 x0.length cx0), (6, .func (.func 234) #[] #[(pt uf1 0), (pt ufv 0)])] Jot ?_
 refine Gb h fun y3 e4 h => ?_
 refine Gc (kc 195 [5, 6] #[28, 232]) 7 3 195 _ (W.z3b x0 ufz y3 e4 _ _ _ _ _ _ _ _ p0 fx0 rfl ug4 rfl) ?_
 rintro _ w2 ⟨S2, rfl, z2, p2⟩
 refine Gm 3 [([8, 4], .bool (decide (y3 ≥ 0)))] Jos ?_
 obtain rfl := sj h
 exact Xc Tryz.f128 (.bool (decide (y3 ≥ 0))) ⟨_, rfl, z2, p2⟩
def Jov := Zb 0 (Ys 1111 B189 [])
def Qkf := Yq 1110100 B189
def Jow := Zl Qkf Jov
def Jox := Zc Qkf Jow
def Joz := Zb 1 (Ys 1110100111 B189 Jow)
def Jp4 := Ys 1110100110011 B189 Joz
def Post.z3e (r : List T29) (v : Value) (w' : World) : Prop :=
 ∃ S' Gq nq cq csq kzq, v = .slice (Gp Gq) nq cq ∧ Ext S0 w0 S' w' ∧ Hp nz wz S' w' ((Gq, .row 30 csq (cq * kT29.size) kzq) :: Lr) ∧ Els kT29 S' w' csq r ∧ r.length = nq
def L.z3f : (List T29) × (List T29) × Int × Int → (List T29) → Prop := fun ⟨x5, x8, x9, x10⟩ r => ∀ S1 w1, Ext S0 w0 S1 w1 → ∀ gx3 Gx5 nx5 cx5 uj ug6 Ax8 nx8 cx8 (_ : Hp nz wz S1 w1 ((some gx3, .row 301 [.func (.func 190) #[] #[]] 1 0) :: (Gx5, .row 30 uj (cx5 * kT29.size) ug6) :: Lr)) (_ : Els kT29 S1 w1 uj x5) (_ : x5.length = nx5) (_ : Rd kT29 S1 w1 Ax8 cx8 x8) (_ : x8.length = nx8) (junk : Nat → Value),
 Goes Tg (base 189) Jox ⟨lfr 24 [(3, (pt gx3 0)), (5, .slice (Gp Gx5) nx5 cx5), (8, .slice Ax8 nx8 cx8), (9, .i x9), (10, .i x10)] junk, []⟩ w1 (Done Tg 189 (Rets (Post.z3e nz wz S0 w0 Lr r)))
def L.z3g : (List T29) × (List T29) × Int × Int → (List T29) → Prop := fun ⟨x5, x8, x9, x10⟩ r => ∀ S1 w1, Ext S0 w0 S1 w1 → ∀ gx3 Gx5 nx5 cx5 uj ug6 Ax8 nx8 cx8 (_ : Hp nz wz S1 w1 ((some gx3, .row 301 [.func (.func 190) #[] #[]] 1 0) :: (Gx5, .row 30 uj (cx5 * kT29.size) ug6) :: Lr)) (_ : Els kT29 S1 w1 uj x5) (_ : x5.length = nx5) (_ : Rd kT29 S1 w1 Ax8 cx8 x8) (_ : x8.length = nx8) (junk : Nat → Value),
 Goes Tg (base 189) Joz ⟨lfr 24 [(3, (pt gx3 0)), (5, .slice (Gp Gx5) nx5 cx5), (8, .slice Ax8 nx8 cx8), (9, .i x9), (10, .i x10)] junk, []⟩ w1 (Done Tg 189 (Rets (Post.z3e nz wz S0 w0 Lr r)))
theorem W.z3h {nz wz S0 w0 Lr} : (∀ a r, M.ab a = some r → (L.z3f nz wz S0 w0 Lr) a r) ∧ (∀ a r, M.a1n a = some r → (L.z3g nz wz S0 w0 Lr) a r) := by
 refine M.ab.mutual_partial_correctness (L.z3f nz wz S0 w0 Lr) (L.z3g nz wz S0 w0 Lr) ?_ ?_
 ·
  intro ug7 ug8 ⟨x5, x8, x9, x10⟩ r h S1 w1 hx gx3 Gx5 nx5 cx5 uj ug6 Ax8 nx8 cx8 p1 fx5 lx5 fx8 lx8 junk
  try dsimp only at h
  subst lx5
  subst lx8
  refine Gn 5 [(11, .bool (decide (x10 < x9)))] (Ys 111010010 B189 (Ys 111010011 B189 Jow)) ?_
  refine Gi h (fun h6 h => ?_) fun h6 h => ?_
  ·
   rw [dt h6]
   refine Gn 6 [] (Yt 111010011000 B189 [0, 1, 2, 3] (Ys 111010011001 B189 Joz)) ?_
   refine Gg h fun g7 h => ?_
   refine Gg h fun g8 h => ?_
   refine Oi 28 8 10 12 0 30 .i64 x10 (gi x8 x10) rfl rfl fx8 Xa g7 g8 fun a9 _ f10 q11 => ?_
   have q12 := q11
   obtain ⟨_, _, rfl, rfl, ⟨_, _, rfl, rfl, ⟨A13, c14, rfl, f15⟩⟩⟩ := kT29_open q12
   refine Xf 30 12 13 30 a9 ([.i ((gi x8 x10).Op)] ++ ([.string ((gi x8 x10).Text)] ++ [.slice A13 (((gi x8 x10).L).length) c14])) (f10.cell) ?_
   refine Oa 30 7 0 (.agg #[.i 0, .string (⟨#[]⟩ : ByteArray), .slice none 0 0]) [.i 0, .string (⟨#[]⟩ : ByteArray), .slice none 0 0] p1 Xa fun b16 w3 z3 p3 => ?_
   refine So 30 7 13 0 0 b16 0 ((ag (vT29 (gi x8 x10) A13 (((gi x8 x10).L).length) c14))) (vT29 (gi x8 x10) A13 (((gi x8 x10).L).length) c14) p3 rfl Xd fun w4 z4 p4 => ?_
   refine Gn 5 [(14, .slice (Gp Gx5) x5.length cx5), (15, .func (.func 234) #[] #[(pt gx3 0), (pt b16 0)])] (Yt 1110100110010 B189 [2, 3] Jp4) ?_
   obtain ⟨S5, z5, p5, f18⟩ := p4.freezeRd 2 rfl (fx5.ext (z3.t z4)) (by decide)
   have p5 := (p5.fr 0).fr 1
   refine Gb h fun y19 e20 h => ?_
   refine Gc (kc 128 [14, 15] #[28, 232]) 16 4 128 _ (W.z3d x5 (gi x8 x10) y19 e20 _ _ _ _ _ _ _ _ p5 f18 rfl (f15.ext ((z3.t z4).t z5)) rfl) ?_
   rintro _ w6 ⟨S6, rfl, z6, p6⟩
   refine Gn 2 [(17, .bool (!y19))] Jp4 ?_
   refine Gi h (fun h21 h => ?_) fun h21 h => ?_
   ·
    rw [h21]
    refine Gn 2 [] Joz ?_
    have p6 := p6.dp 1
    exact Gj 24 [(3, (pt gx3 0)), (5, .slice (Gp Gx5) x5.length cx5), (8, .slice Ax8 x8.length cx8), (9, .i x9), (10, .i x10)] (ug8 _ _ h _ _ ((((hx.t z3).t z4).t z5).t z6) _ _ _ _ _ _ _ _ _ p6 (fx5.ext (((z3.t z4).t z5).t z6)) rfl (fx8.ext (((z3.t z4).t z5).t z6)) rfl)
   ·
    rw [bf h21]
    refine Gn 3 [(18, .slice (Gp Gx5) x5.length cx5)] (Yt 11101001100110 B189 [1, 2, 3, 4] Joz) ?_
    refine Xf 30 7 19 30 ⟨b16, 0, none⟩ (vT29 (gi x8 x10) A13 (((gi x8 x10).L).length) c14) (p6.pa 1 0) ?_
    have f25 : Els kT29 S6 w6 ((vT29 (gi x8 x10) A13 (((gi x8 x10).L).length) c14) : List Value) [gi x8 x10] := by exact (Els.cons (K := kT29) (vs := (vT29 (gi x8 x10) A13 (((gi x8 x10).L).length) c14)) (x := gi x8 x10) (kT29_close ⟨[.i ((gi x8 x10).Op)], [.string ((gi x8 x10).Text), .slice A13 (((gi x8 x10).L).length) c14], rfl, rfl, ⟨[.string ((gi x8 x10).Text)], [.slice A13 (((gi x8 x10).L).length) c14], rfl, rfl, ⟨_, _, rfl, (f15.ext (((z3.t z4).t z5).t z6))⟩⟩⟩) Els.nil)
    refine Om (.buildSlice 28 1 #[(0, 19)]) 20 28 (fun b => .slice (Gp (some b)) 1 1) 30 ((vT29 (gi x8 x10) A13 (((gi x8 x10).L).length) c14) : List Value) (1 * kT29.size) p6 Xa fun b24 w7 z7 p7 => ?_
    refine Gg h fun g30 h => ?_
    refine On (K := kT29) 28 18 20 21 28 30 3 (.agg #[.i 0, .string ⟨#[]⟩, .slice none 0 0]) 48 x5.length cx5 1 x5 [gi x8 x10] (x5 ++ [gi x8 x10]) (Gp (some b24)) 1 rfl rfl rfl p7 rfl (fx5.ext ((((z3.t z4).t z5).t z6).t z7)) Xa (f25.ext z7) (src_own p7 (q := 0) rfl) g30 fun w8 G31 c32 ug9 z8 p8 f34 => ?_
    refine Gn 2 [(5, .slice (Gp G31) ((x5 ++ [gi x8 x10]).length) c32)] Joz ?_
    have p8 := (p8.dp 0).dp 1
    exact Gj 24 [(3, (pt gx3 0)), (5, .slice (Gp G31) ((x5 ++ [gi x8 x10]).length) c32), (8, .slice Ax8 x8.length cx8), (9, .i x9), (10, .i x10)] (ug8 _ _ h _ _ ((((((hx.t z3).t z4).t z5).t z6).t z7).t z8) _ _ _ _ _ _ _ _ _ p8 f34 rfl (fx8.ext (((((z3.t z4).t z5).t z6).t z7).t z8)) rfl)
  ·
   rw [df h6]
   refine Gm 7 [([23, 4], .slice (Gp Gx5) x5.length cx5)] (Ys 11111 B189 []) ?_
   obtain rfl := sj h
   have p1 := p1.dp 0
   exact Xc Tryz.f189 (.slice (Gp Gx5) x5.length cx5) ⟨_, _, _, _, _, _, rfl, hx, p1, fx5, rfl⟩
 ·
  intro uga ugb ⟨x5, x8, x9, x10⟩ r h S1 w1 hx gx3 Gx5 nx5 cx5 uj ug6 Ax8 nx8 cx8 p1 fx5 lx5 fx8 lx8 junk
  try dsimp only at h
  subst lx5
  subst lx8
  refine Gm 6 [([22, 10], .i (wr .i64 (x10 + 1)))] Jox ?_
  exact Gj 24 [(3, (pt gx3 0)), (5, .slice (Gp Gx5) x5.length cx5), (8, .slice Ax8 x8.length cx8), (9, .i x9), (10, .i (wr .i64 (x10 + 1)))] (ugb _ _ h _ _ hx _ _ _ _ _ _ _ _ _ p1 fx5 rfl fx8 rfl)
theorem W.z3f {nz wz S0 w0 Lr} : ∀ a r, M.ab a = some r → (L.z3f nz wz S0 w0 Lr) a r := (W.z3h).1
theorem W.z3g {nz wz S0 w0 Lr} : ∀ a r, M.a1n a = some r → (L.z3g nz wz S0 w0 Lr) a r := (W.z3h).2
theorem W.z3e (x0 : List T29) (r : List T29) (h : M.a38 x0 = some r) {nz wz S0 w0 Lr} (Ax0 nx0 cx0) (p0 : Hp nz wz S0 w0 (Lr)) (fx0 : Rd kT29 S0 w0 Ax0 cx0 x0) (lx0 : x0.length = nx0) :
  Calls Tg 189 #[.slice Ax0 nx0 cx0, .func (.func 190) #[] #[]] w0 (Rets (Post.z3e nz wz S0 w0 Lr r)) := by
 subst lx0
 refine Zf Tryz.f189 B189 22 ?_
 refine Gj 24 [(0, .slice Ax0 x0.length cx0), (1, .func (.func 190) #[] #[])] fun junk => ?_
 delta M.a38 at h
 refine Gn 2 [] (Yt 10 B189 [0, 1] (Ys 11 B189 [])) ?_
 refine Ob 301 1 3 0 (.func (.func 190) #[] #[]) [.func (.func 190) #[] #[]] p0 Xa fun b1 w2 z2 p2 => ?_
 refine Gm 14 [([4, 5], .slice none 0 0), ([8], .slice Ax0 x0.length cx0), ([9], .i (x0.length : Int)), ([10], .i 0)] (Ys 111010 B189 Jov) ?_
 refine Gn 1 [] Jox ?_
 have p2 : Hp nz wz S0 w2 ((none, .row 30 [] (0 * kT29.size) 0) :: (some b1, .row 301 [.func (.func 190) #[] #[]] 1 0) :: Lr) := p2.nilRow' 30
 have p2 := (p2.fr 0).fr 1
 exact Gj 24 [(3, (pt b1 0)), (5, .slice (Gp none) 0 0), (8, .slice Ax0 x0.length cx0), (9, .i (x0.length : Int)), (10, .i 0)] (W.z3f _ _ h _ _ z2 _ none 0 0 [] 0 _ _ _ p2 (Els.nil (K := kT29)) rfl (fx0.ext z2) rfl)
def Jpb := Ys 11111 B118 []
def Qkt := Yq 11110100 B118
def Jpd := Zl Qkt (Zb 0 Jpb)
def Jpe := Zc Qkt Jpd
def Jpg := Zb 1 (Ys 11110100111 B118 Jpd)
def Jph := Zb 2 Jpg
def Jpr := Ys 11110100110011011101 B118 Jph
def Jpv := Ys 111111 B118 []
def Jpy := Zb 3 Jpv
def Jq0 := Ys 111110110101 B118 Jpy
def Jq3 := Ys 11111011011101 B118 Jpy
def Jq5 := Ys 1111111 B118 []
def Post.z3i (r : T29) (v : Value) (w' : World) : Prop :=
 ∃ S' u4 u5 u6, v = (ag (vT29 r u4 u5 u6)) ∧ Ext S0 w0 S' w' ∧ Hp nz wz S' w' (Lr) ∧ Rd kT29 S' w' u4 u6 r.L ∧ r.L.length = u5
def L.z3j : Int × T29 × Int × Int × (List T29) × (List T29) × Int × Int → T29 → Prop := fun ⟨x0, x4v, x5, x6, x7, x15, x16, x17⟩ r => ∀ S1 w1, Ext S0 w0 S1 w1 → ∀ gx4 ugc ugd uge ugf Gx7 nx7 cx7 uc7 ufj ufk ufl (_ : Hp nz wz S1 w1 ((some gx4, .row 30 (vT29 x4v (Gp ugc) ugd uge) 3 0) :: (ugc, .row 30 ugf (uge * kT29.size) 0) :: (Gx7, .row 30 uc7 (cx7 * kT29.size) 0) :: Lr)) (_ : Els kT29 S1 w1 ugf x4v.L) (_ : x4v.L.length = ugd) (_ : Els kT29 S1 w1 uc7 x7) (_ : x7.length = nx7) (_ : Rd kT29 S1 w1 ufj ufl x15) (_ : x15.length = ufk) (junk : Nat → Value),
 Goes Tg (base 118) Jpe ⟨lfr 59 [(0, .i x0), (4, (pt gx4 0)), (5, .i x5), (6, .i x6), (7, .slice (Gp Gx7) nx7 cx7), (15, .slice ufj ufk ufl), (16, .i x16), (17, .i x17)] junk, []⟩ w1 (Done Tg 118 (Rets (Post.z3i nz wz S0 w0 Lr r)))
def L.z3k : Int × T29 × Int × Int × (List T29) × (List T29) × Int × Int → T29 → Prop := fun ⟨x0, x4v, x5, x6, x7, x15, x16, x17⟩ r => ∀ S1 w1, Ext S0 w0 S1 w1 → ∀ gx4 ugc ugd uge ugf Gx7 nx7 cx7 uc7 ufj ufk ufl (_ : Hp nz wz S1 w1 ((some gx4, .row 30 (vT29 x4v (Gp ugc) ugd uge) 3 0) :: (ugc, .row 30 ugf (uge * kT29.size) 0) :: (Gx7, .row 30 uc7 (cx7 * kT29.size) 0) :: Lr)) (_ : Els kT29 S1 w1 ugf x4v.L) (_ : x4v.L.length = ugd) (_ : Els kT29 S1 w1 uc7 x7) (_ : x7.length = nx7) (_ : Rd kT29 S1 w1 ufj ufl x15) (_ : x15.length = ufk) (junk : Nat → Value),
 Goes Tg (base 118) Jph ⟨lfr 59 [(0, .i x0), (4, (pt gx4 0)), (5, .i x5), (6, .i x6), (7, .slice (Gp Gx7) nx7 cx7), (15, .slice ufj ufk ufl), (16, .i x16), (17, .i x17)] junk, []⟩ w1 (Done Tg 118 (Rets (Post.z3i nz wz S0 w0 Lr r)))
theorem W.z3l {nz wz S0 w0 Lr} : (∀ a r, M.ac a = some r → (L.z3j nz wz S0 w0 Lr) a r) ∧ (∀ a r, M.a14 a = some r → (L.z3k nz wz S0 w0 Lr) a r) := by
 refine M.ac.mutual_partial_correctness (L.z3j nz wz S0 w0 Lr) (L.z3k nz wz S0 w0 Lr) ?_ ?_
 ·
  intro ugg ugh ⟨x0, x4v, x5, x6, x7, x15, x16, x17⟩ r h S1 w1 hx gx4 ugc ugd uge ugf Gx7 nx7 cx7 uc7 ufj ufk ufl p1 ugi ugj fx7 lx7 ufs uft junk
  try dsimp only at h
  subst ugj
  subst lx7
  subst uft
  refine Gn 5 [(18, .bool (decide (x17 < x16)))] (Ys 1111010010 B118 (Ys 1111010011 B118 Jpd)) ?_
  refine Gi h (fun h10 h => ?_) fun h10 h => ?_
  ·
   rw [dt h10]
   refine Gn 6 [] (Yt 1111010011000 B118 [0, 1, 2, 3] (Ys 1111010011001 B118 Jpg)) ?_
   refine Gg h fun g11 h => ?_
   refine Gg h fun g12 h => ?_
   refine Oi 28 15 17 19 0 30 .i64 x17 (gi x15 x17) rfl rfl ufs Xa g11 g12 fun a13 _ f14 q15 => ?_
   have q16 := q15
   obtain ⟨_, _, rfl, rfl, ⟨_, _, rfl, rfl, ⟨A17, c18, rfl, f19⟩⟩⟩ := kT29_open q16
   refine Xf 30 19 20 30 a13 ([.i ((gi x15 x17).Op)] ++ ([.string ((gi x15 x17).Text)] ++ [.slice A17 (((gi x15 x17).L).length) c18])) (f14.cell) ?_
   refine Oa 30 9 0 (.agg #[.i 0, .string (⟨#[]⟩ : ByteArray), .slice none 0 0]) [.i 0, .string (⟨#[]⟩ : ByteArray), .slice none 0 0] p1 Xa fun b20 w4 z4 p4 => ?_
   refine So 30 9 20 0 0 b20 0 ((ag (vT29 (gi x15 x17) A17 (((gi x15 x17).L).length) c18))) (vT29 (gi x15 x17) A17 (((gi x15 x17).L).length) c18) p4 rfl Xd fun w5 z5 p5 => ?_
   refine Gn 4 [(21, (pt b20 0))] (Yt 11110100110010 B118 [1] (Ys 11110100110011 B118 Jpg)) ?_
   refine Xb 3 21 22 3 ⟨b20, 0, none⟩ (.i ((gi x15 x17).Op)) (p5.c 0 0) ?_
   refine Gm 8 [([28], .i x0), ([29, 27], .bool (decide ((gi x15 x17).Op = x0)))] (Ys 1111010011001101 B118 Jph) ?_
   refine Gi h (fun h22 h => ?_) fun h22 h => ?_
   ·
    rw [dt h22]
    refine Gn 4 [(30, .slice (Gp Gx7) x7.length cx7), (31, (pt b20 2))] (Yt 11110100110011010 B118 [2, 3, 4] Jph) ?_
    refine Xb 28 31 32 28 ⟨b20, 2, none⟩ (.slice A17 (((gi x15 x17).L).length) c18) (p5.c 0 2) ?_
    obtain ⟨uca, f24, f25⟩ := src_rd (f19.ext (z4.t z5))
    refine Gg h fun g26 h => ?_
    refine On (K := kT29) 28 30 32 33 28 30 3 (.agg #[.i 0, .string ⟨#[]⟩, .slice none 0 0]) 48 x7.length cx7 (((gi x15 x17).L).length) x7 ((gi x15 x17).L) (x7 ++ (gi x15 x17).L) A17 c18 rfl rfl rfl p5 rfl (fx7.ext (z4.t z5)) Xa f24 f25 g26 fun w6 G27 c28 ucb z6 p6 f30 => ?_
    refine Gn 2 [(7, .slice (Gp G27) ((x7 ++ (gi x15 x17).L).length) c28)] Jph ?_
    have p6 := p6.dp 0
    exact Gj 59 [(0, .i x0), (4, (pt gx4 0)), (5, .i x5), (6, .i x6), (7, .slice (Gp G27) ((x7 ++ (gi x15 x17).L).length) c28), (15, .slice ufj x15.length ufl), (16, .i x16), (17, .i x17)] (ugh _ _ h _ _ (((hx.t z4).t z5).t z6) _ _ _ _ _ _ _ _ _ _ _ _ p6 (ugi.ext ((z4.t z5).t z6)) rfl f30 rfl (ufs.ext ((z4.t z5).t z6)) rfl)
   ·
    rw [df h22]
    refine Gm 7 [([35], .i x6), ([36, 34], .bool (decide ((gi x15 x17).Op = x6)))] (Ys 111101001100110111 B118 Jph) ?_
    refine Gi h (fun h34 h => ?_) fun h34 h => ?_
    ·
     rw [dt h34]
     refine Gn 5 [(37, .i x6), (38, .agg #[.i x6, .string (⟨#[]⟩ : ByteArray), .slice none 0 0])] (Yt 11110100110011011100 B118 [2] Jpr) ?_
     refine So 30 4 38 0 1 gx4 0 (.agg #[.i x6, .string (⟨#[]⟩ : ByteArray), .slice none 0 0]) [.i x6, .string (⟨#[]⟩ : ByteArray), .slice none 0 0] p5 rfl Xd fun w7 z7 p7 => ?_
     refine Gn 1 [] Jpr ?_
     obtain rfl := sj h
     have p7 := ((p7.dp 0).dp 1).dp 1
     exact R1 Tryz.f118 (.cell 4 30) (.agg #[.i x6, .string (⟨#[]⟩ : ByteArray), .slice none 0 0]) (Rn gx4 (p7.pa 0 0)) ⟨_, _, _, _, rfl, (((hx.t z4).t z5).t z7), p7.drop, Xq, rfl⟩
    ·
     rw [df h34]
     refine Gm 7 [([40], .i x5), ([41, 39], .bool (decide ((gi x15 x17).Op = x5)))] (Ys 11110100110011011111 B118 Jph) ?_
     refine Gi h (fun h35 h => ?_) fun h35 h => ?_
     ·
      rw [dt h35]
      refine Gn 2 [] Jph ?_
      have p5 := p5.dp 0
      exact Gj 59 [(0, .i x0), (4, (pt gx4 0)), (5, .i x5), (6, .i x6), (7, .slice (Gp Gx7) x7.length cx7), (15, .slice ufj x15.length ufl), (16, .i x16), (17, .i x17)] (ugh _ _ h _ _ ((hx.t z4).t z5) _ _ _ _ _ _ _ _ _ _ _ _ p5 (ugi.ext (z4.t z5)) rfl (fx7.ext (z4.t z5)) rfl (ufs.ext (z4.t z5)) rfl)
     ·
      rw [df h35]
      refine Gn 3 [(23, .slice (Gp Gx7) x7.length cx7)] (Yt 111101001100110111111 B118 [1, 2, 3, 4] Jph) ?_
      refine Xf 30 9 24 30 ⟨b20, 0, none⟩ (vT29 (gi x15 x17) A17 (((gi x15 x17).L).length) c18) (p5.pa 0 0) ?_
      have f37 : Els kT29 S1 w5 ((vT29 (gi x15 x17) A17 (((gi x15 x17).L).length) c18) : List Value) [gi x15 x17] := by exact (Els.cons (K := kT29) (vs := (vT29 (gi x15 x17) A17 (((gi x15 x17).L).length) c18)) (x := gi x15 x17) (kT29_close ⟨[.i ((gi x15 x17).Op)], [.string ((gi x15 x17).Text), .slice A17 (((gi x15 x17).L).length) c18], rfl, rfl, ⟨[.string ((gi x15 x17).Text)], [.slice A17 (((gi x15 x17).L).length) c18], rfl, rfl, ⟨_, _, rfl, (f19.ext (z4.t z5))⟩⟩⟩) Els.nil)
      refine Om (.buildSlice 28 1 #[(0, 24)]) 25 28 (fun b => .slice (Gp (some b)) 1 1) 30 ((vT29 (gi x15 x17) A17 (((gi x15 x17).L).length) c18) : List Value) (1 * kT29.size) p5 Xa fun b36 w8 z8 p8 => ?_
      refine Gg h fun g42 h => ?_
      refine On (K := kT29) 28 23 25 26 28 30 4 (.agg #[.i 0, .string ⟨#[]⟩, .slice none 0 0]) 48 x7.length cx7 1 x7 [gi x15 x17] (x7 ++ [gi x15 x17]) (Gp (some b36)) 1 rfl rfl rfl p8 rfl (fx7.ext ((z4.t z5).t z8)) Xa (f37.ext z8) (src_own p8 (q := 0) rfl) g42 fun w9 G43 c44 ugk z9 p9 f46 => ?_
      refine Gn 2 [(7, .slice (Gp G43) ((x7 ++ [gi x15 x17]).length) c44)] Jph ?_
      have p9 := (p9.dp 0).dp 0
      exact Gj 59 [(0, .i x0), (4, (pt gx4 0)), (5, .i x5), (6, .i x6), (7, .slice (Gp G43) ((x7 ++ [gi x15 x17]).length) c44), (15, .slice ufj x15.length ufl), (16, .i x16), (17, .i x17)] (ugh _ _ h _ _ ((((hx.t z4).t z5).t z8).t z9) _ _ _ _ _ _ _ _ _ _ _ _ p9 (ugi.ext (((z4.t z5).t z8).t z9)) rfl f46 rfl (ufs.ext (((z4.t z5).t z8).t z9)) rfl)
  ·
   rw [df h10]
   refine Gn 6 [(43, .slice (Gp Gx7) x7.length cx7)] (Yt 1111100 B118 [1, 2] (Ys 1111101 B118 Jpv)) ?_
   obtain ⟨S10, z10, p10, f47⟩ := p1.freezeRd 2 rfl fx7 (by decide)
   refine Gb h fun y48 e49 h => ?_
   refine Gc (.call { callee := .value (.func 189), args := #[43, (.func 190)], argTypes := #[28, 301] }) 44 28 189 _ (W.z3e x7 y48 e49 _ _ _ p10 f47 rfl) ?_
   rintro _ w11 ⟨S11, ucv, ucw, ucx, ucy, ugl, rfl, z11, p11, u7y, rfl⟩
   have p11 := p11.dp 3
   refine Gm 13 [([7, 45], .slice (Gp ucv) y48.length ucx), ([46], .i (y48.length : Int)), ([48, 47], .bool (decide ((y48.length : Int) = 0)))] (Ys 1111101101 B118 Jpy) ?_
   refine Gi h (fun h51 h => ?_) fun h51 h => ?_
   ·
    rw [dt h51]
    refine Gn 5 [(49, .i x5), (50, .agg #[.i x5, .string (⟨#[]⟩ : ByteArray), .slice none 0 0])] (Yt 111110110100 B118 [2] Jq0) ?_
    refine So 30 4 50 0 1 gx4 0 (.agg #[.i x5, .string (⟨#[]⟩ : ByteArray), .slice none 0 0]) [.i x5, .string (⟨#[]⟩ : ByteArray), .slice none 0 0] p11 rfl Xd fun w12 z12 p12 => ?_
    refine Gn 1 [] Jq0 ?_
    obtain rfl := sj h
    have p12 := (p12.dp 0).dp 1
    exact R1 Tryz.f118 (.cell 4 30) (.agg #[.i x5, .string (⟨#[]⟩ : ByteArray), .slice none 0 0]) (Rn gx4 (p12.pa 0 0)) ⟨_, _, _, _, rfl, (((hx.t z10).t z11).t z12), p12.drop, Xq, rfl⟩
   ·
    rw [df h51]
    refine Gm 6 [([52, 51], .bool (decide ((y48.length : Int) = 1)))] (Ys 111110110111 B118 Jpy) ?_
    refine Gi h (fun h52 h => ?_) fun h52 h => ?_
    ·
     rw [dt h52]
     refine Gn 4 [(53, .slice (Gp ucv) y48.length ucx)] (Yt 11111011011100 B118 [1, 2, 3] Jq3) ?_
     refine Gg h fun g53 h => ?_
     refine Xt 28 53 (.const (.int .i64 0)) 54 0 30 .i64 0 0 y48.length ucx (gi y48 0) rfl rfl p11 rfl u7y Xa (by kernel_rfl) (by kernel_rfl) (by kernel_rfl) (by kernel_rfl) (by decide) (by decide : (0 : Int) ≤ 0) g53 ?_
     rintro b54 _ rfl q56 f55
     have q57 := q56
     obtain ⟨_, _, rfl, rfl, ⟨_, _, rfl, rfl, ⟨A58, c59, rfl, f60⟩⟩⟩ := kT29_open q57
     refine Xf 30 54 55 30 ⟨b54, (0 : Int).toNat * kT29.size, none⟩ ([.i ((gi y48 0).Op)] ++ ([.string ((gi y48 0).Text)] ++ [.slice A58 (((gi y48 0).L).length) c59])) f55 ?_
     refine So 30 4 55 0 1 gx4 0 ((ag (vT29 (gi y48 0) A58 (((gi y48 0).L).length) c59))) (vT29 (gi y48 0) A58 (((gi y48 0).L).length) c59) p11 rfl Xd fun w13 z13 p13 => ?_
     refine Gn 1 [] Jq3 ?_
     obtain rfl := sj h
     have p13 := (p13.dp 0).dp 1
     exact R1 Tryz.f118 (.cell 4 30) ((ag (vT29 (gi y48 0) A58 (((gi y48 0).L).length) c59))) (Rn gx4 (p13.pa 0 0)) ⟨_, _, _, _, rfl, (((hx.t z10).t z11).t z13), p13.drop, (f60.ext z13), rfl⟩
    ·
     rw [df h52]
     refine Gn 8 [(56, .i x0), (57, .slice (Gp ucv) y48.length ucx), (58, .agg #[.i x0, .string (⟨#[]⟩ : ByteArray), .slice (Gp ucv) y48.length ucx])] (Yt 1111110 B118 [3] Jq5) ?_
     refine So 30 4 58 0 1 gx4 0 (.agg #[.i x0, .string (⟨#[]⟩ : ByteArray), .slice (Gp ucv) y48.length ucx]) [.i x0, .string (⟨#[]⟩ : ByteArray), .slice (Gp ucv) y48.length ucx] p11 rfl Xd fun w14 z14 p14 => ?_
     refine Gn 1 [] Jq5 ?_
     obtain ⟨S15, z15, p15, f62⟩ := p14.freezeRd 0 rfl (u7y.ext z14) (by decide)
     obtain rfl := sj h
     have p15 := (p15.dp 0).dp 1
     exact R1 Tryz.f118 (.cell 4 30) (.agg #[.i x0, .string (⟨#[]⟩ : ByteArray), .slice (Gp ucv) y48.length ucx]) (Rn gx4 (p15.pa 0 0)) ⟨_, _, _, _, rfl, ((((hx.t z10).t z11).t z14).t z15), p15.drop, f62, rfl⟩
 ·
  intro ugm ugn ⟨x0, x4v, x5, x6, x7, x15, x16, x17⟩ r h S1 w1 hx gx4 ugc ugd uge ugf Gx7 nx7 cx7 uc7 ufj ufk ufl p1 ugi ugj fx7 lx7 ufs uft junk
  try dsimp only at h
  subst ugj
  subst lx7
  subst uft
  refine Gm 7 [([42, 17], .i (wr .i64 (x17 + 1)))] Jpe ?_
  exact Gj 59 [(0, .i x0), (4, (pt gx4 0)), (5, .i x5), (6, .i x6), (7, .slice (Gp Gx7) x7.length cx7), (15, .slice ufj x15.length ufl), (16, .i x16), (17, .i (wr .i64 (x17 + 1)))] (ugn _ _ h _ _ hx _ _ _ _ _ _ _ _ _ _ _ _ p1 ugi rfl fx7 rfl ufs rfl)
theorem W.z3j {nz wz S0 w0 Lr} : ∀ a r, M.ac a = some r → (L.z3j nz wz S0 w0 Lr) a r := (W.z3l).1
theorem W.z3k {nz wz S0 w0 Lr} : ∀ a r, M.a14 a = some r → (L.z3k nz wz S0 w0 Lr) a r := (W.z3l).2
theorem W.z3i (x0 : Int) (x1 : List T29) (r : T29) (h : M.ad x0 x1 = some r) {nz wz S0 w0 Lr} (Ax1 nx1 cx1) (p0 : Hp nz wz S0 w0 (Lr)) (fx1 : Rd kT29 S0 w0 Ax1 cx1 x1) (lx1 : x1.length = nx1) :
  Calls Tg 118 #[.i x0, .slice Ax1 nx1 cx1] w0 (Rets (Post.z3i nz wz S0 w0 Lr r)) := by
 subst lx1
 refine Zf Tryz.f118 B118 57 ?_
 refine Gj 59 [(0, .i x0), (1, .slice Ax1 x1.length cx1)] fun junk => ?_
 delta M.ad at h
 refine Gn 2 [] (Yt 10 B118 [0] (Ys 11 B118 [])) ?_
 refine Oa 30 4 0 (.agg #[.i 0, .string (⟨#[]⟩ : ByteArray), .slice none 0 0]) [.i 0, .string (⟨#[]⟩ : ByteArray), .slice none 0 0] p0 Xa fun b1 w2 z2 p2 => ?_
 refine Gn 4 [(11, .i x0)] (Yt 110 B118 [1, 2, 3, 4, 5, 6] (Ys 111 B118 [])) ?_
 refine Gb h fun y3 e4 h => ?_
 refine Gc (kc 188 [11] #[3]) 12 128 188 _ (W.z35 x0 y3 e4  p2 ) ?_
 rintro _ w3 ⟨S3, rfl, z3, p3⟩
 refine Gm 14 [([10], .tuple #[.i y3.1, .i y3.2]), ([13, 5], .i y3.1), ([14, 6], .i y3.2), ([7], .slice none 0 0), ([15], .slice Ax1 x1.length cx1)] (Yt 111100 B118 [1, 2] (Ys 111101 B118 Jpb)) ?_
 refine Gn 5 [(16, .i (x1.length : Int)), (17, .i 0)] Jpe ?_
 have p3 : Hp nz wz S3 w3 ((none, .row 30 [] (0 * kT29.size) 0) :: (some b1, .row 30 [.i 0, .string (⟨#[]⟩ : ByteArray), .slice none 0 0] 3 0) :: Lr) := p3.nilRow' 30
 have p3 : Hp nz wz S3 w3 ((none, .row 30 [] (0 * kT29.size) 0) :: (none, .row 30 [] (0 * kT29.size) 0) :: (some b1, .row 30 [.i 0, .string (⟨#[]⟩ : ByteArray), .slice (Gp none) 0 0] 3 0) :: Lr) := p3.nilRow' 30
 have p3 := ((p3.fr 0).fr 1).fr 2
 exact Gj 59 [(0, .i x0), (4, (pt b1 0)), (5, .i y3.1), (6, .i y3.2), (7, .slice (Gp none) 0 0), (15, .slice Ax1 x1.length cx1), (16, .i (x1.length : Int)), (17, .i 0)] (W.z3j _ _ h _ _ (z2.t z3) _ none 0 0 [] none 0 0 [] _ _ _ p3 (Els.nil (K := kT29)) rfl (Els.nil (K := kT29)) rfl (fx1.ext (z2.t z3)) rfl)
def Jqd := Ys 1111 B116 []
def Qlq := Yq 1110100 B116
def Jqf := Zl Qlq (Zb 0 Jqd)
def Jqg := Zc Qlq Jqf
def Jqi := Zb 1 (Ys 1110100111 B116 Jqf)
def Qls := Yq 11101001100111 B116
def Jqj := Zc Qls Jqi
def Qlt := Yq 11101001100110100 B116
def Jql := Zl Qlt (Zb 2 Jqj)
def Jqm := Zc Qlt Jql
def Jqt := Ys 11111 B116 []
def Jqw := Ys 1110100110011010010 B116 (Ys 1110100110011010011 B116 Jql)
def Jqy := Zb 3 (Ys 11101001100110100111 B116 Jql)
def Qm5 := Yq 1110100110011010011001 B116
def Jr0 := Yt 1110100110011010011000 B116 [0, 1, 2] (Zc Qm5 Jqy)
def Jr1 := Zr Qm5 [3, 4, 5] Jqy
def Jr2 := Zr Qls [2, 3, 4, 5] Jqi
def Post.z3m (r : T29) (v : Value) (w' : World) : Prop :=
 ∃ S' u4 u5 u6, v = (ag (vT29 r u4 u5 u6)) ∧ Ext S0 w0 S' w' ∧ Hp nz wz S' w' (Lr) ∧ Rd kT29 S' w' u4 u6 r.L ∧ r.L.length = u5
def L.z3n : T29 × (List T29) × (List ByteArray) × Int × Int → T29 → Prop := fun ⟨x2v, x3, x10, x11, x12⟩ r => ∀ S1 w1, Ext S0 w0 S1 w1 → ∀ gx2 u6o u6p u6q u6r Gx3 nx3 cx3 uo ugo ugp ugq (_ : Hp nz wz S1 w1 ((some gx2, .row 30 (vT29 x2v (Gp u6o) u6p u6q) 3 0) :: (u6o, .row 30 u6r (u6q * kT29.size) 0) :: (Gx3, .row 30 uo (cx3 * kT29.size) 0) :: Lr)) (_ : Els kT29 S1 w1 u6r x2v.L) (_ : x2v.L.length = u6p) (_ : Els kT29 S1 w1 uo x3) (_ : x3.length = nx3) (_ : Rd kStr S1 w1 ugo ugq x10) (_ : x10.length = ugp) (junk : Nat → Value),
 Goes Tg (base 116) Jqg ⟨lfr 37 [(2, (pt gx2 0)), (3, .slice (Gp Gx3) nx3 cx3), (10, .slice ugo ugp ugq), (11, .i x11), (12, .i x12)] junk, []⟩ w1 (Done Tg 116 (Rets (Post.z3m nz wz S0 w0 Lr r)))
def L.z3o : T29 × (List T29) × (List ByteArray) × Int × Int × (List ByteArray) × Int × Int → T29 → Prop := fun ⟨x2v, x3, x10, x11, x12, x17, x18, x19⟩ r => ∀ S1 w1, Ext S0 w0 S1 w1 → ∀ gx2 u6o u6p u6q u6r Gx3 nx3 cx3 uo ugo ugp ugq ugr ugs ugt ugu (_ : Hp nz wz S1 w1 ((some gx2, .row 30 (vT29 x2v (Gp u6o) u6p u6q) 3 0) :: (u6o, .row 30 u6r (u6q * kT29.size) 0) :: (Gx3, .row 30 uo (cx3 * kT29.size) 0) :: (ugr, .row 9 ugu (ugt * kStr.size) 0) :: Lr)) (_ : Els kT29 S1 w1 u6r x2v.L) (_ : x2v.L.length = u6p) (_ : Els kT29 S1 w1 uo x3) (_ : x3.length = nx3) (_ : Rd kStr S1 w1 ugo ugq x10) (_ : x10.length = ugp) (_ : Els kStr S1 w1 ugu x17) (_ : x17.length = ugs) (junk : Nat → Value),
 Goes Tg (base 116) Jqm ⟨lfr 37 [(2, (pt gx2 0)), (3, .slice (Gp Gx3) nx3 cx3), (6, .slice none 0 0), (10, .slice ugo ugp ugq), (11, .i x11), (12, .i x12), (17, .slice (Gp ugr) ugs ugt), (18, .i x18), (19, .i x19)] junk, []⟩ w1 (Done Tg 116 (Rets (Post.z3m nz wz S0 w0 Lr r)))
def L.z3p : T29 × (List T29) × (List T29) × (List ByteArray) × Int × Int × (List ByteArray) × Int × Int → T29 → Prop := fun ⟨x2v, x3, x6, x10, x11, x12, x17, x18, x19⟩ r => ∀ S1 w1, Ext S0 w0 S1 w1 → ∀ gx2 u6o u6p u6q u6r Gx3 nx3 cx3 uo Gx6 nx6 cx6 ubo ugo ugp ugq ugr ugs ugt ugu (_ : Hp nz wz S1 w1 ((some gx2, .row 30 (vT29 x2v (Gp u6o) u6p u6q) 3 0) :: (u6o, .row 30 u6r (u6q * kT29.size) 0) :: (Gx3, .row 30 uo (cx3 * kT29.size) 0) :: (Gx6, .row 30 ubo (cx6 * kT29.size) 0) :: (ugr, .row 9 ugu (ugt * kStr.size) 0) :: Lr)) (_ : Els kT29 S1 w1 u6r x2v.L) (_ : x2v.L.length = u6p) (_ : Els kT29 S1 w1 uo x3) (_ : x3.length = nx3) (_ : Els kT29 S1 w1 ubo x6) (_ : x6.length = nx6) (_ : Rd kStr S1 w1 ugo ugq x10) (_ : x10.length = ugp) (_ : Els kStr S1 w1 ugu x17) (_ : x17.length = ugs) (junk : Nat → Value),
 Goes Tg (base 116) Jqm ⟨lfr 37 [(2, (pt gx2 0)), (3, .slice (Gp Gx3) nx3 cx3), (6, .slice (Gp Gx6) nx6 cx6), (10, .slice ugo ugp ugq), (11, .i x11), (12, .i x12), (17, .slice (Gp ugr) ugs ugt), (18, .i x18), (19, .i x19)] junk, []⟩ w1 (Done Tg 116 (Rets (Post.z3m nz wz S0 w0 Lr r)))
theorem W.z3q {nz wz S0 w0 Lr} : (∀ a r, M.a6 a = some r → (L.z3n nz wz S0 w0 Lr) a r) ∧ (∀ a r, M.a39 a = some r → (L.z3o nz wz S0 w0 Lr) a r) ∧ (∀ a r, M.a15 a = some r → (L.z3p nz wz S0 w0 Lr) a r) := by
 refine M.a6.mutual_partial_correctness (L.z3n nz wz S0 w0 Lr) (L.z3o nz wz S0 w0 Lr) (L.z3p nz wz S0 w0 Lr) ?_ ?_ ?_
 ·
  intro ugv ugw ⟨x2v, x3, x10, x11, x12⟩ r h S1 w1 hx gx2 u6o u6p u6q u6r Gx3 nx3 cx3 uo ugo ugp ugq p1 u6v u6w fx3 lx3 ugx ugy junk
  try dsimp only at h
  subst u6w
  subst lx3
  subst ugy
  refine Gn 5 [(13, .bool (decide (x12 < x11)))] (Ys 111010010 B116 (Ys 111010011 B116 Jqf)) ?_
  refine Gi h (fun h10 h => ?_) fun h10 h => ?_
  ·
   rw [dt h10]
   refine Gn 6 [] (Yt 111010011000 B116 [0, 1, 2] (Ys 111010011001 B116 Jqi)) ?_
   refine Gg h fun g11 h => ?_
   refine Gg h fun g12 h => ?_
   refine Oi 43 10 12 14 0 9 .i64 x12 (gi x10 x12) rfl rfl ugx Xa g11 g12 fun a13 _ f14 q15 => ?_
   obtain rfl := q15
   refine Xb 9 14 15 9 a13 (.string (gi x10 x12)) (f14.cell 0 _ rfl) ?_
   refine Gm 10 [([5, 16], .string (gi x10 x12)), ([6], .slice none 0 0)] (Yt 111010011001100 B116 [1, 2, 3] (Ys 111010011001101 B116 Jqj)) ?_
   refine Gb h fun y16 e17 h => ?_
   refine Gc (kc 16 [16] #[9]) 17 43 16 _ (W.z34 (gi x10 x12) y16 e17  p1 ) ?_
   rintro _ w4 ⟨S4, ugz, uh0, uh1, uh2, rfl, z4, p4, uh3, rfl⟩
   refine Gn 5 [(18, .i (y16.length : Int)), (19, .i 0)] Jqm ?_
   have p4 := (((p4.fr 0).fr 3).fr 3).fr 3
   exact Gj 37 [(2, (pt gx2 0)), (3, .slice (Gp Gx3) x3.length cx3), (6, .slice none 0 0), (10, .slice ugo x10.length ugq), (11, .i x11), (12, .i x12), (17, .slice (Gp ugz) y16.length uh1), (18, .i (y16.length : Int)), (19, .i 0)] (ugw _ _ h _ _ (hx.t z4) _ _ _ _ _ _ _ _ _ _ _ _ _ _ _ _ p4 (u6v.ext z4) rfl (fx3.ext z4) rfl (ugx.ext z4) rfl uh3 rfl)
  ·
   rw [df h10]
   refine Gn 5 [(35, .slice (Gp Gx3) x3.length cx3)] (Yt 11110 B116 [1, 2] Jqt) ?_
   obtain ⟨S5, z5, p5, f23⟩ := p1.freezeRd 2 rfl fx3 (by decide)
   refine Gb h fun y24 e25 h => ?_
   refine Gc (.call { callee := .value (.func 118), args := #[(.const (.int .i64 4)), 35], argTypes := #[3, 28] }) 36 30 118 _ (W.z3i 4 x3 y24 e25 _ _ _ p5 f23 rfl) ?_
   rintro _ w6 ⟨S6, u6x, u6y, u6z, rfl, z6, p6, u71, rfl⟩
   have p6 := p6.dp 2
   refine So 30 2 36 0 0 gx2 0 (ag (vT29 y24 u6x y24.L.length u6z)) (vT29 y24 u6x y24.L.length u6z) p6 rfl Xd fun w7 z7 p7 => ?_
   refine Gn 1 [] Jqt ?_
   obtain rfl := sj h
   have p7 := p7.dp 1
   exact R1 Tryz.f116 (.cell 2 30) (ag (vT29 y24 u6x y24.L.length u6z)) (Rn gx2 (p7.pa 0 0)) ⟨_, _, _, _, rfl, (((hx.t z5).t z6).t z7), p7.drop, (u71.ext z7), rfl⟩
 ·
  intro uh4 uh5 uh6 uh7 ⟨x2v, x3, x10, x11, x12, x17, x18, x19⟩ r h S1 w1 hx gx2 u6o u6p u6q u6r Gx3 nx3 cx3 uo ugo ugp ugq ugr ugs ugt ugu p1 u6v u6w fx3 lx3 ugx ugy uh8 uh9 junk
  try dsimp only at h
  subst u6w
  subst lx3
  subst ugy
  subst uh9
  refine Gn 5 [(20, .bool (decide (x19 < x18)))] Jqw ?_
  refine Gi h (fun h26 h => ?_) fun h26 h => ?_
  ·
   rw [dt h26]
   refine Gn 6 [] Jr0 ?_
   refine Gg h fun g27 h => ?_
   refine Gg h fun g28 h => ?_
   refine Xt 43 17 19 21 0 9 .i64 x19 3 x17.length ugt (gi x17 x19) rfl rfl p1 rfl uh8 Xa (by kernel_rfl) (by kernel_rfl) (by kernel_rfl) (by kernel_rfl) (by decide) g27 g28 ?_
   rintro b29 _ rfl q31 f30
   obtain rfl := q31
   refine Xb 9 21 22 9 ⟨b29, (x19 : Int).toNat * kStr.size, none⟩ (.string (gi x17 x19)) (f30 0 _ rfl) ?_
   refine Gm 6 [([8, 24], .string (gi x17 x19)), ([23], .slice none 0 0), ([25], .agg #[.i 2, .string (gi x17 x19), .slice none 0 0])] Jr1 ?_
   have f34 : Els kT29 S1 w1 ([.i 2, .string (gi x17 x19), .slice none 0 0] : List Value) [(⟨2, gi x17 x19, ([] : List T29)⟩ : T29)] := by exact (Els.cons (K := kT29) (vs := [.i 2, .string (gi x17 x19), .slice none 0 0]) (x := (⟨2, gi x17 x19, ([] : List T29)⟩ : T29)) (kT29_close ⟨[.i 2], [.string (gi x17 x19), .slice none 0 0], rfl, rfl, ⟨[.string (gi x17 x19)], [.slice none 0 0], rfl, rfl, ⟨none, 0, rfl, Xq⟩⟩⟩) Els.nil)
   refine Om (.buildSlice 28 1 #[(0, 25)]) 26 28 (fun b => .slice (Gp (some b)) 1 1) 30 ([.i 2, .string (gi x17 x19), .slice none 0 0] : List Value) (1 * kT29.size) p1 Xa fun b33 w8 z8 p8 => ?_
   have p8 : Hp nz wz S1 w8 ((none, .row 30 [] (0 * kT29.size) 0) :: ((some b33), .row 30 ([.i 2, .string (gi x17 x19), .slice none 0 0] : List Value) (1 * kT29.size) 0) :: (some gx2, .row 30 (vT29 x2v (Gp u6o) x2v.L.length u6q) 3 0) :: (u6o, .row 30 u6r (u6q * kT29.size) 0) :: (Gx3, .row 30 uo (cx3 * kT29.size) 0) :: ((some b29), .row 9 ugu (ugt * kStr.size) 0) :: Lr) := p8.nilRow' 30
   refine Gg h fun g40 h => ?_
   refine On (K := kT29) 28 23 26 27 28 30 0 (.agg #[.i 0, .string ⟨#[]⟩, .slice none 0 0]) 48 0 0 1 ([] : List T29) [(⟨2, gi x17 x19, ([] : List T29)⟩ : T29)] [(⟨2, gi x17 x19, ([] : List T29)⟩ : T29)] (Gp (some b33)) 1 rfl rfl (List.nil_append _) p8 rfl (Els.nil (K := kT29)) Xa (f34.ext z8) (src_own p8 (q := 1) rfl) g40 fun w9 G41 c42 uha z9 p9 f44 => ?_
   refine Gm 8 [([6], .slice (Gp G41) ([(⟨2, gi x17 x19, ([] : List T29)⟩ : T29)].length) c42), ([28, 19], .i (wr .i64 (x19 + 1)))] Jqm ?_
   have p9 := p9.dp 1
   have p9 := ((((p9.fr 4).fr 1).fr 4).fr 4).fr 4
   exact Gj 37 [(2, (pt gx2 0)), (3, .slice (Gp Gx3) x3.length cx3), (6, .slice (Gp G41) ([(⟨2, gi x17 x19, ([] : List T29)⟩ : T29)].length) c42), (10, .slice ugo x10.length ugq), (11, .i x11), (12, .i x12), (17, .slice (Gp (some b29)) x17.length ugt), (18, .i x18), (19, .i (wr .i64 (x19 + 1)))] (uh7 _ _ h _ _ ((hx.t z8).t z9) _ _ _ _ _ _ _ _ _ _ _ _ _ _ _ _ (some b29) _ _ _ p9 (u6v.ext (z8.t z9)) rfl (fx3.ext (z8.t z9)) rfl f44 rfl (ugx.ext (z8.t z9)) rfl (uh8.ext (z8.t z9)) rfl)
  ·
   rw [df h26]
   refine Gn 5 [(29, .slice (Gp Gx3) x3.length cx3), (30, .slice none 0 0)] Jr2 ?_
   refine Gb h fun y50 e51 h => ?_
   refine Gc (.call { callee := .value (.func 118), args := #[(.const (.int .i64 3)), 30], argTypes := #[3, 28] }) 31 30 118 _ (W.z3i 3 ([] : List T29) y50 e51 none 0 0 p1 Xq rfl) ?_
   rintro _ w10 ⟨S10, u74, u75, u76, rfl, z10, p10, u78, rfl⟩
   have p10 := p10.dp 3
   have f53 : Els kT29 S10 w10 ((vT29 y50 u74 y50.L.length u76) : List Value) [y50] := by exact (Els.cons (K := kT29) (vs := (vT29 y50 u74 y50.L.length u76)) (x := y50) (kT29_close ⟨[.i y50.Op], [.string y50.Text, .slice u74 y50.L.length u76], rfl, rfl, ⟨[.string y50.Text], [.slice u74 y50.L.length u76], rfl, rfl, ⟨_, _, rfl, u78⟩⟩⟩) Els.nil)
   refine Om (.buildSlice 28 1 #[(0, 31)]) 32 28 (fun b => .slice (Gp (some b)) 1 1) 30 ((vT29 y50 u74 y50.L.length u76) : List Value) (1 * kT29.size) p10 Xa fun b52 w11 z11 p11 => ?_
   refine Gg h fun g58 h => ?_
   refine On (K := kT29) 28 29 32 33 28 30 3 (.agg #[.i 0, .string ⟨#[]⟩, .slice none 0 0]) 48 x3.length cx3 1 x3 [y50] (x3 ++ [y50]) (Gp (some b52)) 1 rfl rfl rfl p11 rfl (fx3.ext (z10.t z11)) Xa (f53.ext z11) (src_own p11 (q := 0) rfl) g58 fun w12 G59 c60 uhb z12 p12 f62 => ?_
   refine Gm 8 [([3], .slice (Gp G59) ((x3 ++ [y50]).length) c60), ([34, 12], .i (wr .i64 (x12 + 1)))] Jqg ?_
   have p12 := p12.dp 0
   exact Gj 37 [(2, (pt gx2 0)), (3, .slice (Gp G59) ((x3 ++ [y50]).length) c60), (10, .slice ugo x10.length ugq), (11, .i x11), (12, .i (wr .i64 (x12 + 1)))] (uh6 _ _ h _ _ (((hx.t z10).t z11).t z12) _ _ _ _ _ _ _ _ _ _ _ _ p12 (u6v.ext ((z10.t z11).t z12)) rfl f62 rfl (ugx.ext ((z10.t z11).t z12)) rfl)
 ·
  intro uh4 uh5 uh6 uh7 ⟨x2v, x3, x6, x10, x11, x12, x17, x18, x19⟩ r h S1 w1 hx gx2 u6o u6p u6q u6r Gx3 nx3 cx3 uo Gx6 nx6 cx6 ubo ugo ugp ugq ugr ugs ugt ugu p1 u6v u6w fx3 lx3 fx6 lx6 ugx ugy uh8 uh9 junk
  try dsimp only at h
  subst u6w
  subst lx3
  subst lx6
  subst ugy
  subst uh9
  refine Gn 5 [(20, .bool (decide (x19 < x18)))] Jqw ?_
  refine Gi h (fun h63 h => ?_) fun h63 h => ?_
  ·
   rw [dt h63]
   refine Gn 6 [] Jr0 ?_
   refine Gg h fun g64 h => ?_
   refine Gg h fun g65 h => ?_
   refine Xt 43 17 19 21 0 9 .i64 x19 4 x17.length ugt (gi x17 x19) rfl rfl p1 rfl uh8 Xa (by kernel_rfl) (by kernel_rfl) (by kernel_rfl) (by kernel_rfl) (by decide) g64 g65 ?_
   rintro b66 _ rfl q68 f67
   obtain rfl := q68
   refine Xb 9 21 22 9 ⟨b66, (x19 : Int).toNat * kStr.size, none⟩ (.string (gi x17 x19)) (f67 0 _ rfl) ?_
   refine Gm 6 [([8, 24], .string (gi x17 x19)), ([23], .slice (Gp Gx6) x6.length cx6), ([25], .agg #[.i 2, .string (gi x17 x19), .slice none 0 0])] Jr1 ?_
   have f71 : Els kT29 S1 w1 ([.i 2, .string (gi x17 x19), .slice none 0 0] : List Value) [(⟨2, gi x17 x19, ([] : List T29)⟩ : T29)] := by exact (Els.cons (K := kT29) (vs := [.i 2, .string (gi x17 x19), .slice none 0 0]) (x := (⟨2, gi x17 x19, ([] : List T29)⟩ : T29)) (kT29_close ⟨[.i 2], [.string (gi x17 x19), .slice none 0 0], rfl, rfl, ⟨[.string (gi x17 x19)], [.slice none 0 0], rfl, rfl, ⟨none, 0, rfl, Xq⟩⟩⟩) Els.nil)
   refine Om (.buildSlice 28 1 #[(0, 25)]) 26 28 (fun b => .slice (Gp (some b)) 1 1) 30 ([.i 2, .string (gi x17 x19), .slice none 0 0] : List Value) (1 * kT29.size) p1 Xa fun b70 w13 z13 p13 => ?_
   refine Gl h fun v76 e77 h => ?_
   refine Gg h fun g78 h => ?_
   refine On (K := kT29) 28 23 26 27 28 30 4 (.agg #[.i 0, .string ⟨#[]⟩, .slice none 0 0]) 48 x6.length cx6 1 x6 [(⟨2, gi x17 x19, ([] : List T29)⟩ : T29)] v76 (Gp (some b70)) 1 rfl rfl e77 p13 rfl (fx6.ext z13) Xa (f71.ext z13) (src_own p13 (q := 0) rfl) g78 fun w14 G79 c80 uhc z14 p14 f82 => ?_
   refine Gm 8 [([6], .slice (Gp G79) v76.length c80), ([28, 19], .i (wr .i64 (x19 + 1)))] Jqm ?_
   have p14 := p14.dp 0
   exact Gj 37 [(2, (pt gx2 0)), (3, .slice (Gp Gx3) x3.length cx3), (6, .slice (Gp G79) v76.length c80), (10, .slice ugo x10.length ugq), (11, .i x11), (12, .i x12), (17, .slice (Gp (some b66)) x17.length ugt), (18, .i x18), (19, .i (wr .i64 (x19 + 1)))] (uh7 _ _ h _ _ ((hx.t z13).t z14) _ _ _ _ _ _ _ _ _ _ _ _ _ _ _ _ (some b66) _ _ _ p14 (u6v.ext (z13.t z14)) rfl (fx3.ext (z13.t z14)) rfl f82 rfl (ugx.ext (z13.t z14)) rfl (uh8.ext (z13.t z14)) rfl)
  ·
   rw [df h63]
   refine Gn 5 [(29, .slice (Gp Gx3) x3.length cx3), (30, .slice (Gp Gx6) x6.length cx6)] Jr2 ?_
   obtain ⟨S15, z15, p15, f83⟩ := p1.freezeRd 3 rfl fx6 (by decide)
   refine Gb h fun y84 e85 h => ?_
   refine Gc (.call { callee := .value (.func 118), args := #[(.const (.int .i64 3)), 30], argTypes := #[3, 28] }) 31 30 118 _ (W.z3i 3 x6 y84 e85 _ _ _ p15 f83 rfl) ?_
   rintro _ w16 ⟨S16, uhd, uhe, uhf, rfl, z16, p16, uhg, rfl⟩
   have p16 := (p16.dp 3).dp 3
   have f87 : Els kT29 S16 w16 ((vT29 y84 uhd y84.L.length uhf) : List Value) [y84] := by exact (Els.cons (K := kT29) (vs := (vT29 y84 uhd y84.L.length uhf)) (x := y84) (kT29_close ⟨[.i y84.Op], [.string y84.Text, .slice uhd y84.L.length uhf], rfl, rfl, ⟨[.string y84.Text], [.slice uhd y84.L.length uhf], rfl, rfl, ⟨_, _, rfl, uhg⟩⟩⟩) Els.nil)
   refine Om (.buildSlice 28 1 #[(0, 31)]) 32 28 (fun b => .slice (Gp (some b)) 1 1) 30 ((vT29 y84 uhd y84.L.length uhf) : List Value) (1 * kT29.size) p16 Xa fun b86 w17 z17 p17 => ?_
   refine Gg h fun g92 h => ?_
   refine On (K := kT29) 28 29 32 33 28 30 3 (.agg #[.i 0, .string ⟨#[]⟩, .slice none 0 0]) 48 x3.length cx3 1 x3 [y84] (x3 ++ [y84]) (Gp (some b86)) 1 rfl rfl rfl p17 rfl (fx3.ext ((z15.t z16).t z17)) Xa (f87.ext z17) (src_own p17 (q := 0) rfl) g92 fun w18 G93 c94 uhh z18 p18 f96 => ?_
   refine Gm 8 [([3], .slice (Gp G93) ((x3 ++ [y84]).length) c94), ([34, 12], .i (wr .i64 (x12 + 1)))] Jqg ?_
   have p18 := p18.dp 0
   exact Gj 37 [(2, (pt gx2 0)), (3, .slice (Gp G93) ((x3 ++ [y84]).length) c94), (10, .slice ugo x10.length ugq), (11, .i x11), (12, .i (wr .i64 (x12 + 1)))] (uh6 _ _ h _ _ ((((hx.t z15).t z16).t z17).t z18) _ _ _ _ _ _ _ _ _ _ _ _ p18 (u6v.ext (((z15.t z16).t z17).t z18)) rfl f96 rfl (ugx.ext (((z15.t z16).t z17).t z18)) rfl)
theorem W.z3n {nz wz S0 w0 Lr} : ∀ a r, M.a6 a = some r → (L.z3n nz wz S0 w0 Lr) a r := (W.z3q).1
theorem W.z3o {nz wz S0 w0 Lr} : ∀ a r, M.a39 a = some r → (L.z3o nz wz S0 w0 Lr) a r := (W.z3q).2.1
theorem W.z3p {nz wz S0 w0 Lr} : ∀ a r, M.a15 a = some r → (L.z3p nz wz S0 w0 Lr) a r := (W.z3q).2.2
theorem W.z3m (x0 : T218) (r : T29) (h : M.a16 x0 = some r) {nz wz S0 w0 Lr} (ube ubf ubg) (p0 : Hp nz wz S0 w0 (Lr)) (ubk : Rd kStr S0 w0 ube ubg x0.l) (ubl : x0.l.length = ubf) :
  Calls Tg 116 #[(ag (vT218 x0 ube ubf ubg))] w0 (Rets (Post.z3m nz wz S0 w0 Lr r)) := by
 subst ubl
 refine Zf Tryz.f116 B116 36 ?_
 refine Gj 37 [(0, (ag (vT218 x0 ube x0.l.length ubg)))] fun junk => ?_
 delta M.a16 at h
 refine Gn 2 [] (Yt 10 B116 [0, 1] (Ys 11 B116 [])) ?_
 refine Ob 219 0 1 0 (ag (vT218 x0 ube x0.l.length ubg)) (vT218 x0 ube x0.l.length ubg) p0 Xa fun b1 w2 z2 p2 => ?_
 refine Oa 30 2 0 (.agg #[.i 0, .string (⟨#[]⟩ : ByteArray), .slice none 0 0]) [.i 0, .string (⟨#[]⟩ : ByteArray), .slice none 0 0] p2 Xa fun b3 w3 z3 p3 => ?_
 refine Gn 9 [(3, .slice none 0 0), (9, (pt b1 0))] (Yt 11100 B116 [1, 2, 3] (Ys 11101 B116 Jqd)) ?_
 refine Xb 43 9 10 43 ⟨b1, 0, none⟩ (.slice ube x0.l.length ubg) (p3.c 1 0) ?_
 refine Gn 5 [(11, .i (x0.l.length : Int)), (12, .i 0)] Jqg ?_
 have p3 : Hp nz wz S0 w3 ((none, .row 30 [] (0 * kT29.size) 0) :: (some b3, .row 30 [.i 0, .string (⟨#[]⟩ : ByteArray), .slice none 0 0] 3 0) :: (some b1, .row 219 (vT218 x0 ube x0.l.length ubg) 2 0) :: Lr) := p3.nilRow' 30
 have p3 := p3.dp 2
 have p3 : Hp nz wz S0 w3 ((none, .row 30 [] (0 * kT29.size) 0) :: (none, .row 30 [] (0 * kT29.size) 0) :: (some b3, .row 30 [.i 0, .string (⟨#[]⟩ : ByteArray), .slice (Gp none) 0 0] 3 0) :: Lr) := p3.nilRow' 30
 have p3 := ((p3.fr 0).fr 1).fr 2
 exact Gj 37 [(2, (pt b3 0)), (3, .slice (Gp none) 0 0), (10, .slice ube x0.l.length ubg), (11, .i (x0.l.length : Int)), (12, .i 0)] (W.z3n _ _ h _ _ (z2.t z3) _ none 0 0 [] none 0 0 [] _ _ _ p3 (Els.nil (K := kT29)) rfl (Els.nil (K := kT29)) rfl (ubk.ext (z2.t z3)) rfl)
def Qmc := Yq 1111000 B187
def Jr9 := Zl Qmc (Zb 0 (Ys 11111 B187 []))
def Jra := Zc Qmc Jr9
def Jrc := Ys 111100001 B187 (Ys 11110001 B187 Jr9)
def Jre := Zb 1 (Ys 111100011 B187 Jr9)
def Jrf := Ys 11110001001 B187 Jre
def Qmh := Yq 111100000 B187
def Jrj := Ys 111111 B187 []
def Qmk := Yq 111110 B187
def Jrk := Zr Qmk [0, 1, 2, 3] Jrj
def Jrl := Zr Qmk [2, 3] Jrj
def Qml := Yq 111100010011 B187
def Jrn := Ys 1111000100101 B187 (Zc Qml Jre)
def Post.z3r (r : T218 × Int) (v : Value) (w' : World) : Prop :=
 ∃ S' uhi uhj uhk, v = .tuple #[(ag (vT218 r.1 uhi uhj uhk)), .i r.2] ∧ Ext S0 w0 S' w' ∧ Hp nz wz S' w' (Lr) ∧ Rd kStr S' w' uhi uhk r.1.l ∧ r.1.l.length = uhj
def L.z3s : (List T26) × T218 × T218 × Int → (T218 × Int) → Prop := fun ⟨x0, x2v, x4v, x5⟩ r => ∀ S1 w1, Ext S0 w0 S1 w1 → ∀ Ax0 nx0 cx0 gx2 ua2 ua3 ua4 ua5 gx4 uhl uap uaq (_ : Hp nz wz S1 w1 ((some gx2, .row 219 (vT218 x2v (Gp ua2) ua3 ua4) 2 0) :: (ua2, .row 9 ua5 (ua4 * kStr.size) 0) :: (some gx4, .row 219 (vT218 x4v uhl uap uaq) 2 0) :: Lr)) (_ : Rd kT26 S1 w1 Ax0 cx0 x0) (_ : x0.length = nx0) (_ : Els kStr S1 w1 ua5 x2v.l) (_ : x2v.l.length = ua3) (_ : Rd kStr S1 w1 uhl uaq x4v.l) (_ : x4v.l.length = uap) (junk : Nat → Value),
 Goes Tg (base 187) Jra ⟨lfr 34 [(0, .slice Ax0 nx0 cx0), (2, (pt gx2 0)), (4, (pt gx4 0)), (5, .i x5)] junk, []⟩ w1 (Done Tg 187 (Rets (Post.z3r nz wz S0 w0 Lr r)))
def L.z3t : (List T26) × T218 × T218 × Int × Bool → (T218 × Int) → Prop := fun ⟨x0, x2v, x4v, x5, x18⟩ r => ∀ S1 w1, Ext S0 w0 S1 w1 → ∀ Ax0 nx0 cx0 gx2 ua2 ua3 ua4 ua5 gx4 uhl uap uaq (_ : Hp nz wz S1 w1 ((some gx2, .row 219 (vT218 x2v (Gp ua2) ua3 ua4) 2 0) :: (ua2, .row 9 ua5 (ua4 * kStr.size) 0) :: (some gx4, .row 219 (vT218 x4v uhl uap uaq) 2 0) :: Lr)) (_ : Rd kT26 S1 w1 Ax0 cx0 x0) (_ : x0.length = nx0) (_ : Els kStr S1 w1 ua5 x2v.l) (_ : x2v.l.length = ua3) (_ : Rd kStr S1 w1 uhl uaq x4v.l) (_ : x4v.l.length = uap) (junk : Nat → Value),
 Goes Tg (base 187) Jrc ⟨lfr 34 [(0, .slice Ax0 nx0 cx0), (2, (pt gx2 0)), (4, (pt gx4 0)), (5, .i x5), (18, .bool x18)] junk, []⟩ w1 (Done Tg 187 (Rets (Post.z3r nz wz S0 w0 Lr r)))
def L.z3u : (List T26) × T218 × T218 × Int × T218 → (T218 × Int) → Prop := fun ⟨x0, x2v, x4v, x5, x6v⟩ r => ∀ S1 w1, Ext S0 w0 S1 w1 → ∀ Ax0 nx0 cx0 gx2 ua2 ua3 ua4 ua5 gx4 uhl uap uaq gx6 ucf ucg uch (_ : Hp nz wz S1 w1 ((some gx2, .row 219 (vT218 x2v (Gp ua2) ua3 ua4) 2 0) :: (ua2, .row 9 ua5 (ua4 * kStr.size) 0) :: (some gx4, .row 219 (vT218 x4v uhl uap uaq) 2 0) :: (some gx6, .row 219 (vT218 x6v ucf ucg uch) 2 0) :: Lr)) (_ : Rd kT26 S1 w1 Ax0 cx0 x0) (_ : x0.length = nx0) (_ : Els kStr S1 w1 ua5 x2v.l) (_ : x2v.l.length = ua3) (_ : Rd kStr S1 w1 uhl uaq x4v.l) (_ : x4v.l.length = uap) (_ : Rd kStr S1 w1 ucf uch x6v.l) (_ : x6v.l.length = ucg) (junk : Nat → Value),
 Goes Tg (base 187) Jrf ⟨lfr 34 [(0, .slice Ax0 nx0 cx0), (2, (pt gx2 0)), (4, (pt gx4 0)), (5, .i x5), (6, (pt gx6 0))] junk, []⟩ w1 (Done Tg 187 (Rets (Post.z3r nz wz S0 w0 Lr r)))
theorem W.z3v {nz wz S0 w0 Lr} : (∀ a r, M.ae a = some r → (L.z3s nz wz S0 w0 Lr) a r) ∧ (∀ a r, M.a17 a = some r → (L.z3t nz wz S0 w0 Lr) a r) ∧ (∀ a r, M.a3a a = some r → (L.z3u nz wz S0 w0 Lr) a r) := by
 refine M.ae.mutual_partial_correctness (L.z3s nz wz S0 w0 Lr) (L.z3t nz wz S0 w0 Lr) (L.z3u nz wz S0 w0 Lr) ?_ ?_ ?_
 ·
  intro uhm uhn ⟨x0, x2v, x4v, x5⟩ r h S1 w1 hx Ax0 nx0 cx0 gx2 ua2 ua3 ua4 ua5 gx4 uhl uap uaq p1 fx0 lx0 ua8 ue ub1 um junk
  try dsimp only at h
  subst lx0
  subst ue
  subst um
  refine Gn 4 [(11, (pt gx4 1))] (Zr Qmh [1, 2, 3, 4, 5, 6, 7] Jrc) ?_
  refine Xb 4 11 12 4 ⟨gx4, 1, none⟩ (.bool x4v.known) (p1.c 2 1) ?_
  refine Gn 1 [(13, .bool x4v.known)] (Zr Qmh [3, 4, 5, 6, 7] Jrc) ?_
  refine Gi h (fun h21 h => ?_) fun h21 h => ?_
  ·
   rw [h21]
   have p1 : Hp nz wz S1 w1 ((some gx2, .row 219 (vT218 x2v (Gp ua2) x2v.l.length ua4) 2 0) :: (ua2, .row 9 ua5 (ua4 * kStr.size) 0) :: (some gx4, .row 219 [.slice uhl x4v.l.length uaq, .bool true] 2 0) :: Lr) := by simp only [vT26, vT134, vT370, vT218, vT29, vT174, h21] at p1; exact p1
   refine Gm 6 [([14], .i x5), ([15], .slice Ax0 x0.length cx0), ([16], .i (x0.length : Int)), ([17, 18], .bool (decide (x5 < (x0.length : Int))))] Jrc ?_
   exact Gj 34 [(0, .slice Ax0 x0.length cx0), (2, (pt gx2 0)), (4, (pt gx4 0)), (5, .i x5), (18, .bool (decide (x5 < (x0.length : Int))))] (uhn _ _ h _ _ hx _ _ _ _ _ _ _ _ _ _ _ _ p1 fx0 rfl ua8 rfl ub1 rfl)
  ·
   have u7w := bf h21
   rw [u7w]
   have p1 : Hp nz wz S1 w1 ((some gx2, .row 219 (vT218 x2v (Gp ua2) x2v.l.length ua4) 2 0) :: (ua2, .row 9 ua5 (ua4 * kStr.size) 0) :: (some gx4, .row 219 [.slice uhl x4v.l.length uaq, .bool false] 2 0) :: Lr) := by simp only [vT26, vT134, vT370, vT218, vT29, vT174, u7w] at p1; exact p1
   refine Gm 6 [([14, 15, 16, 17], undef), ([18], .bool false)] Jrc ?_
   exact Gj 34 [(0, .slice Ax0 x0.length cx0), (2, (pt gx2 0)), (4, (pt gx4 0)), (5, .i x5), (18, .bool false)] (uhn _ _ h _ _ hx _ _ _ _ _ _ _ _ _ _ _ _ p1 fx0 rfl ua8 rfl ub1 rfl)
 ·
  intro uho uhp ⟨x0, x2v, x4v, x5, x18⟩ r h S1 w1 hx Ax0 nx0 cx0 gx2 ua2 ua3 ua4 ua5 gx4 uhl uap uaq p1 fx0 lx0 ua8 ue ub1 um junk
  try dsimp only at h
  subst lx0
  subst ue
  subst um
  refine Gi h (fun h25 h => ?_) fun h25 h => ?_
  ·
   rw [h25]
   refine Gn 5 [] (Ys 11110001000 B187 Jrf) ?_
   have z6 : Ext S1 w1 S1 (w1).drew := Xm
   have p6 := p1.draw
   refine Gd [6, 8] (Fc S1 (w1).drew [(⟨gx4, 0, none⟩, .slice uhl x4v.l.length uaq), (⟨gx4, 1, none⟩, .bool x4v.known)]) 5 9 ?_
   generalize (w1).drew = w6 at z6 p6 ⊢
   refine Xv (i := 0) 219 4 21 219 ⟨gx4, 0, none⟩ (vT218 x4v uhl x4v.l.length uaq) (by kernel_rfl) (by kernel_rfl) (p6.k [(2, 0, 2)]) (by kernel_rfl) (by kernel_rfl) (by kernel_rfl) (fun _ h j v hj => by match j, hj with | 0, rfl => exact h.2.at_ 0 rfl | 1, rfl => exact h.2.at_ 1 rfl | (j + 2), hj => simp at hj) ?_
   refine Xe 1 (.move 0) 22 25 (.slice Ax0 x0.length cx0) (p6.k [(2, 0, 2)]) ?_
   refine Xe 2 (.move 5) 23 3 (.i x5) (p6.k [(2, 0, 2)]) ?_
   refine Gg h fun g26 h => ?_
   refine Gg h fun g27 h => ?_
   refine AnyG.ixR_n (i := 3) 25 22 23 24 0 27 .i64 x5 (gi x0 x5) rfl rfl (fx0.ext z6) (by kernel_rfl) (by kernel_rfl) (p6.k [(2, 0, 2)]) (by kernel_rfl) (by kernel_rfl) (by kernel_rfl) (by kernel_rfl) g26 g27 fun a28 _ f29 q30 => ?_
   have q31 := q30
   obtain ⟨_, _, rfl, rfl, ⟨_, _, rfl, ⟨l32, f33⟩, ⟨_, _, rfl, ⟨A34, c35, rfl, f36⟩, ⟨_, _, rfl, rfl, rfl⟩⟩⟩⟩ := kT26_open q31
   obtain rfl := els_lit4' f33 l32
   refine Xv (i := 4) 27 24 25 27 a28 ([.i ((gi x0 x5).Kind)] ++ ((U4 ((gi x0 x5).Set) []) ++ ([.slice A34 (((gi x0 x5).L).length) c35] ++ ([.i ((gi x0 x5).Min)] ++ [.i ((gi x0 x5).Max)])))) (by kernel_rfl) (by kernel_rfl) (p6.k [(2, 0, 2)]) (by kernel_rfl) (by kernel_rfl) (by kernel_rfl) (fun _ h => f29.fc h) ?_
   refine AnyG.two (i := 5) (j := 7) (by kernel_rfl) ?_ ?_
   ·
    refine Gb h fun y37 e38 h => ?_
    refine Oc (kc 115 [25] #[27]) 26 219 115 #[(ag (.i ((gi x0 x5).Kind) :: U4 ((gi x0 x5).Set) [.slice A34 (((gi x0 x5).L).length) c35, .i ((gi x0 x5).Min), .i ((gi x0 x5).Max)]))] (AnyG.ct (i := 5) (by kernel_rfl)) (W.z2r (⟨(gi x0 x5).Kind, ((gi x0 x5).Set), (gi x0 x5).L, (gi x0 x5).Min, (gi x0 x5).Max⟩ : T26) y37 e38 _ _ _ p6 l32 f36 rfl) ?_
    rintro _ w7 ⟨S7, ub4, ub5, ub6, rfl, z7, p7, ub7, rfl⟩
    refine Xl z7 ⟨(p7.c 2 0), (p7.c 2 1), trivial⟩ ?_
    refine AnyG.two (i := 6) (j := 7) (by kernel_rfl) ?_ ?_
    ·
     refine Gb h fun y39 e40 h => ?_
     refine Oc (kc 231 [21, 26] #[219, 219]) 27 219 231 #[(ag (vT218 x4v uhl x4v.l.length uaq)), (ag (vT218 y37 ub4 y37.l.length ub6))] (AnyG.ct (i := 6) (by kernel_rfl)) (W.z27 x4v y37 y39 e40 _ _ _ _ _ _ p7 (ub1.ext (z6.t z7)) rfl ub7 rfl) ?_
     rintro _ w8 ⟨S8, ucr, ucs, uct, rfl, z8, p8, ucu, rfl⟩
     refine Xi [7, 8] (Fc S8 w8 []) (by decide) ?_
     refine Oa 219 6 0 (.agg #[.slice none 0 0, .bool false]) [.slice none 0 0, .bool false] p8 (Av 7) fun b41 w9 z9 p9 => ?_
     refine Xi [8] (Fc S8 w9 []) (by decide) ?_
     refine So 219 6 27 0 0 b41 0 (ag (vT218 y39 ucr y39.l.length uct)) (vT218 y39 ucr y39.l.length uct) p9 rfl (As 8) fun w10 z10 p10 => ?_
     refine Xi [] (Fc S8 w10 []) (by decide) ?_
     refine Ad ?_
     have p10 := (((p10.fr 0).fr 3).fr 3).fr 3
     exact Gj 34 [(0, .slice Ax0 x0.length cx0), (2, (pt gx2 0)), (4, (pt gx4 0)), (5, .i x5), (6, (pt b41 0))] (uhp _ _ h _ _ (((((hx.t z6).t z7).t z8).t z9).t z10) _ _ _ _ _ _ _ _ _ _ _ _ _ _ _ _ p10 (fx0.ext ((((z6.t z7).t z8).t z9).t z10)) rfl (ua8.ext ((((z6.t z7).t z8).t z9).t z10)) rfl (ub1.ext ((((z6.t z7).t z8).t z9).t z10)) rfl (ucu.ext (z9.t z10)) rfl)
    ·
     refine Oa 219 6 0 (.agg #[.slice none 0 0, .bool false]) [.slice none 0 0, .bool false] p7 (AnyG.vt (i := 7) (by kernel_rfl)) fun b47 w11 z11 p11 => ?_
     refine Xl z11 ⟨(p11.c 3 0), (p11.c 3 1), trivial⟩ ?_
     refine Gb h fun y49 e50 h => ?_
     refine Oc (kc 231 [21, 26] #[219, 219]) 27 219 231 #[(ag (vT218 x4v uhl x4v.l.length uaq)), (ag (vT218 y37 ub4 y37.l.length ub6))] (Ac 6) (W.z27 x4v y37 y49 e50 _ _ _ _ _ _ p11 (ub1.ext ((z6.t z7).t z11)) rfl (ub7.ext z11) rfl) ?_
     rintro _ w12 ⟨S12, uhq, uhr, uhs, rfl, z12, p12, uht, rfl⟩
     refine Xi [8] (Fc S12 w12 []) (by decide) ?_
     refine So 219 6 27 0 0 b47 0 (ag (vT218 y49 uhq y49.l.length uhs)) (vT218 y49 uhq y49.l.length uhs) p12 rfl (As 8) fun w13 z13 p13 => ?_
     refine Xi [] (Fc S12 w13 []) (by decide) ?_
     refine Ad ?_
     have p13 := (((p13.fr 0).fr 3).fr 3).fr 3
     exact Gj 34 [(0, .slice Ax0 x0.length cx0), (2, (pt gx2 0)), (4, (pt gx4 0)), (5, .i x5), (6, (pt b47 0))] (uhp _ _ h _ _ (((((hx.t z6).t z7).t z11).t z12).t z13) _ _ _ _ _ _ _ _ _ _ _ _ _ _ _ _ p13 (fx0.ext ((((z6.t z7).t z11).t z12).t z13)) rfl (ua8.ext ((((z6.t z7).t z11).t z12).t z13)) rfl (ub1.ext ((((z6.t z7).t z11).t z12).t z13)) rfl (uht.ext z13) rfl)
   ·
    refine Oa 219 6 0 (.agg #[.slice none 0 0, .bool false]) [.slice none 0 0, .bool false] p6 (AnyG.vt (i := 7) (by kernel_rfl)) fun b51 w14 z14 p14 => ?_
    refine Xl z14 ⟨(p14.c 3 0), (p14.c 3 1), trivial⟩ ?_
    refine Gb h fun y53 e54 h => ?_
    refine Oc (kc 115 [25] #[27]) 26 219 115 #[(ag (.i ((gi x0 x5).Kind) :: U4 ((gi x0 x5).Set) [.slice A34 (((gi x0 x5).L).length) c35, .i ((gi x0 x5).Min), .i ((gi x0 x5).Max)]))] (Ac 5) (W.z2r (⟨(gi x0 x5).Kind, ((gi x0 x5).Set), (gi x0 x5).L, (gi x0 x5).Min, (gi x0 x5).Max⟩ : T26) y53 e54 _ _ _ p14 l32 (f36.ext z14) rfl) ?_
    rintro _ w15 ⟨S15, ud3, ud4, ud5, rfl, z15, p15, ud6, rfl⟩
    refine Xl z15 ⟨(p15.c 3 0), (p15.c 3 1), trivial⟩ ?_
    refine Gb h fun y55 e56 h => ?_
    refine Oc (kc 231 [21, 26] #[219, 219]) 27 219 231 #[(ag (vT218 x4v uhl x4v.l.length uaq)), (ag (vT218 y53 ud3 y53.l.length ud5))] (Ac 6) (W.z27 x4v y53 y55 e56 _ _ _ _ _ _ p15 (ub1.ext ((z6.t z14).t z15)) rfl ud6 rfl) ?_
    rintro _ w16 ⟨S16, uhu, uhv, uhw, rfl, z16, p16, uhx, rfl⟩
    refine Xi [8] (Fc S16 w16 []) (by decide) ?_
    refine So 219 6 27 0 0 b51 0 (ag (vT218 y55 uhu y55.l.length uhw)) (vT218 y55 uhu y55.l.length uhw) p16 rfl (As 8) fun w17 z17 p17 => ?_
    refine Xi [] (Fc S16 w17 []) (by decide) ?_
    refine Ad ?_
    have p17 := (((p17.fr 0).fr 3).fr 3).fr 3
    exact Gj 34 [(0, .slice Ax0 x0.length cx0), (2, (pt gx2 0)), (4, (pt gx4 0)), (5, .i x5), (6, (pt b51 0))] (uhp _ _ h _ _ (((((hx.t z6).t z14).t z15).t z16).t z17) _ _ _ _ _ _ _ _ _ _ _ _ _ _ _ _ p17 (fx0.ext ((((z6.t z14).t z15).t z16).t z17)) rfl (ua8.ext ((((z6.t z14).t z15).t z16).t z17)) rfl (ub1.ext ((((z6.t z14).t z15).t z16).t z17)) rfl (uhx.ext z17) rfl)
  ·
   rw [bf h25]
   refine Gn 4 [] Jrk ?_
   refine Xf 219 4 32 219 ⟨gx4, 0, none⟩ (vT218 x4v uhl x4v.l.length uaq) (p1.pa 2 0) ?_
   refine Gn 1 [(33, .i x5)] Jrl ?_
   refine So 219 2 32 0 0 gx2 0 (ag (vT218 x4v uhl x4v.l.length uaq)) (vT218 x4v uhl x4v.l.length uaq) p1 rfl Xd fun w18 z18 p18 => ?_
   refine Gn 2 [(3, .i x5)] Jrj ?_
   obtain rfl := sj h
   have p18 := (p18.dp 1).dp 1
   exact R2 Tryz.f187 (.cell 2 219) 3 (.tuple #[(ag (vT218 x4v uhl x4v.l.length uaq)), .i x5]) (Rn gx2 (p18.pa 0 0)) Rt ⟨_, _, _, _, rfl, (hx.t z18), p18.drop, (ub1.ext z18), rfl⟩
 ·
  intro uhy uhz ⟨x0, x2v, x4v, x5, x6v⟩ r h S1 w1 hx Ax0 nx0 cx0 gx2 ua2 ua3 ua4 ua5 gx4 uhl uap uaq gx6 ucf ucg uch p1 fx0 lx0 ua8 ue ub1 um ude u3d junk
  try dsimp only at h
  subst lx0
  subst ue
  subst um
  subst u3d
  refine Gn 4 [(28, (pt gx6 1))] (Yt 1111000100100 B187 [1, 2] Jrn) ?_
  refine Xb 4 28 29 4 ⟨gx6, 1, none⟩ (.bool x6v.known) (p1.c 3 1) ?_
  refine Gn 2 [(30, .bool (!x6v.known))] Jrn ?_
  refine Gi h (fun h57 h => ?_) fun h57 h => ?_
  ·
   rw [h57]
   have p1 : Hp nz wz S1 w1 ((some gx2, .row 219 (vT218 x2v (Gp ua2) x2v.l.length ua4) 2 0) :: (ua2, .row 9 ua5 (ua4 * kStr.size) 0) :: (some gx4, .row 219 (vT218 x4v uhl x4v.l.length uaq) 2 0) :: (some gx6, .row 219 [.slice ucf x6v.l.length uch, .bool true] 2 0) :: Lr) := by simp only [vT26, vT134, vT370, vT218, vT29, vT174, h57] at p1; exact p1
   refine Gn 3 [] (Zr Qml [0, 1] Jre) ?_
   refine Xf 219 6 31 219 ⟨gx6, 0, none⟩ [.slice ucf x6v.l.length uch, .bool true] (p1.pa 3 0) ?_
   refine So 219 4 31 0 2 gx4 0 (.agg #[.slice ucf x6v.l.length uch, .bool true]) [.slice ucf x6v.l.length uch, .bool true] p1 rfl Xd fun w19 z19 p19 => ?_
   refine Gm 8 [([19], .i x5), ([20, 5], .i (wr .i64 (x5 + 1)))] Jra ?_
   have p19 := p19.dp 3
   exact Gj 34 [(0, .slice Ax0 x0.length cx0), (2, (pt gx2 0)), (4, (pt gx4 0)), (5, .i (wr .i64 (x5 + 1)))] (uhz _ _ h _ _ (hx.t z19) _ _ _ _ _ _ _ _ _ _ _ _ p19 (fx0.ext z19) rfl (ua8.ext z19) rfl (ude.ext z19) rfl)
  ·
   have ui0 := bf h57
   rw [ui0]
   have p1 : Hp nz wz S1 w1 ((some gx2, .row 219 (vT218 x2v (Gp ua2) x2v.l.length ua4) 2 0) :: (ua2, .row 9 ua5 (ua4 * kStr.size) 0) :: (some gx4, .row 219 (vT218 x4v uhl x4v.l.length uaq) 2 0) :: (some gx6, .row 219 [.slice ucf x6v.l.length uch, .bool false] 2 0) :: Lr) := by simp only [vT26, vT134, vT370, vT218, vT29, vT174, ui0] at p1; exact p1
   refine Gn 4 [] Jrk ?_
   refine Xf 219 4 32 219 ⟨gx4, 0, none⟩ (vT218 x4v uhl x4v.l.length uaq) (p1.pa 2 0) ?_
   refine Gn 1 [(33, .i x5)] Jrl ?_
   refine So 219 2 32 0 0 gx2 0 (ag (vT218 x4v uhl x4v.l.length uaq)) (vT218 x4v uhl x4v.l.length uaq) p1 rfl Xd fun w20 z20 p20 => ?_
   refine Gn 2 [(3, .i x5)] Jrj ?_
   obtain rfl := sj h
   have p20 := ((p20.dp 1).dp 1).dp 1
   exact R2 Tryz.f187 (.cell 2 219) 3 (.tuple #[(ag (vT218 x4v uhl x4v.l.length uaq)), .i x5]) (Rn gx2 (p20.pa 0 0)) Rt ⟨_, _, _, _, rfl, (hx.t z20), p20.drop, (ub1.ext z20), rfl⟩
theorem W.z3s {nz wz S0 w0 Lr} : ∀ a r, M.ae a = some r → (L.z3s nz wz S0 w0 Lr) a r := (W.z3v).1
theorem W.z3t {nz wz S0 w0 Lr} : ∀ a r, M.a17 a = some r → (L.z3t nz wz S0 w0 Lr) a r := (W.z3v).2.1
theorem W.z3u {nz wz S0 w0 Lr} : ∀ a r, M.a3a a = some r → (L.z3u nz wz S0 w0 Lr) a r := (W.z3v).2.2
theorem W.z3r (x0 : List T26) (r : T218 × Int) (h : M.a1o x0 = some r) {nz wz S0 w0 Lr} (Ax0 nx0 cx0) (p0 : Hp nz wz S0 w0 (Lr)) (fx0 : Rd kT26 S0 w0 Ax0 cx0 x0) (lx0 : x0.length = nx0) :
  Calls Tg 187 #[.slice Ax0 nx0 cx0] w0 (Rets (Post.z3r nz wz S0 w0 Lr r)) := by
 subst lx0
 refine Zf Tryz.f187 B187 33 ?_
 refine Gj 34 [(0, .slice Ax0 x0.length cx0)] fun junk => ?_
 delta M.a1o at h
 refine Gn 2 [] (Yt 10 B187 [0, 1] (Ys 11 B187 [])) ?_
 refine Oa 219 2 0 (.agg #[.slice none 0 0, .bool false]) [.slice none 0 0, .bool false] p0 Xa fun b1 w2 z2 p2 => ?_
 refine Gn 5 [(3, .i 0), (7, .slice Ax0 x0.length cx0)] (Yt 110 B187 [1, 2, 3, 4, 5] (Ys 111 B187 [])) ?_
 refine Gg h fun g3 h => ?_
 refine Oi 25 7 (.const (.int .i64 0)) 8 0 27 .i64 0 (gi x0 0) rfl rfl (fx0.ext z2) Xa (by decide : (0 : Int) ≤ 0) g3 fun a4 _ f5 q6 => ?_
 have q7 := q6
 obtain ⟨_, _, rfl, rfl, ⟨_, _, rfl, ⟨l8, f9⟩, ⟨_, _, rfl, ⟨A10, c11, rfl, f12⟩, ⟨_, _, rfl, rfl, rfl⟩⟩⟩⟩ := kT26_open q7
 obtain rfl := els_lit4' f9 l8
 refine Xf 27 8 9 27 a4 ([.i ((gi x0 0).Kind)] ++ ((U4 ((gi x0 0).Set) []) ++ ([.slice A10 (((gi x0 0).L).length) c11] ++ ([.i ((gi x0 0).Min)] ++ [.i ((gi x0 0).Max)])))) (f5.cell) ?_
 refine Gb h fun y13 e14 h => ?_
 refine Gc (kc 115 [9] #[27]) 10 219 115 _ (W.z2r (⟨(gi x0 0).Kind, ((gi x0 0).Set), (gi x0 0).L, (gi x0 0).Min, (gi x0 0).Max⟩ : T26) y13 e14 _ _ _ p2 l8 f12 rfl) ?_
 rintro _ w3 ⟨S3, ui1, ui2, ui3, rfl, z3, p3, ui4, rfl⟩
 refine Oa 219 4 0 (.agg #[.slice none 0 0, .bool false]) [.slice none 0 0, .bool false] p3 Xa fun b15 w4 z4 p4 => ?_
 refine So 219 4 10 0 0 b15 0 (ag (vT218 y13 ui1 y13.l.length ui3)) (vT218 y13 ui1 y13.l.length ui3) p4 rfl Xd fun w5 z5 p5 => ?_
 refine Gn 8 [(5, .i 1)] Jra ?_
 have p5 : Hp nz wz S3 w5 ((none, .row 9 [] (0 * kStr.size) 0) :: (some b15, .row 219 (vT218 y13 ui1 y13.l.length ui3) 2 0) :: (some b1, .row 219 [.slice none 0 0, .bool false] 2 0) :: Lr) := p5.nilRow' 9
 have p5 := ((p5.fr 1).fr 1).fr 2
 exact Gj 34 [(0, .slice Ax0 x0.length cx0), (2, (pt b1 0)), (4, (pt b15 0)), (5, .i 1)] (W.z3s _ _ h _ _ (((z2.t z3).t z4).t z5) _ _ _ _ none 0 0 [] _ _ _ _ p5 (fx0.ext (((z2.t z3).t z4).t z5)) rfl (Els.nil (K := kStr)) rfl (ui4.ext (z4.t z5)) rfl)
def Qmt := Yq 111000 B117
def Jrw := Zl Qmt (Zb 0 (Ys 1111 B117 []))
def Jrx := Zc Qmt Jrw
def Jry := Zb 1 Jrw
def Qmu := Yq 1110001011 B117
def Jrz := Zc Qmu Jry
def Js0 := Ys 11111 B54 []
def Js1 := Zb 0 Js0
def Js2 := Ys 111101011101 B54 Js1
def Qmx := Yq 111101011100100 B54
def Js4 := Zl Qmx (Zb 1 Js2)
def Js5 := Zc Qmx Js4
def Js8 := Ys 111 B54 []
def Jsb := Ys 11011 B54 Js8
def Jsd := Ys 1101101 B54 Js8
def Jsi := Ys 1111010101 B54 Js1
def Jso := Ys 11110101111101 B54 Js1
def Jsq := Ys 1111010111110101 B54 Js1
def Jss := Ys 111111 B54 []
def Jst := Yt 111110 B54 [1] Jss
def Jsx := Zb 2 (Ys 111101011100100111 B54 Js4)
def Qnp := Yq 11110101110010011001 B54
def Jt1 := Ys 1111010111011 B54 Js1
def Jt7 := Ys 111000101 B117 Jry
def Qny := Yq 111000100 B117
def Jta := Ys 11100010101 B117 Jrz
def Jte := Ys 11111 B117 []
def Post.z3w (r : T29) (v : Value) (w' : World) : Prop :=
 ∃ S' u4 u5 u6, v = (ag (vT29 r u4 u5 u6)) ∧ Ext S0 w0 S' w' ∧ Hp nz wz S' w' (Lr) ∧ Rd kT29 S' w' u4 u6 r.L ∧ r.L.length = u5
def Post.z3x (r : T29) (v : Value) (w' : World) : Prop :=
 ∃ S' u4 u5 u6, v = (ag (vT29 r u4 u5 u6)) ∧ Ext S0 w0 S' w' ∧ Hp nz wz S' w' (Lr) ∧ Rd kT29 S' w' u4 u6 r.L ∧ r.L.length = u5
def LF.z3w : T26 → T29 → Prop := fun x0 r => ∀ {nz wz S0 w0 Lr} u92 u93 u94 (_ : Hp nz wz S0 w0 (Lr)) (_ : x0.Set.length = 4) (_ : Rd kT26 S0 w0 u92 u94 x0.L) (_ : x0.L.length = u93),
 Calls Tg 54 #[(ag (vT26 x0 u92 u93 u94))] w0 (Rets (Post.z3w nz wz S0 w0 Lr r))
def LF.z3x : (List T26) → T29 → Prop := fun x0 r => ∀ {nz wz S0 w0 Lr} Ax0 nx0 cx0 (_ : Hp nz wz S0 w0 (Lr)) (_ : Rd kT26 S0 w0 Ax0 cx0 x0) (_ : x0.length = nx0),
 Calls Tg 117 #[.slice Ax0 nx0 cx0] w0 (Rets (Post.z3x nz wz S0 w0 Lr r))
def L.z3y : (List T26) × T29 × (List T29) → T29 → Prop := fun ⟨x0, x2v, x3⟩ r => ∀ S1 w1, Ext S0 w0 S1 w1 → ∀ Ax0 nx0 cx0 gx2 u6o u6p u6q u6r Gx3 nx3 cx3 uo (_ : Hp nz wz S1 w1 ((some gx2, .row 30 (vT29 x2v (Gp u6o) u6p u6q) 3 0) :: (u6o, .row 30 u6r (u6q * kT29.size) 0) :: (Gx3, .row 30 uo (cx3 * kT29.size) 0) :: Lr)) (_ : Rd kT26 S1 w1 Ax0 cx0 x0) (_ : x0.length = nx0) (_ : Els kT29 S1 w1 u6r x2v.L) (_ : x2v.L.length = u6p) (_ : Els kT29 S1 w1 uo x3) (_ : x3.length = nx3) (junk : Nat → Value),
 Goes Tg (base 117) Jrx ⟨lfr 33 [(0, .slice Ax0 nx0 cx0), (2, (pt gx2 0)), (3, .slice (Gp Gx3) nx3 cx3)] junk, []⟩ w1 (Done Tg 117 (Rets (Post.z3x nz wz S0 w0 Lr r)))
def LL.z3y : (List T26) × T29 × (List T29) → T29 → Prop := fun a r => ∀ {nz wz S0 w0 Lr}, L.z3y nz wz S0 w0 Lr a r
def L.z3z : (List T26) × T29 × (List T29) × Int → T29 → Prop := fun ⟨x0, x2v, x3, x5⟩ r => ∀ S1 w1, Ext S0 w0 S1 w1 → ∀ Ax0 nx0 cx0 gx2 u6o u6p u6q u6r Gx3 nx3 cx3 uo (_ : Hp nz wz S1 w1 ((some gx2, .row 30 (vT29 x2v (Gp u6o) u6p u6q) 3 0) :: (u6o, .row 30 u6r (u6q * kT29.size) 0) :: (Gx3, .row 30 uo (cx3 * kT29.size) 0) :: Lr)) (_ : Rd kT26 S1 w1 Ax0 cx0 x0) (_ : x0.length = nx0) (_ : Els kT29 S1 w1 u6r x2v.L) (_ : x2v.L.length = u6p) (_ : Els kT29 S1 w1 uo x3) (_ : x3.length = nx3) (junk : Nat → Value),
 Goes Tg (base 117) Jrz ⟨lfr 33 [(0, .slice Ax0 nx0 cx0), (2, (pt gx2 0)), (3, .slice (Gp Gx3) nx3 cx3), (5, .i x5)] junk, []⟩ w1 (Done Tg 117 (Rets (Post.z3x nz wz S0 w0 Lr r)))
def LL.z3z : (List T26) × T29 × (List T29) × Int → T29 → Prop := fun a r => ∀ {nz wz S0 w0 Lr}, L.z3z nz wz S0 w0 Lr a r
def L.z40 : T29 × (List T29) × (List T26) × Int × Int → T29 → Prop := fun ⟨x2v, x4, x23, x24, x25⟩ r => ∀ S1 w1, Ext S0 w0 S1 w1 → ∀ gx2 u6o u6p u6q u6r Gx4 nx4 cx4 ui5 u99 u9a u9b (_ : Hp nz wz S1 w1 ((some gx2, .row 30 (vT29 x2v (Gp u6o) u6p u6q) 3 0) :: (u6o, .row 30 u6r (u6q * kT29.size) 0) :: (Gx4, .row 30 ui5 (cx4 * kT29.size) 0) :: Lr)) (_ : Els kT29 S1 w1 u6r x2v.L) (_ : x2v.L.length = u6p) (_ : Els kT29 S1 w1 ui5 x4) (_ : x4.length = nx4) (_ : Rd kT26 S1 w1 u99 u9b x23) (_ : x23.length = u9a) (junk : Nat → Value),
 Goes Tg (base 54) Js5 ⟨lfr 48 [(2, (pt gx2 0)), (4, .slice (Gp Gx4) nx4 cx4), (23, .slice u99 u9a u9b), (24, .i x24), (25, .i x25)] junk, []⟩ w1 (Done Tg 54 (Rets (Post.z3w nz wz S0 w0 Lr r)))
def LL.z40 : T29 × (List T29) × (List T26) × Int × Int → T29 → Prop := fun a r => ∀ {nz wz S0 w0 Lr}, L.z40 nz wz S0 w0 Lr a r
theorem W.z41 : (∀ a r, M.a5 a = some r → LF.z3w a r) ∧ (∀ a r, M.a18 a = some r → LL.z40 a r) ∧ (∀ a r, M.a3b a = some r → LF.z3x a r) ∧ (∀ a r, M.an a = some r → LL.z3y a r) ∧ (∀ a r, M.a1p a = some r → LL.z3z a r) := by
 refine M.a5.mutual_partial_correctness LF.z3w LL.z40 LF.z3x LL.z3y LL.z3z ?_ ?_ ?_ ?_ ?_
 ·
  intro rec_gram_from ui6 rec_gram_each ih_gram_from ui7 ih_gram_each x0 r h nz wz S0 w0 Lr u92 u93 u94 p0 u9e u9f u9g
  try dsimp only at h
  subst u9g
  refine Zf Tryz.f54 B54 47 ?_
  refine Gj 48 [(0, (ag (vT26 x0 u92 x0.L.length u94)))] fun junk => ?_
  refine Gn 2 [] (Yt 10 B54 [0, 1] (Ys 11 B54 [])) ?_
  refine Ob 27 0 1 0 (ag (vT26 x0 u92 x0.L.length u94)) (vT26 x0 u92 x0.L.length u94) p0 Xa fun b1 w2 z2 p2 => ?_
  refine Oa 30 2 0 (.agg #[.i 0, .string (⟨#[]⟩ : ByteArray), .slice none 0 0]) [.i 0, .string (⟨#[]⟩ : ByteArray), .slice none 0 0] p2 Xa fun b3 w3 z3 p3 => ?_
  refine Gn 4 [] (Yt 1100 B54 [0, 1, 2, 3] (Ys 1101 B54 Js8)) ?_
  refine Xf 27 1 7 27 ⟨b1, 0, none⟩ (vT26 x0 u92 x0.L.length u94) (p3.pa 1 0) ?_
  refine Gb h fun y5 e6 h => ?_
  refine Gc (kc 115 [7] #[27]) 8 219 115 _ (W.z2r x0 y5 e6 _ _ _ p3 u9e (u9f.ext (z2.t z3)) rfl) ?_
  rintro _ w4 ⟨S4, uck, ucl, ucm, rfl, z4, p4, u2r, rfl⟩
  refine Oa 219 3 0 (.agg #[.slice none 0 0, .bool false]) [.slice none 0 0, .bool false] p4 Xa fun b7 w5 z5 p5 => ?_
  refine So 219 3 8 0 0 b7 0 (ag (vT218 y5 uck y5.l.length ucm)) (vT218 y5 uck y5.l.length ucm) p5 rfl Xd fun w6 z6 p6 => ?_
  refine Gn 4 [(9, (pt b7 1))] (Yt 11010 B54 [1] Jsb) ?_
  refine Xb 4 9 10 4 ⟨b7, 1, none⟩ (.bool y5.known) (p6.c 0 1) ?_
  refine Gn 1 [] Jsb ?_
  refine Gi h (fun h9 h => ?_) fun h9 h => ?_
  ·
   rw [h9]
   have p6 : Hp nz wz S4 w6 ((some b7, .row 219 [.slice uck y5.l.length ucm, .bool true] 2 0) :: (some b3, .row 30 [.i 0, .string (⟨#[]⟩ : ByteArray), .slice none 0 0] 3 0) :: (some b1, .row 27 (vT26 x0 u92 x0.L.length u94) 8 0) :: Lr) := by simp only [vT26, vT134, vT370, vT218, vT29, vT174, h9] at p6; exact p6
   refine Gn 3 [] (Yt 1101100 B54 [0, 1, 2] Jsd) ?_
   refine Xf 219 3 11 219 ⟨b7, 0, none⟩ [.slice uck y5.l.length ucm, .bool true] (p6.pa 0 0) ?_
   refine Gb h fun y10 e11 h => ?_
   refine Gc (kc 116 [11] #[219]) 12 30 116 _ (W.z3m (⟨y5.l, true⟩ : T218) y10 e11 _ _ _ p6 (u2r.ext (z5.t z6)) rfl) ?_
   rintro _ w7 ⟨S7, u6c, u6d, u6e, rfl, z7, p7, u6g, rfl⟩
   have p7 := (p7.dp 0).dp 1
   refine So 30 2 12 0 0 b3 0 (ag (vT29 y10 u6c y10.L.length u6e)) (vT29 y10 u6c y10.L.length u6e) p7 rfl Xd fun w8 z8 p8 => ?_
   refine Gn 1 [] Jsd ?_
   obtain rfl := sj h
   exact R1 Tryz.f54 (.cell 2 30) (ag (vT29 y10 u6c y10.L.length u6e)) (Rn b3 (p8.pa 0 0)) ⟨_, _, _, _, rfl, ((((((z2.t z3).t z4).t z5).t z6).t z7).t z8), p8.drop, (u6g.ext z8), rfl⟩
  ·
   have h9' := bf h9
   rw [h9']
   have p6 : Hp nz wz S4 w6 ((some b7, .row 219 [.slice uck y5.l.length ucm, .bool false] 2 0) :: (some b3, .row 30 [.i 0, .string (⟨#[]⟩ : ByteArray), .slice none 0 0] 3 0) :: (some b1, .row 27 (vT26 x0 u92 x0.L.length u94) 8 0) :: Lr) := by simp only [vT26, vT134, vT370, vT218, vT29, vT174, h9'] at p6; exact p6
   refine Gn 10 [(4, .slice none 0 0), (13, (pt b1 0))] (Yt 111100 B54 [1] (Ys 111101 B54 Js0)) ?_
   refine Xb 3 13 14 3 ⟨b1, 0, none⟩ (.i x0.Kind) (p6.c 2 0) ?_
   refine Gm 7 [([16, 15], .bool (decide (x0.Kind = 2)))] (Ys 11110101 B54 Js1) ?_
   refine Gi h (fun h12 h => ?_) fun h12 h => ?_
   ·
    rw [dt h12]
    refine Gn 4 [(17, (pt b1 5))] (Yt 1111010100 B54 [1, 2, 3] Jsi) ?_
    refine Xb 25 17 18 25 ⟨b1, 5, none⟩ (.slice u92 x0.L.length u94) (p6.c 2 5) ?_
    refine Gb h fun y13 e14 h => ?_
    refine Gc (kc 117 [18] #[25]) 19 30 117 _ (ih_gram_each x0.L y13 e14 _ _ _ p6 (u9f.ext ((((z2.t z3).t z4).t z5).t z6)) rfl) ?_
    rintro _ w9 ⟨S9, u6h, u6i, u6j, rfl, z9, p9, u6m, rfl⟩
    have p9 := (p9.dp 0).dp 1
    refine So 30 2 19 0 0 b3 0 (ag (vT29 y13 u6h y13.L.length u6j)) (vT29 y13 u6h y13.L.length u6j) p9 rfl Xd fun w10 z10 p10 => ?_
    refine Gn 1 [] Jsi ?_
    obtain rfl := sj h
    exact R1 Tryz.f54 (.cell 2 30) (ag (vT29 y13 u6h y13.L.length u6j)) (Rn b3 (p10.pa 0 0)) ⟨_, _, _, _, rfl, ((((((z2.t z3).t z4).t z5).t z6).t z9).t z10), p10.drop, (u6m.ext z10), rfl⟩
   ·
    rw [df h12]
    refine Gm 6 [([21, 20], .bool (decide (x0.Kind = 3)))] (Ys 1111010111 B54 Js1) ?_
    refine Gi h (fun h15 h => ?_) fun h15 h => ?_
    ·
     rw [dt h15]
     refine Gn 5 [(22, (pt b1 5))] (Yt 1111010111000 B54 [1, 2, 3] (Ys 1111010111001 B54 Js2)) ?_
     refine Xb 25 22 23 25 ⟨b1, 5, none⟩ (.slice u92 x0.L.length u94) (p6.c 2 5) ?_
     refine Gn 5 [(24, .i (x0.L.length : Int)), (25, .i 0)] Js5 ?_
     have p6 : Hp nz wz S4 w6 ((none, .row 30 [] (0 * kT29.size) 0) :: (some b7, .row 219 [.slice uck y5.l.length ucm, .bool false] 2 0) :: (some b3, .row 30 [.i 0, .string (⟨#[]⟩ : ByteArray), .slice none 0 0] 3 0) :: (some b1, .row 27 (vT26 x0 u92 x0.L.length u94) 8 0) :: Lr) := p6.nilRow' 30
     have p6 := (p6.dp 1).dp 2
     have p6 : Hp nz wz S4 w6 ((none, .row 30 [] (0 * kT29.size) 0) :: (none, .row 30 [] (0 * kT29.size) 0) :: (some b3, .row 30 [.i 0, .string (⟨#[]⟩ : ByteArray), .slice (Gp none) 0 0] 3 0) :: Lr) := p6.nilRow' 30
     have p6 := ((p6.fr 0).fr 1).fr 2
     exact Gj 48 [(2, (pt b3 0)), (4, .slice (Gp none) 0 0), (23, .slice u92 x0.L.length u94), (24, .i (x0.L.length : Int)), (25, .i 0)] (ui7 _ _ h _ _ ((((z2.t z3).t z4).t z5).t z6) _ none 0 0 [] none 0 0 [] _ _ _ p6 (Els.nil (K := kT29)) rfl (Els.nil (K := kT29)) rfl (u9f.ext ((((z2.t z3).t z4).t z5).t z6)) rfl)
    ·
     rw [df h15]
     refine Gm 6 [([38, 37], .bool (decide (x0.Kind = 4)))] (Ys 111101011111 B54 Js1) ?_
     refine Gi h (fun h21 h => ?_) fun h21 h => ?_
     ·
      rw [dt h21]
      refine Gn 4 [(39, (pt b1 6))] (Yt 11110101111100 B54 [1, 2] Jso) ?_
      refine Xb 3 39 40 3 ⟨b1, 6, none⟩ (.i x0.Min) (p6.c 2 6) ?_
      refine Gn 2 [(41, .bool (decide (x0.Min > 0)))] Jso ?_
      refine Gi h (fun h22 h => ?_) fun h22 h => ?_
      ·
       rw [dt h22]
       refine Gn 4 [(42, (pt b1 5))] (Yt 1111010111110100 B54 [1, 2, 3, 4, 5] Jsq) ?_
       refine Xb 25 42 43 25 ⟨b1, 5, none⟩ (.slice u92 x0.L.length u94) (p6.c 2 5) ?_
       refine Gg h fun g23 h => ?_
       refine Oi 25 43 (.const (.int .i64 0)) 44 0 27 .i64 0 (gi x0.L 0) rfl rfl (u9f.ext ((((z2.t z3).t z4).t z5).t z6)) Xa (by decide : (0 : Int) ≤ 0) g23 fun a24 _ f25 q26 => ?_
       have q27 := q26
       obtain ⟨_, _, rfl, rfl, ⟨_, _, rfl, ⟨l28, f29⟩, ⟨_, _, rfl, ⟨A30, c31, rfl, f32⟩, ⟨_, _, rfl, rfl, rfl⟩⟩⟩⟩ := kT26_open q27
       obtain rfl := els_lit4' f29 l28
       refine Xf 27 44 45 27 a24 ([.i ((gi x0.L 0).Kind)] ++ ((U4 ((gi x0.L 0).Set) []) ++ ([.slice A30 (((gi x0.L 0).L).length) c31] ++ ([.i ((gi x0.L 0).Min)] ++ [.i ((gi x0.L 0).Max)])))) (f25.cell) ?_
       refine Gb h fun y33 e34 h => ?_
       refine Gc (kc 54 [45] #[27]) 46 30 54 _ (ih_gram_from (⟨(gi x0.L 0).Kind, ((gi x0.L 0).Set), (gi x0.L 0).L, (gi x0.L 0).Min, (gi x0.L 0).Max⟩ : T26) y33 e34 _ _ _ p6 l28 f32 rfl) ?_
       rintro _ w11 ⟨S11, u41, u42, u43, rfl, z11, p11, u45, rfl⟩
       have p11 := (p11.dp 0).dp 1
       refine So 30 2 46 0 0 b3 0 (ag (vT29 y33 u41 y33.L.length u43)) (vT29 y33 u41 y33.L.length u43) p11 rfl Xd fun w12 z12 p12 => ?_
       refine Gn 1 [] Jsq ?_
       obtain rfl := sj h
       exact R1 Tryz.f54 (.cell 2 30) (ag (vT29 y33 u41 y33.L.length u43)) (Rn b3 (p12.pa 0 0)) ⟨_, _, _, _, rfl, ((((((z2.t z3).t z4).t z5).t z6).t z11).t z12), p12.drop, (u45.ext z12), rfl⟩
      ·
       rw [df h22]
       refine Gn 6 [(47, .agg #[.i 0, .string (⟨#[]⟩ : ByteArray), .slice none 0 0])] Jst ?_
       refine So 30 2 47 0 1 b3 0 (.agg #[.i 0, .string (⟨#[]⟩ : ByteArray), .slice none 0 0]) [.i 0, .string (⟨#[]⟩ : ByteArray), .slice none 0 0] p6 rfl Xd fun w13 z13 p13 => ?_
       refine Gn 1 [] Jss ?_
       obtain rfl := sj h
       have p13 := (p13.dp 0).dp 1
       exact R1 Tryz.f54 (.cell 2 30) (.agg #[.i 0, .string (⟨#[]⟩ : ByteArray), .slice none 0 0]) (Rn b3 (p13.pa 0 0)) ⟨_, _, _, _, rfl, (((((z2.t z3).t z4).t z5).t z6).t z13), p13.drop, Xq, rfl⟩
     ·
      rw [df h21]
      refine Gn 6 [(47, .agg #[.i 0, .string (⟨#[]⟩ : ByteArray), .slice none 0 0])] Jst ?_
      refine So 30 2 47 0 1 b3 0 (.agg #[.i 0, .string (⟨#[]⟩ : ByteArray), .slice none 0 0]) [.i 0, .string (⟨#[]⟩ : ByteArray), .slice none 0 0] p6 rfl Xd fun w14 z14 p14 => ?_
      refine Gn 1 [] Jss ?_
      obtain rfl := sj h
      have p14 := (p14.dp 0).dp 1
      exact R1 Tryz.f54 (.cell 2 30) (.agg #[.i 0, .string (⟨#[]⟩ : ByteArray), .slice none 0 0]) (Rn b3 (p14.pa 0 0)) ⟨_, _, _, _, rfl, (((((z2.t z3).t z4).t z5).t z6).t z14), p14.drop, Xq, rfl⟩
 ·
  intro rec_gram_from ui6 ih_gram_from ui7 ⟨x2v, x4, x23, x24, x25⟩ r h nz wz S0 w0 Lr S1 w1 hx gx2 u6o u6p u6q u6r Gx4 nx4 cx4 ui5 u99 u9a u9b p1 u6v u6w fx4 lx4 u9m u9n junk
  try dsimp only at h
  subst u6w
  subst lx4
  subst u9n
  refine Gn 5 [(26, .bool (decide (x25 < x24)))] (Ys 11110101110010010 B54 (Ys 11110101110010011 B54 Js4)) ?_
  refine Gi h (fun h35 h => ?_) fun h35 h => ?_
  ·
   rw [dt h35]
   refine Gn 6 [] (Yt 11110101110010011000 B54 [0, 1, 2, 3] (Zc Qnp Jsx)) ?_
   refine Gg h fun g36 h => ?_
   refine Gg h fun g37 h => ?_
   refine Oi 25 23 25 27 0 27 .i64 x25 (gi x23 x25) rfl rfl u9m Xa g36 g37 fun a38 _ f39 q40 => ?_
   have q41 := q40
   obtain ⟨_, _, rfl, rfl, ⟨_, _, rfl, ⟨l42, f43⟩, ⟨_, _, rfl, ⟨A44, c45, rfl, f46⟩, ⟨_, _, rfl, rfl, rfl⟩⟩⟩⟩ := kT26_open q41
   obtain rfl := els_lit4' f43 l42
   refine Xf 27 27 28 27 a38 ([.i ((gi x23 x25).Kind)] ++ ((U4 ((gi x23 x25).Set) []) ++ ([.slice A44 (((gi x23 x25).L).length) c45] ++ ([.i ((gi x23 x25).Min)] ++ [.i ((gi x23 x25).Max)])))) (f39.cell) ?_
   refine Oa 27 6 0 (.agg #[.i 0, .u 0, .u 0, .u 0, .u 0, .slice none 0 0, .i 0, .i 0]) [.i 0, .u 0, .u 0, .u 0, .u 0, .slice none 0 0, .i 0, .i 0] p1 Xa fun b47 w15 z15 p15 => ?_
   refine So 27 6 28 0 0 b47 0 (ag (.i ((gi x23 x25).Kind) :: U4 ((gi x23 x25).Set) [.slice A44 (((gi x23 x25).L).length) c45, .i ((gi x23 x25).Min), .i ((gi x23 x25).Max)])) (.i ((gi x23 x25).Kind) :: U4 ((gi x23 x25).Set) [.slice A44 (((gi x23 x25).L).length) c45, .i ((gi x23 x25).Min), .i ((gi x23 x25).Max)]) p15 rfl Xd fun w16 z16 p16 => ?_
   refine Gn 3 [(29, .slice (Gp Gx4) x4.length cx4)] (Zr Qnp [1, 2, 3, 4, 5] Jsx) ?_
   refine Xf 27 6 30 27 ⟨b47, 0, none⟩ (.i ((gi x23 x25).Kind) :: U4 ((gi x23 x25).Set) [.slice A44 (((gi x23 x25).L).length) c45, .i ((gi x23 x25).Min), .i ((gi x23 x25).Max)]) (p16.pa 0 0) ?_
   refine Gb h fun y49 e50 h => ?_
   refine Gc (kc 54 [30] #[27]) 31 30 54 _ (ih_gram_from (⟨(gi x23 x25).Kind, ((gi x23 x25).Set), (gi x23 x25).L, (gi x23 x25).Min, (gi x23 x25).Max⟩ : T26) y49 e50 _ _ _ p16 l42 (f46.ext (z15.t z16)) rfl) ?_
   rintro _ w17 ⟨S17, u8b, u8c, u8d, rfl, z17, p17, u8g, rfl⟩
   have p17 := p17.dp 0
   have f52 : Els kT29 S17 w17 ((vT29 y49 u8b y49.L.length u8d) : List Value) [y49] := by exact (Els.cons (K := kT29) (vs := (vT29 y49 u8b y49.L.length u8d)) (x := y49) (kT29_close ⟨[.i y49.Op], [.string y49.Text, .slice u8b y49.L.length u8d], rfl, rfl, ⟨[.string y49.Text], [.slice u8b y49.L.length u8d], rfl, rfl, ⟨_, _, rfl, u8g⟩⟩⟩) Els.nil)
   refine Om (.buildSlice 28 1 #[(0, 31)]) 32 28 (fun b => .slice (Gp (some b)) 1 1) 30 ((vT29 y49 u8b y49.L.length u8d) : List Value) (1 * kT29.size) p17 Xa fun b51 w18 z18 p18 => ?_
   refine Gg h fun g57 h => ?_
   refine On (K := kT29) 28 29 32 33 28 30 3 (.agg #[.i 0, .string ⟨#[]⟩, .slice none 0 0]) 48 x4.length cx4 1 x4 [y49] (x4 ++ [y49]) (Gp (some b51)) 1 rfl rfl rfl p18 rfl (fx4.ext (((z15.t z16).t z17).t z18)) Xa (f52.ext z18) (src_own p18 (q := 0) rfl) g57 fun w19 G58 c59 ui8 z19 p19 f61 => ?_
   refine Gm 8 [([4], .slice (Gp G58) ((x4 ++ [y49]).length) c59), ([34, 25], .i (wr .i64 (x25 + 1)))] Js5 ?_
   have p19 := p19.dp 0
   exact Gj 48 [(2, (pt gx2 0)), (4, .slice (Gp G58) ((x4 ++ [y49]).length) c59), (23, .slice u99 x23.length u9b), (24, .i x24), (25, .i (wr .i64 (x25 + 1)))] (ui7 _ _ h _ _ (((((hx.t z15).t z16).t z17).t z18).t z19) _ _ _ _ _ _ _ _ _ _ _ _ p19 (u6v.ext ((((z15.t z16).t z17).t z18).t z19)) rfl f61 rfl (u9m.ext ((((z15.t z16).t z17).t z18).t z19)) rfl)
  ·
   rw [df h35]
   refine Gn 5 [(35, .slice (Gp Gx4) x4.length cx4)] (Yt 1111010111010 B54 [1, 2] Jt1) ?_
   obtain ⟨S20, z20, p20, f62⟩ := p1.freezeRd 2 rfl fx4 (by decide)
   refine Gb h fun y63 e64 h => ?_
   refine Gc (.call { callee := .value (.func 118), args := #[(.const (.int .i64 4)), 35], argTypes := #[3, 28] }) 36 30 118 _ (W.z3i 4 x4 y63 e64 _ _ _ p20 f62 rfl) ?_
   rintro _ w21 ⟨S21, u2f, u2g, u2h, rfl, z21, p21, u2k, rfl⟩
   have p21 := p21.dp 2
   refine So 30 2 36 0 0 gx2 0 (ag (vT29 y63 u2f y63.L.length u2h)) (vT29 y63 u2f y63.L.length u2h) p21 rfl Xd fun w22 z22 p22 => ?_
   refine Gn 1 [] Jt1 ?_
   obtain rfl := sj h
   have p22 := p22.dp 1
   exact R1 Tryz.f54 (.cell 2 30) (ag (vT29 y63 u2f y63.L.length u2h)) (Rn gx2 (p22.pa 0 0)) ⟨_, _, _, _, rfl, (((hx.t z20).t z21).t z22), p22.drop, (u2k.ext z22), rfl⟩
 ·
  intro ui9 uia x0 r h nz wz S0 w0 Lr Ax0 nx0 cx0 p0 fx0 lx0
  try dsimp only at h
  subst lx0
  refine Zf Tryz.f117 B117 32 ?_
  refine Gj 33 [(0, .slice Ax0 x0.length cx0)] fun junk => ?_
  refine Gn 2 [] (Yt 10 B117 [0] (Ys 11 B117 [])) ?_
  refine Oa 30 2 0 (.agg #[.i 0, .string (⟨#[]⟩ : ByteArray), .slice none 0 0]) [.i 0, .string (⟨#[]⟩ : ByteArray), .slice none 0 0] p0 Xa fun b1 w2 z2 p2 => ?_
  refine Gn 8 [(3, .slice none 0 0)] Jrx ?_
  have p2 : Hp nz wz S0 w2 ((none, .row 30 [] (0 * kT29.size) 0) :: (some b1, .row 30 [.i 0, .string (⟨#[]⟩ : ByteArray), .slice none 0 0] 3 0) :: Lr) := p2.nilRow' 30
  have p2 : Hp nz wz S0 w2 ((none, .row 30 [] (0 * kT29.size) 0) :: (none, .row 30 [] (0 * kT29.size) 0) :: (some b1, .row 30 [.i 0, .string (⟨#[]⟩ : ByteArray), .slice (Gp none) 0 0] 3 0) :: Lr) := p2.nilRow' 30
  have p2 := ((p2.fr 0).fr 1).fr 2
  exact Gj 33 [(0, .slice Ax0 x0.length cx0), (2, (pt b1 0)), (3, .slice (Gp none) 0 0)] (uia _ _ h _ _ z2 _ _ _ _ none 0 0 [] none 0 0 [] p2 (fx0.ext z2) rfl (Els.nil (K := kT29)) rfl (Els.nil (K := kT29)) rfl)
 ·
  intro rec_gram_from uib ih_gram_from uic ⟨x0, x2v, x3⟩ r h nz wz S0 w0 Lr S1 w1 hx Ax0 nx0 cx0 gx2 u6o u6p u6q u6r Gx3 nx3 cx3 uo p1 fx0 lx0 u6v u6w fx3 lx3 junk
  try dsimp only at h
  subst lx0
  subst u6w
  subst lx3
  refine Gn 7 [(6, .slice Ax0 x0.length cx0), (7, .i (x0.length : Int)), (8, .bool (decide ((x0.length : Int) > 0)))] (Ys 11100001 B117 (Ys 1110001 B117 Jrw)) ?_
  refine Gi h (fun h8 h => ?_) fun h8 h => ?_
  ·
   rw [dt h8]
   refine Gn 6 [(10, .slice Ax0 x0.length cx0)] (Zr Qny [1, 2, 3, 4, 5, 6, 7] Jt7) ?_
   refine Gb h fun y9 e10 h => ?_
   refine Gc (kc 187 [10] #[25]) 11 297 187 _ (W.z3r x0 y9 e10 _ _ _ p1 fx0 rfl) ?_
   rintro _ w3 ⟨S3, uid, uie, uif, rfl, z3, p3, uig, rfl⟩
   refine Gn 3 [(9, .tuple #[(ag (vT218 y9.1 uid y9.1.l.length uif)), .i y9.2]), (12, (ag (vT218 y9.1 uid y9.1.l.length uif))), (13, .i y9.2)] (Zr Qny [5, 6, 7] Jt7) ?_
   refine Oa 219 4 0 (.agg #[.slice none 0 0, .bool false]) [.slice none 0 0, .bool false] p3 Xa fun b11 w4 z4 p4 => ?_
   refine So 219 4 12 0 0 b11 0 (ag (vT218 y9.1 uid y9.1.l.length uif)) (vT218 y9.1 uid y9.1.l.length uif) p4 rfl Xd fun w5 z5 p5 => ?_
   refine Gn 6 [(5, .i y9.2), (14, (pt b11 1))] (Yt 11100010100 B117 [1] Jta) ?_
   refine Xb 4 14 15 4 ⟨b11, 1, none⟩ (.bool y9.1.known) (p5.c 0 1) ?_
   refine Gn 1 [] Jta ?_
   refine Gi h (fun h13 h => ?_) fun h13 h => ?_
   ·
    rw [h13]
    have p5 : Hp nz wz S3 w5 ((some b11, .row 219 [.slice uid y9.1.l.length uif, .bool true] 2 0) :: (some gx2, .row 30 (vT29 x2v (Gp u6o) x2v.L.length u6q) 3 0) :: (u6o, .row 30 u6r (u6q * kT29.size) 0) :: (Gx3, .row 30 uo (cx3 * kT29.size) 0) :: Lr) := by simp only [vT26, vT134, vT370, vT218, vT29, vT174, h13] at p5; exact p5
    refine Gn 3 [(16, .slice (Gp Gx3) x3.length cx3)] (Yt 111000101010 B117 [1, 2, 3, 4, 5] Jrz) ?_
    refine Xf 219 4 17 219 ⟨b11, 0, none⟩ [.slice uid y9.1.l.length uif, .bool true] (p5.pa 0 0) ?_
    refine Gb h fun y14 e15 h => ?_
    refine Gc (kc 116 [17] #[219]) 18 30 116 _ (W.z3m (⟨y9.1.l, true⟩ : T218) y14 e15 _ _ _ p5 (uig.ext (z4.t z5)) rfl) ?_
    rintro _ w6 ⟨S6, u6x, u6y, u6z, rfl, z6, p6, u71, rfl⟩
    have p6 := p6.dp 0
    have f17 : Els kT29 S6 w6 ((vT29 y14 u6x y14.L.length u6z) : List Value) [y14] := by exact (Els.cons (K := kT29) (vs := (vT29 y14 u6x y14.L.length u6z)) (x := y14) (kT29_close ⟨[.i y14.Op], [.string y14.Text, .slice u6x y14.L.length u6z], rfl, rfl, ⟨[.string y14.Text], [.slice u6x y14.L.length u6z], rfl, rfl, ⟨_, _, rfl, u71⟩⟩⟩) Els.nil)
    refine Om (.buildSlice 28 1 #[(0, 18)]) 19 28 (fun b => .slice (Gp (some b)) 1 1) 30 ((vT29 y14 u6x y14.L.length u6z) : List Value) (1 * kT29.size) p6 Xa fun b16 w7 z7 p7 => ?_
    refine Gg h fun g22 h => ?_
    refine On (K := kT29) 28 16 19 20 28 30 3 (.agg #[.i 0, .string ⟨#[]⟩, .slice none 0 0]) 48 x3.length cx3 1 x3 [y14] (x3 ++ [y14]) (Gp (some b16)) 1 rfl rfl rfl p7 rfl (fx3.ext ((((z3.t z4).t z5).t z6).t z7)) Xa (f17.ext z7) (src_own p7 (q := 0) rfl) g22 fun w8 G23 c24 uih z8 p8 f26 => ?_
    refine Gn 2 [(3, .slice (Gp G23) ((x3 ++ [y14]).length) c24)] Jrz ?_
    have p8 := p8.dp 0
    exact Gj 33 [(0, .slice Ax0 x0.length cx0), (2, (pt gx2 0)), (3, .slice (Gp G23) ((x3 ++ [y14]).length) c24), (5, .i y9.2)] (uic _ _ h _ _ ((((((hx.t z3).t z4).t z5).t z6).t z7).t z8) _ _ _ _ _ _ _ _ _ _ _ _ p8 (fx0.ext (((((z3.t z4).t z5).t z6).t z7).t z8)) rfl (u6v.ext (((((z3.t z4).t z5).t z6).t z7).t z8)) rfl f26 rfl)
   ·
    have u67 := bf h13
    rw [u67]
    have p5 : Hp nz wz S3 w5 ((some b11, .row 219 [.slice uid y9.1.l.length uif, .bool false] 2 0) :: (some gx2, .row 30 (vT29 x2v (Gp u6o) x2v.L.length u6q) 3 0) :: (u6o, .row 30 u6r (u6q * kT29.size) 0) :: (Gx3, .row 30 uo (cx3 * kT29.size) 0) :: Lr) := by simp only [vT26, vT134, vT370, vT218, vT29, vT174, u67] at p5; exact p5
    refine Gn 4 [(21, .slice (Gp Gx3) x3.length cx3), (22, .slice Ax0 x0.length cx0)] (Yt 111000101011 B117 [2, 3, 4, 5, 6, 7] Jrz) ?_
    refine Gg h fun g30 h => ?_
    refine Oi 25 22 (.const (.int .i64 0)) 23 0 27 .i64 0 (gi x0 0) rfl rfl (fx0.ext ((z3.t z4).t z5)) Xa (by decide : (0 : Int) ≤ 0) g30 fun a31 _ f32 q33 => ?_
    have q34 := q33
    obtain ⟨_, _, rfl, rfl, ⟨_, _, rfl, ⟨l35, f36⟩, ⟨_, _, rfl, ⟨A37, c38, rfl, f39⟩, ⟨_, _, rfl, rfl, rfl⟩⟩⟩⟩ := kT26_open q34
    obtain rfl := els_lit4' f36 l35
    refine Xf 27 23 24 27 a31 ([.i ((gi x0 0).Kind)] ++ ((U4 ((gi x0 0).Set) []) ++ ([.slice A37 (((gi x0 0).L).length) c38] ++ ([.i ((gi x0 0).Min)] ++ [.i ((gi x0 0).Max)])))) (f32.cell) ?_
    refine Gb h fun y40 e41 h => ?_
    refine Gc (kc 54 [24] #[27]) 25 30 54 _ (ih_gram_from (⟨(gi x0 0).Kind, ((gi x0 0).Set), (gi x0 0).L, (gi x0 0).Min, (gi x0 0).Max⟩ : T26) y40 e41 _ _ _ p5 l35 f39 rfl) ?_
    rintro _ w9 ⟨S9, u6h, u6i, u6j, rfl, z9, p9, u6m, rfl⟩
    have p9 := p9.dp 0
    have f43 : Els kT29 S9 w9 ((vT29 y40 u6h y40.L.length u6j) : List Value) [y40] := by exact (Els.cons (K := kT29) (vs := (vT29 y40 u6h y40.L.length u6j)) (x := y40) (kT29_close ⟨[.i y40.Op], [.string y40.Text, .slice u6h y40.L.length u6j], rfl, rfl, ⟨[.string y40.Text], [.slice u6h y40.L.length u6j], rfl, rfl, ⟨_, _, rfl, u6m⟩⟩⟩) Els.nil)
    refine Om (.buildSlice 28 1 #[(0, 25)]) 26 28 (fun b => .slice (Gp (some b)) 1 1) 30 ((vT29 y40 u6h y40.L.length u6j) : List Value) (1 * kT29.size) p9 Xa fun b42 w10 z10 p10 => ?_
    refine Gg h fun g48 h => ?_
    refine On (K := kT29) 28 21 26 27 28 30 3 (.agg #[.i 0, .string ⟨#[]⟩, .slice none 0 0]) 48 x3.length cx3 1 x3 [y40] (x3 ++ [y40]) (Gp (some b42)) 1 rfl rfl rfl p10 rfl (fx3.ext ((((z3.t z4).t z5).t z9).t z10)) Xa (f43.ext z10) (src_own p10 (q := 0) rfl) g48 fun w11 G49 c50 uii z11 p11 f52 => ?_
    refine Gn 2 [(3, .slice (Gp G49) ((x3 ++ [y40]).length) c50)] Jrz ?_
    have p11 := p11.dp 0
    exact Gj 33 [(0, .slice Ax0 x0.length cx0), (2, (pt gx2 0)), (3, .slice (Gp G49) ((x3 ++ [y40]).length) c50), (5, .i y9.2)] (uic _ _ h _ _ ((((((hx.t z3).t z4).t z5).t z9).t z10).t z11) _ _ _ _ _ _ _ _ _ _ _ _ p11 (fx0.ext (((((z3.t z4).t z5).t z9).t z10).t z11)) rfl (u6v.ext (((((z3.t z4).t z5).t z9).t z10).t z11)) rfl f52 rfl)
  ·
   rw [df h8]
   refine Gn 5 [(31, .slice (Gp Gx3) x3.length cx3)] (Yt 11110 B117 [1, 2] Jte) ?_
   obtain ⟨S12, z12, p12, f53⟩ := p1.freezeRd 2 rfl fx3 (by decide)
   refine Gb h fun y54 e55 h => ?_
   refine Gc (.call { callee := .value (.func 118), args := #[(.const (.int .i64 3)), 31], argTypes := #[3, 28] }) 32 30 118 _ (W.z3i 3 x3 y54 e55 _ _ _ p12 f53 rfl) ?_
   rintro _ w13 ⟨S13, uij, uik, uil, rfl, z13, p13, uim, rfl⟩
   have p13 := p13.dp 2
   refine So 30 2 32 0 0 gx2 0 (ag (vT29 y54 uij y54.L.length uil)) (vT29 y54 uij y54.L.length uil) p13 rfl Xd fun w14 z14 p14 => ?_
   refine Gn 1 [] Jte ?_
   obtain rfl := sj h
   have p14 := p14.dp 1
   exact R1 Tryz.f117 (.cell 2 30) (ag (vT29 y54 uij y54.L.length uil)) (Rn gx2 (p14.pa 0 0)) ⟨_, _, _, _, rfl, (((hx.t z12).t z13).t z14), p14.drop, (uim.ext z14), rfl⟩
 ·
  intro ui9 uia ⟨x0, x2v, x3, x5⟩ r h nz wz S0 w0 Lr S1 w1 hx Ax0 nx0 cx0 gx2 u6o u6p u6q u6r Gx3 nx3 cx3 uo p1 fx0 lx0 u6v u6w fx3 lx3 junk
  try dsimp only at h
  subst lx0
  subst u6w
  subst lx3
  refine Gn 3 [(28, .slice Ax0 x0.length cx0), (29, .i x5)] (Zr Qmu [2, 3] Jry) ?_
  refine Gg h fun g56 h => ?_
  refine Gg h fun g57 h => ?_
  refine Op_.slR_n 25 28 (some 29) none 30 25 27 x5 (x0.length : Int) (sl x0 x5 (x0.length : Int)) rfl rfl fx0 Xa (by kernel_rfl) (by kernel_rfl) (by kernel_rfl) (Bnd.at_ .i64 (by kernel_rfl)) Bnd.no g56 g57 (Int.le_refl _) fun A58 c59 f60 => ?_
  refine Gn 4 [(0, .slice A58 ((sl x0 x5 (x0.length : Int)).length) c59)] Jrx ?_
  exact Gj 33 [(0, .slice A58 ((sl x0 x5 (x0.length : Int)).length) c59), (2, (pt gx2 0)), (3, .slice (Gp Gx3) x3.length cx3)] (uia _ _ h _ _ hx _ _ _ _ _ _ _ _ _ _ _ _ p1 f60 rfl u6v rfl fx3 rfl)
theorem W.z3w : ∀ a r, M.a5 a = some r → LF.z3w a r := (W.z41).1
theorem W.z40 : ∀ a r, M.a18 a = some r → LL.z40 a r := (W.z41).2.1
theorem W.z3x : ∀ a r, M.a3b a = some r → LF.z3x a r := (W.z41).2.2.1
theorem W.z3y : ∀ a r, M.an a = some r → LL.z3y a r := (W.z41).2.2.2.1
theorem W.z3z : ∀ a r, M.a1p a = some r → LL.z3z a r := (W.z41).2.2.2.2
def Jtj := Ys 111 B13 []
def Jtk := Ys 1101 B13 Jtj
def Jtm := Ys 1111 B13 []
def Jto := Ys 110101 B13 Jtj
def Post.z42 (r : T29 × Int) (v : Value) (w' : World) : Prop :=
 ∃ S' u8p u8q u8r, v = .tuple #[(ag (vT29 r.1 u8p u8q u8r)), .i r.2] ∧ Ext S0 w0 S' w' ∧ Hp nz wz S' w' (Lr) ∧ Rd kT29 S' w' u8p u8r r.1.L ∧ r.1.L.length = u8q
theorem W.z42 (x0 : T26) (r : T29 × Int) (h : M.a19 x0 = some r) {nz wz S0 w0 Lr} (u92 u93 u94) (p0 : Hp nz wz S0 w0 (Lr)) (u9e : x0.Set.length = 4) (u9f : Rd kT26 S0 w0 u92 u94 x0.L) (u9g : x0.L.length = u93) :
  Calls Tg 13 #[(ag (vT26 x0 u92 u93 u94))] w0 (Rets (Post.z42 nz wz S0 w0 Lr r)) := by
 subst u9g
 refine Zf Tryz.f13 B13 9 ?_
 refine Gj 10 [(0, (ag (vT26 x0 u92 x0.L.length u94)))] fun junk => ?_
 delta M.a19 at h
 refine Gn 2 [] (Yt 10 B13 [0, 1, 2] (Ys 11 B13 [])) ?_
 refine Ob 27 0 1 0 (ag (vT26 x0 u92 x0.L.length u94)) (vT26 x0 u92 x0.L.length u94) p0 Xa fun b1 w2 z2 p2 => ?_
 refine Oa 30 2 0 (.agg #[.i 0, .string (⟨#[]⟩ : ByteArray), .slice none 0 0]) [.i 0, .string (⟨#[]⟩ : ByteArray), .slice none 0 0] p2 Xa fun b3 w3 z3 p3 => ?_
 refine Gn 5 [(3, .i 0)] (Yt 1100 B13 [0, 1, 2] Jtk) ?_
 refine Xf 27 1 4 27 ⟨b1, 0, none⟩ (vT26 x0 u92 x0.L.length u94) (p3.pa 1 0) ?_
 refine Gb h fun y5 e6 h => ?_
 refine Gc (kc 53 [4] #[27]) 5 4 53 _ (W.z1z x0 y5 e6 _ _ _ p3 u9e (u9f.ext (z2.t z3)) rfl) ?_
 rintro _ w4 ⟨S4, rfl, z4, p4⟩
 refine Gn 2 [(6, .bool (!y5))] Jtk ?_
 refine Gi h (fun h7 h => ?_) fun h7 h => ?_
 ·
  rw [h7]
  refine Gn 4 [] (Yt 1110 B13 [0, 1, 2, 3] Jtm) ?_
  refine Xf 27 1 8 27 ⟨b1, 0, none⟩ (vT26 x0 u92 x0.L.length u94) (p4.pa 1 0) ?_
  refine Gb h fun y8 e9 h => ?_
  refine Gc (kc 54 [8] #[27]) 9 30 54 _ (W.z3w x0 y8 e9 _ _ _ p4 u9e (u9f.ext ((z2.t z3).t z4)) rfl) ?_
  rintro _ w5 ⟨S5, u7r, u7s, u7t, rfl, z5, p5, u7v, rfl⟩
  have p5 := p5.dp 1
  refine So 30 2 9 0 0 b3 0 (ag (vT29 y8 u7r y8.L.length u7t)) (vT29 y8 u7r y8.L.length u7t) p5 rfl Xd fun w6 z6 p6 => ?_
  refine Gn 2 [(3, .i 0)] Jtm ?_
  obtain rfl := sj h
  exact R2 Tryz.f13 (.cell 2 30) 3 (.tuple #[(ag (vT29 y8 u7r y8.L.length u7t)), .i 0]) (Rn b3 (p6.pa 0 0)) Rt ⟨_, _, _, _, rfl, ((((z2.t z3).t z4).t z5).t z6), p6.drop, (u7v.ext z6), rfl⟩
 ·
  rw [bf h7]
  refine Gn 4 [(7, .agg #[.i 0, .string (⟨#[]⟩ : ByteArray), .slice none 0 0])] (Yt 110100 B13 [1, 2] Jto) ?_
  refine So 30 2 7 0 0 b3 0 (.agg #[.i 0, .string (⟨#[]⟩ : ByteArray), .slice none 0 0]) [.i 0, .string (⟨#[]⟩ : ByteArray), .slice none 0 0] p4 rfl Xd fun w7 z7 p7 => ?_
  refine Gn 2 [(3, .i 2)] Jto ?_
  obtain rfl := sj h
  have p7 := p7.dp 1
  exact R2 Tryz.f13 (.cell 2 30) 3 (.tuple #[.agg #[.i 0, .string (⟨#[]⟩ : ByteArray), .slice none 0 0], .i 2]) (Rn b3 (p7.pa 0 0)) Rt ⟨_, _, _, _, rfl, (((z2.t z3).t z4).t z7), p7.drop, Xq, rfl⟩
def Jtq := Ys 1111 B61 []
def Jtr := Ys 11101 B61 Jtq
def Jts := Ys 11111 B61 []
def Qoh := Yq 11110100 B61
def Jtu := Zl Qoh (Zb 0 Jts)
def Jtv := Zc Qoh Jtu
def Jty := Ys 111 B61 []
def Qol := Yq 110 B61
def Qom := Yq 11100 B61
def Ju9 := Zb 1 (Ys 11110100111 B61 Jtu)
def Juc := Ys 11110100110011 B61 Ju9
def Qow := Yq 11110100110010 B61
def Post.z43 (gx2 : Nat) (r : Bool × Int) (v : Value) (w' : World) : Prop :=
 ∃ S', v = .bool r.1 ∧ Ext S0 w0 S' w' ∧ Hp nz wz S' w' ((some gx2, .row 3 [.i r.2] 1 0) :: Lr)
def LF.z43 : T29 × Int × Int → (Bool × Int) → Prop := fun ⟨x0, x1, ua⟩ r => ∀ {nz wz S0 w0 Lr} u92 u93 u94 gx2 (_ : Hp nz wz S0 w0 ((some gx2, .row 3 [.i ua] 1 0) :: Lr)) (_ : Rd kT29 S0 w0 u92 u94 x0.L) (_ : x0.L.length = u93),
 Calls Tg 61 #[(ag (vT29 x0 u92 u93 u94)), .i x1, (pt gx2 0)] w0 (Rets (Post.z43 nz wz S0 w0 Lr gx2 r))
def L.z44 (gx2 : Nat) : Int × T29 × Bool × Int → (Bool × Int) → Prop := fun ⟨x1, x3v, x21, u95⟩ r => ∀ S1 w1, Ext S0 w0 S1 w1 → ∀ gx3 u96 u97 u98 (_ : Hp nz wz S1 w1 ((some gx3, .row 30 (vT29 x3v u96 u97 u98) 3 0) :: (some gx2, .row 3 [.i u95] 1 0) :: Lr)) (_ : Rd kT29 S1 w1 u96 u98 x3v.L) (_ : x3v.L.length = u97) (junk : Nat → Value),
 Goes Tg (base 61) Jtr ⟨lfr 36 [(1, .i x1), (2, (pt gx2 0)), (3, (pt gx3 0)), (21, .bool x21)] junk, []⟩ w1 (Done Tg 61 (Rets (Post.z43 nz wz S0 w0 Lr gx2 r)))
def LL.z44 : Int × T29 × Bool × Int → (Bool × Int) → Prop := fun a r => ∀ {nz wz S0 w0 Lr} (gx2 : Nat), L.z44 nz wz S0 w0 Lr gx2 a r
def L.z45 (gx2 : Nat) : Int × (List T29) × Int × Int × Int → (Bool × Int) → Prop := fun ⟨x1, x23, x24, x25, u95⟩ r => ∀ S1 w1, Ext S0 w0 S1 w1 → ∀ u99 u9a u9b (_ : Hp nz wz S1 w1 ((some gx2, .row 3 [.i u95] 1 0) :: Lr)) (_ : Rd kT29 S1 w1 u99 u9b x23) (_ : x23.length = u9a) (junk : Nat → Value),
 Goes Tg (base 61) Jtv ⟨lfr 36 [(1, .i x1), (2, (pt gx2 0)), (23, .slice u99 u9a u9b), (24, .i x24), (25, .i x25)] junk, []⟩ w1 (Done Tg 61 (Rets (Post.z43 nz wz S0 w0 Lr gx2 r)))
def LL.z45 : Int × (List T29) × Int × Int × Int → (Bool × Int) → Prop := fun a r => ∀ {nz wz S0 w0 Lr} (gx2 : Nat), L.z45 nz wz S0 w0 Lr gx2 a r
theorem W.z46 : (∀ a r, M.af a = some r → LF.z43 a r) ∧ (∀ a r, M.a1q a = some r → LL.z44 a r) ∧ (∀ a r, M.a1a a = some r → LL.z45 a r) := by
 refine M.af.mutual_partial_correctness LF.z43 LL.z44 LL.z45 ?_ ?_ ?_
 ·
  intro uin uio ⟨x0, x1, ua⟩ r h nz wz S0 w0 Lr u92 u93 u94 gx2 p0 u9f u9g
  try dsimp only at h
  subst u9g
  refine Zf Tryz.f61 B61 33 ?_
  refine Gj 36 [(0, (ag (vT29 x0 u92 x0.L.length u94))), (1, .i x1), (2, (pt gx2 0))] fun junk => ?_
  refine Gn 2 [] (Yt 10 B61 [0, 1] (Ys 11 B61 [])) ?_
  refine Ob 30 0 3 0 (ag (vT29 x0 u92 x0.L.length u94)) (vT29 x0 u92 x0.L.length u94) p0 Xa fun b2 w2 z2 p2 => ?_
  refine Gm 6 [([6], .bool false), ([9, 10], (pt gx2 0))] (Zr Qol [2, 3, 4, 5] Jty) ?_
  refine Xb 3 10 11 3 ⟨gx2, 0, none⟩ (.i ua) (p2.c 1 0) ?_
  refine Gn 2 [(12, .i (wr .i64 (ua + 1))), (13, (pt gx2 0))] (Zr Qol [5] Jty) ?_
  refine So 3 13 12 0 1 gx2 0 (.i (wr .i64 (ua + 1))) [.i (wr .i64 (ua + 1))] p2 rfl Xd fun w3 z3 p3 => ?_
  refine Gm 7 [([14], .i x1), ([15, 16], .bool (decide (x1 = 0)))] (Zr Qom [3, 4, 5, 6, 7] Jtr) ?_
  refine Gi h (fun h4 h => ?_) fun h4 h => ?_
  ·
   rw [dt h4]
   refine Gm 6 [([17, 18, 19, 20], undef), ([21], .bool true)] Jtr ?_
   exact Gj 36 [(1, .i x1), (2, (pt gx2 0)), (3, (pt b2 0)), (21, .bool true)] (uio _ _ h gx2 _ _ (z2.t z3) _ _ _ _ p3 (u9f.ext (z2.t z3)) rfl)
  ·
   rw [df h4]
   refine Gm 2 [([17, 18], (pt gx2 0))] (Zr Qom [5, 6, 7] Jtr) ?_
   refine Xb 3 18 19 3 ⟨gx2, 0, none⟩ (.i (wr .i64 (ua + 1))) (p3.c 1 0) ?_
   refine Gm 3 [([20, 21], .bool (decide (wr .i64 (ua + 1) > 4096)))] Jtr ?_
   exact Gj 36 [(1, .i x1), (2, (pt gx2 0)), (3, (pt b2 0)), (21, .bool (decide (wr .i64 (ua + 1) > 4096)))] (uio _ _ h gx2 _ _ (z2.t z3) _ _ _ _ p3 (u9f.ext (z2.t z3)) rfl)
 ·
  intro uip uiq ⟨x1, x3v, x21, u95⟩ r h nz wz S0 w0 Lr gx2 S1 w1 hx gx3 u96 u97 u98 p1 u9k u9l junk
  try dsimp only at h
  subst u9l
  refine Gi h (fun h6 h => ?_) fun h6 h => ?_
  ·
   rw [h6]
   refine Gn 5 [(6, .bool false)] (Ys 1110101 B61 Jtq) ?_
   obtain rfl := sj h
   have p1 := p1.dp 0
   exact Xc Tryz.f61 (.bool false) ⟨_, rfl, hx, p1⟩
  ·
   rw [bf h6]
   refine Gn 6 [(22, (pt gx3 2))] (Yt 111100 B61 [1, 2, 3] (Ys 111101 B61 Jts)) ?_
   refine Xb 28 22 23 28 ⟨gx3, 2, none⟩ (.slice u96 x3v.L.length u98) (p1.c 0 2) ?_
   refine Gn 5 [(24, .i (x3v.L.length : Int)), (25, .i 0)] Jtv ?_
   have p1 := p1.dp 0
   exact Gj 36 [(1, .i x1), (2, (pt gx2 0)), (23, .slice u96 x3v.L.length u98), (24, .i (x3v.L.length : Int)), (25, .i 0)] (uiq _ _ h gx2 _ _ hx _ _ _ p1 u9k rfl)
 ·
  intro rec_gram_Query_count uip ih_gram_Query_count uiq ⟨x1, x23, x24, x25, u95⟩ r h nz wz S0 w0 Lr gx2 S1 w1 hx u99 u9a u9b p1 u9m u9n junk
  try dsimp only at h
  subst u9n
  refine Gn 5 [(26, .bool (decide (x25 < x24)))] (Ys 1111010010 B61 (Ys 1111010011 B61 Jtu)) ?_
  refine Gi h (fun h7 h => ?_) fun h7 h => ?_
  ·
   rw [dt h7]
   refine Gn 6 [] (Yt 1111010011000 B61 [0, 1, 2, 3] (Ys 1111010011001 B61 Ju9)) ?_
   refine Gg h fun g8 h => ?_
   refine Gg h fun g9 h => ?_
   refine Oi 28 23 25 27 0 30 .i64 x25 (gi x23 x25) rfl rfl u9m Xa g8 g9 fun a10 _ f11 q12 => ?_
   have q13 := q12
   obtain ⟨_, _, rfl, rfl, ⟨_, _, rfl, rfl, ⟨A14, c15, rfl, f16⟩⟩⟩ := kT29_open q13
   refine Xf 30 27 28 30 a10 ([.i ((gi x23 x25).Op)] ++ ([.string ((gi x23 x25).Text)] ++ [.slice A14 (((gi x23 x25).L).length) c15])) (f11.cell) ?_
   refine Oa 30 8 0 (.agg #[.i 0, .string (⟨#[]⟩ : ByteArray), .slice none 0 0]) [.i 0, .string (⟨#[]⟩ : ByteArray), .slice none 0 0] p1 Xa fun b17 w4 z4 p4 => ?_
   refine So 30 8 28 0 0 b17 0 ((ag (vT29 (gi x23 x25) A14 (((gi x23 x25).L).length) c15))) (vT29 (gi x23 x25) A14 (((gi x23 x25).L).length) c15) p4 rfl Xd fun w5 z5 p5 => ?_
   refine Gn 3 [] (Zr Qow [0, 1, 2, 3, 4, 5] Juc) ?_
   refine Xf 30 8 29 30 ⟨b17, 0, none⟩ (vT29 (gi x23 x25) A14 (((gi x23 x25).L).length) c15) (p5.pa 0 0) ?_
   refine Gn 3 [(30, .i x1), (31, .i (wr .i64 (x1 - 1))), (32, (pt gx2 0))] (Zr Qow [4, 5] Juc) ?_
   have p5 := p5.fr 1
   refine Gb h fun y19 e20 h => ?_
   refine Gc (kc 61 [29, 31, 32] #[30, 3, 33]) 33 4 61 _ (ih_gram_Query_count (gi x23 x25, wr .i64 (x1 - 1), u95) y19 e20 _ _ _ _ p5 (f16.ext (z4.t z5)) rfl) ?_
   rintro _ w6 ⟨S6, rfl, z6, p6⟩
   have p6 := p6.dp 1
   refine Gn 2 [(34, .bool (!y19.1))] Juc ?_
   refine Gi h (fun h21 h => ?_) fun h21 h => ?_
   ·
    rw [h21]
    refine Gm 8 [([35, 25], .i (wr .i64 (x25 + 1)))] Jtv ?_
    exact Gj 36 [(1, .i x1), (2, (pt gx2 0)), (23, .slice u99 x23.length u9b), (24, .i x24), (25, .i (wr .i64 (x25 + 1)))] (uiq _ _ h gx2 _ _ (((hx.t z4).t z5).t z6) _ _ _ p6 (u9m.ext ((z4.t z5).t z6)) rfl)
   ·
    rw [bf h21]
    refine Gn 5 [(6, .bool false)] (Ys 1111010011001101 B61 Ju9) ?_
    obtain rfl := sj h
    exact Xc Tryz.f61 (.bool false) ⟨_, rfl, (((hx.t z4).t z5).t z6), p6⟩
  ·
   rw [df h7]
   refine Gn 6 [(6, .bool true)] (Ys 111111 B61 []) ?_
   obtain rfl := sj h
   exact Xc Tryz.f61 (.bool true) ⟨_, rfl, hx, p1⟩
theorem W.z43 : ∀ a r, M.af a = some r → LF.z43 a r := (W.z46).1
theorem W.z44 : ∀ a r, M.a1q a = some r → LL.z44 a r := (W.z46).2.1
theorem W.z45 : ∀ a r, M.a1a a = some r → LL.z45 a r := (W.z46).2.2
def Juh := Ys 111 B62 []
def Jui := Zb 0 Juh
def Juj := Ys 110101 B62 Jui
def Juk := Ys 1101011111 B62 Jui
def Juq := Ys 11010101 B62 Jui
def Qp8 := Yq 11010100 B62
def Juv := Ys 1101011101 B62 Jui
def Qpb := Yq 1101011100 B62
def Jv0 := Ys 110101111101 B62 Jui
def Qpe := Yq 110101111100 B62
def Jv7 := Ys 111 B129 []
def Post.z47 (r : Bool) (v : Value) (w' : World) : Prop :=
 ∃ S', v = .bool r ∧ Ext S0 w0 S' w' ∧ Hp nz wz S' w' (Lr)
def Post.z48 (r : Bool) (v : Value) (w' : World) : Prop :=
 ∃ S', v = .bool r ∧ Ext S0 w0 S' w' ∧ Hp nz wz S' w' (Lr)
def Post.z49 (r : Int) (v : Value) (w' : World) : Prop :=
 ∃ S', v = .i r ∧ Ext S0 w0 S' w' ∧ Hp nz wz S' w' (Lr)
def Post.z4a (r : Bool) (v : Value) (w' : World) : Prop :=
 ∃ S', v = .bool r ∧ Ext S0 w0 S' w' ∧ Hp nz wz S' w' (Lr)
def LF.z47 : T29 → Bool → Prop := fun x0 r => ∀ {nz wz S0 w0 Lr} u92 u93 u94 (_ : Hp nz wz S0 w0 (Lr)) (_ : Rd kT29 S0 w0 u92 u94 x0.L) (_ : x0.L.length = u93),
 Calls Tg 62 #[(ag (vT29 x0 u92 u93 u94))] w0 (Rets (Post.z47 nz wz S0 w0 Lr r))
def L.z4b : T29 × Int × Bool → Bool → Prop := fun ⟨x1v, x4, x5⟩ r => ∀ S1 w1, Ext S0 w0 S1 w1 → ∀ gx1 u9p u9q u9r (_ : Hp nz wz S1 w1 ((some gx1, .row 30 (vT29 x1v u9p u9q u9r) 3 0) :: Lr)) (_ : Rd kT29 S1 w1 u9p u9r x1v.L) (_ : x1v.L.length = u9q) (junk : Nat → Value),
 Goes Tg (base 62) Juj ⟨lfr 41 [(1, (pt gx1 0)), (4, .i x4), (5, .bool x5)] junk, []⟩ w1 (Done Tg 62 (Rets (Post.z47 nz wz S0 w0 Lr r)))
def LL.z4b : T29 × Int × Bool → Bool → Prop := fun a r => ∀ {nz wz S0 w0 Lr}, L.z4b nz wz S0 w0 Lr a r
def L.z4c : T29 × Bool → Bool → Prop := fun ⟨x1v, x29⟩ r => ∀ S1 w1, Ext S0 w0 S1 w1 → ∀ gx1 u9p u9q u9r (_ : Hp nz wz S1 w1 ((some gx1, .row 30 (vT29 x1v u9p u9q u9r) 3 0) :: Lr)) (_ : Rd kT29 S1 w1 u9p u9r x1v.L) (_ : x1v.L.length = u9q) (junk : Nat → Value),
 Goes Tg (base 62) Juk ⟨lfr 41 [(1, (pt gx1 0)), (29, .bool x29)] junk, []⟩ w1 (Done Tg 62 (Rets (Post.z47 nz wz S0 w0 Lr r)))
def LL.z4c : T29 × Bool → Bool → Prop := fun a r => ∀ {nz wz S0 w0 Lr}, L.z4c nz wz S0 w0 Lr a r
def LF.z48 : (List T29) → Bool → Prop := fun x0 r => ∀ {nz wz S0 w0 Lr} Ax0 nx0 cx0 (_ : Hp nz wz S0 w0 (Lr)) (_ : Rd kT29 S0 w0 Ax0 cx0 x0) (_ : x0.length = nx0),
 Calls Tg 128 #[.slice Ax0 nx0 cx0, .func (.func 129) #[] #[]] w0 (Rets (Post.z48 nz wz S0 w0 Lr r))
def LF.z49 : (List T29) → Int → Prop := fun x0 r => ∀ {nz wz S0 w0 Lr} Ax0 nx0 cx0 (_ : Hp nz wz S0 w0 (Lr)) (_ : Rd kT29 S0 w0 Ax0 cx0 x0) (_ : x0.length = nx0),
 Calls Tg 195 #[.slice Ax0 nx0 cx0, .func (.func 129) #[] #[]] w0 (Rets (Post.z49 nz wz S0 w0 Lr r))
def L.z4d : (List T29) × Int × Int → Int → Prop := fun ⟨x0, x7, x8⟩ r => ∀ S1 w1, Ext S0 w0 S1 w1 → ∀ Ax0 nx0 cx0 (_ : Hp nz wz S1 w1 (Lr)) (_ : Rd kT29 S1 w1 Ax0 cx0 x0) (_ : x0.length = nx0) (junk : Nat → Value),
 Goes Tg (base 195) Joj ⟨lfr 19 [(0, .slice Ax0 nx0 cx0), (1, .func (.func 129) #[] #[]), (7, .i x7), (8, .i x8)] junk, []⟩ w1 (Done Tg 195 (Rets (Post.z49 nz wz S0 w0 Lr r)))
def LL.z4d : (List T29) × Int × Int → Int → Prop := fun a r => ∀ {nz wz S0 w0 Lr}, L.z4d nz wz S0 w0 Lr a r
def LF.z4a : T29 → Bool → Prop := fun x0 r => ∀ {nz wz S0 w0 Lr} u92 u93 u94 (_ : Hp nz wz S0 w0 (Lr)) (_ : Rd kT29 S0 w0 u92 u94 x0.L) (_ : x0.L.length = u93),
 Calls Tg 129 #[(ag (vT29 x0 u92 u93 u94))] w0 (Rets (Post.z4a nz wz S0 w0 Lr r))
theorem W.z4e : (∀ a r, M.a1b a = some r → LF.z47 a r) ∧ (∀ a r, M.ao a = some r → LL.z4b a r) ∧ (∀ a r, M.ap a = some r → LL.z4c a r) ∧ (∀ a r, M.a3c a = some r → LF.z48 a r) ∧ (∀ a r, M.a3d a = some r → LF.z49 a r) ∧ (∀ a r, M.a1c a = some r → LL.z4d a r) ∧ (∀ a r, M.a3e a = some r → LF.z4a a r) := by
 refine M.a1b.mutual_partial_correctness LF.z47 LL.z4b LL.z4c LF.z48 LF.z49 LL.z4d LF.z4a ?_ ?_ ?_ ?_ ?_ ?_ ?_
 ·
  intro uir uis x0 r h nz wz S0 w0 Lr u92 u93 u94 p0 u9f u9g
  try dsimp only at h
  subst u9g
  refine Zf Tryz.f62 B62 40 ?_
  refine Gj 41 [(0, (ag (vT29 x0 u92 x0.L.length u94)))] fun junk => ?_
  refine Gn 2 [] (Yt 10 B62 [0, 1] (Ys 11 B62 [])) ?_
  refine Ob 30 0 1 0 (ag (vT29 x0 u92 x0.L.length u94)) (vT29 x0 u92 x0.L.length u94) p0 Xa fun b1 w2 z2 p2 => ?_
  refine Gn 6 [(2, .bool false), (3, (pt b1 0))] (Yt 1100 B62 [1] (Ys 1101 B62 Juh)) ?_
  refine Xb 3 3 4 3 ⟨b1, 0, none⟩ (.i x0.Op) (p2.c 0 0) ?_
  refine Gm 8 [([6, 5], .bool (decide (x0.Op = 0)))] (Ys 1101001 B62 Juj) ?_
  refine Gi h (fun h3 h => ?_) fun h3 h => ?_
  ·
   rw [dt h3]
   refine Gn 2 [] Juj ?_
   exact Gj 41 [(1, (pt b1 0)), (4, .i x0.Op), (5, .bool true)] (uis _ _ h _ _ z2 _ _ _ _ p2 (u9f.ext z2) rfl)
  ·
   rw [df h3]
   refine Gm 5 [([7, 5], .bool (decide (x0.Op = 1)))] Juj ?_
   exact Gj 41 [(1, (pt b1 0)), (4, .i x0.Op), (5, .bool (decide (x0.Op = 1)))] (uis _ _ h _ _ z2 _ _ _ _ p2 (u9f.ext z2) rfl)
 ·
  intro uit uiu ⟨x1v, x4, x5⟩ r h nz wz S0 w0 Lr S1 w1 hx gx1 u9p u9q u9r p1 u9t u9u junk
  try dsimp only at h
  subst u9u
  refine Gi h (fun h5 h => ?_) fun h5 h => ?_
  ·
   rw [h5]
   refine Gn 4 [(8, (pt gx1 1))] (Zr Qp8 [1, 2, 3, 4, 5, 6, 7, 8, 9] Juq) ?_
   refine Xb 9 8 9 9 ⟨gx1, 1, none⟩ (.string x1v.Text) (p1.c 0 1) ?_
   refine Gm 2 [([10, 11], .bool (x1v.Text.toList == (⟨#[]⟩ : ByteArray).toList))] (Zr Qp8 [4, 5, 6, 7, 8, 9] Juq) ?_
   refine Gi h (fun h6 h => ?_) fun h6 h => ?_
   ·
    rw [h6]
    refine Gn 1 [(12, (pt gx1 2))] (Zr Qp8 [5, 6, 7, 8, 9] Juq) ?_
    refine Xb 28 12 13 28 ⟨gx1, 2, none⟩ (.slice u9p x1v.L.length u9r) (p1.c 0 2) ?_
    refine Gm 5 [([14], .i (x1v.L.length : Int)), ([15, 16, 2], .bool (decide ((x1v.L.length : Int) = 0)))] Juq ?_
    obtain rfl := sj h
    have p1 := p1.dp 0
    exact Xc Tryz.f62 (.bool (decide ((x1v.L.length : Int) = 0))) ⟨_, rfl, hx, p1⟩
   ·
    rw [bf h6]
    refine Gm 7 [([12, 13, 14, 15], undef), ([16, 2], .bool false)] Juq ?_
    obtain rfl := sj h
    have p1 := p1.dp 0
    exact Xc Tryz.f62 (.bool false) ⟨_, rfl, hx, p1⟩
  ·
   rw [bf h5]
   refine Gm 6 [([18, 17], .bool (decide (x4 = 2)))] (Ys 11010111 B62 Jui) ?_
   refine Gi h (fun h7 h => ?_) fun h7 h => ?_
   ·
    rw [dt h7]
    refine Gn 4 [(19, (pt gx1 1))] (Zr Qpb [1, 2, 3, 4, 5, 6, 7, 8, 9, 10] Juv) ?_
    refine Xb 9 19 20 9 ⟨gx1, 1, none⟩ (.string x1v.Text) (p1.c 0 1) ?_
    refine Gm 3 [([21], .i (x1v.Text.size : Int)), ([22, 23], .bool (decide ((x1v.Text.size : Int) = 3)))] (Zr Qpb [5, 6, 7, 8, 9, 10] Juv) ?_
    refine Gi h (fun h8 h => ?_) fun h8 h => ?_
    ·
     rw [dt h8]
     refine Gn 1 [(24, (pt gx1 2))] (Zr Qpb [6, 7, 8, 9, 10] Juv) ?_
     refine Xb 28 24 25 28 ⟨gx1, 2, none⟩ (.slice u9p x1v.L.length u9r) (p1.c 0 2) ?_
     refine Gm 5 [([26], .i (x1v.L.length : Int)), ([27, 28, 2], .bool (decide ((x1v.L.length : Int) = 0)))] Juv ?_
     obtain rfl := sj h
     have p1 := p1.dp 0
     exact Xc Tryz.f62 (.bool (decide ((x1v.L.length : Int) = 0))) ⟨_, rfl, hx, p1⟩
    ·
     rw [df h8]
     refine Gm 7 [([24, 25, 26, 27], undef), ([28, 2], .bool false)] Juv ?_
     obtain rfl := sj h
     have p1 := p1.dp 0
     exact Xc Tryz.f62 (.bool false) ⟨_, rfl, hx, p1⟩
   ·
    rw [df h7]
    refine Gm 7 [([30, 29], .bool (decide (x4 = 3)))] (Ys 11010111101 B62 Juk) ?_
    refine Gi h (fun h9 h => ?_) fun h9 h => ?_
    ·
     rw [dt h9]
     refine Gn 2 [] Juk ?_
     exact Gj 41 [(1, (pt gx1 0)), (29, .bool true)] (uiu _ _ h _ _ hx _ _ _ _ p1 u9t rfl)
    ·
     rw [df h9]
     refine Gm 5 [([31, 29], .bool (decide (x4 = 4)))] Juk ?_
     exact Gj 41 [(1, (pt gx1 0)), (29, .bool (decide (x4 = 4)))] (uiu _ _ h _ _ hx _ _ _ _ p1 u9t rfl)
 ·
  intro uiv uiw ⟨x1v, x29⟩ r h nz wz S0 w0 Lr S1 w1 hx gx1 u9p u9q u9r p1 u9t u9u junk
  try dsimp only at h
  subst u9u
  refine Gi h (fun h11 h => ?_) fun h11 h => ?_
  ·
   rw [h11]
   refine Gn 4 [(32, (pt gx1 1))] (Zr Qpe [1, 2, 3, 4, 5, 6, 7, 8, 9] Jv0) ?_
   refine Xb 9 32 33 9 ⟨gx1, 1, none⟩ (.string x1v.Text) (p1.c 0 1) ?_
   refine Gm 2 [([34, 35], .bool (x1v.Text.toList == (⟨#[]⟩ : ByteArray).toList))] (Zr Qpe [4, 5, 6, 7, 8, 9] Jv0) ?_
   refine Gi h (fun h12 h => ?_) fun h12 h => ?_
   ·
    rw [h12]
    refine Gn 1 [(36, (pt gx1 2))] (Zr Qpe [5, 6, 7, 8, 9] Jv0) ?_
    refine Xb 28 36 37 28 ⟨gx1, 2, none⟩ (.slice u9p x1v.L.length u9r) (p1.c 0 2) ?_
    refine Gb h fun y13 e14 h => ?_
    refine Gc (.call { callee := .value (.func 128), args := #[37, (.func 129)], argTypes := #[28, 232] }) 38 4 128 _ (uiw x1v.L y13 e14 _ _ _ p1 u9t rfl) ?_
    rintro _ w3 ⟨S3, rfl, z3, p3⟩
    have p3 := p3.dp 0
    refine Gm 4 [([39, 40, 2], .bool (!y13))] Jv0 ?_
    obtain rfl := sj h
    exact Xc Tryz.f62 (.bool (!y13)) ⟨_, rfl, (hx.t z3), p3⟩
   ·
    rw [bf h12]
    refine Gm 7 [([36, 37, 38, 39], undef), ([40, 2], .bool false)] Jv0 ?_
    obtain rfl := sj h
    have p1 := p1.dp 0
    exact Xc Tryz.f62 (.bool false) ⟨_, rfl, hx, p1⟩
  ·
   rw [bf h11]
   refine Gn 7 [(2, .bool false)] (Ys 1111 B62 []) ?_
   obtain rfl := sj h
   have p1 := p1.dp 0
   exact Xc Tryz.f62 (.bool false) ⟨_, rfl, hx, p1⟩
 ·
  intro uiy uiz x0 r h nz wz S0 w0 Lr Ax0 nx0 cx0 p0 fx0 lx0
  try dsimp only at h
  subst lx0
  refine Zf Tryz.f128 B128 7 ?_
  refine Gj 9 [(0, .slice Ax0 x0.length cx0), (1, .func (.func 129) #[] #[])] fun junk => ?_
  refine Gn 8 [(4, .bool false), (5, .slice Ax0 x0.length cx0), (6, .func (.func 129) #[] #[])] Jot ?_
  refine Gb h fun y1 e2 h => ?_
  refine Gc (kc 195 [5, 6] #[28, 232]) 7 3 195 _ (uiz x0 y1 e2 _ _ _ p0 fx0 rfl) ?_
  rintro _ w2 ⟨S2, rfl, z2, p2⟩
  refine Gm 3 [([8, 4], .bool (decide (y1 ≥ 0)))] Jos ?_
  obtain rfl := sj h
  exact Xc Tryz.f128 (.bool (decide (y1 ≥ 0))) ⟨_, rfl, z2, p2⟩
 ·
  intro uj0 uj1 x0 r h nz wz S0 w0 Lr Ax0 nx0 cx0 p0 fx0 lx0
  try dsimp only at h
  subst lx0
  refine Zf Tryz.f195 B195 17 ?_
  refine Gj 19 [(0, .slice Ax0 x0.length cx0), (1, .func (.func 129) #[] #[])] fun junk => ?_
  refine Gm 13 [([4, 8], .i 0), ([6], .slice Ax0 x0.length cx0), ([7], .i (x0.length : Int))] Joj ?_
  exact Gj 19 [(0, .slice Ax0 x0.length cx0), (1, .func (.func 129) #[] #[]), (7, .i (x0.length : Int)), (8, .i 0)] (uj1 _ _ h _ _ (Xg S0 w0) _ _ _ p0 fx0 rfl)
 ·
  intro uj0 uj2 uj1 uj3 ⟨x0, x7, x8⟩ r h nz wz S0 w0 Lr S1 w1 hx Ax0 nx0 cx0 p1 fx0 lx0 junk
  try dsimp only at h
  subst lx0
  refine Gn 5 [(9, .bool (decide (x8 < x7)))] Jol ?_
  refine Gi h (fun h1 h => ?_) fun h1 h => ?_
  ·
   rw [dt h1]
   refine Gm 14 [([10, 5, 13], .i x8), ([11], .func (.func 129) #[] #[]), ([12], .slice Ax0 x0.length cx0)] Jop ?_
   refine Gg h fun g2 h => ?_
   refine Gg h fun g3 h => ?_
   refine Oi 28 12 13 14 0 30 .i64 x8 (gi x0 x8) rfl rfl fx0 Xa g2 g3 fun a4 _ f5 q6 => ?_
   have q7 := q6
   obtain ⟨_, _, rfl, rfl, ⟨_, _, rfl, rfl, ⟨A8, c9, rfl, f10⟩⟩⟩ := kT29_open q7
   refine Xf 30 14 15 30 a4 ([.i ((gi x0 x8).Op)] ++ ([.string ((gi x0 x8).Text)] ++ [.slice A8 (((gi x0 x8).L).length) c9])) (f5.cell) ?_
   refine Gb h fun y11 e12 h => ?_
   refine Gc (.call { callee := .value 11, args := #[15], argTypes := #[30] }) 16 4 129 _ (uj3 (gi x0 x8) y11 e12 _ _ _ p1 f10 rfl) ?_
   rintro _ w2 ⟨S2, rfl, z2, p2⟩
   refine Gn 1 [] Joo ?_
   refine Gi h (fun h13 h => ?_) fun h13 h => ?_
   ·
    rw [h13]
    refine Gm 6 [([17, 4], .i x8)] Joq ?_
    obtain rfl := sj h
    exact Xc Tryz.f195 (.i x8) ⟨_, rfl, (hx.t z2), p2⟩
   ·
    rw [bf h13]
    refine Gm 8 [([18, 8], .i (wr .i64 (x8 + 1)))] Joj ?_
    exact Gj 19 [(0, .slice Ax0 x0.length cx0), (1, .func (.func 129) #[] #[]), (7, .i x7), (8, .i (wr .i64 (x8 + 1)))] (uj1 _ _ h _ _ (hx.t z2) _ _ _ p2 (fx0.ext z2) rfl)
  ·
   rw [df h1]
   refine Gn 6 [(4, .i (-1))] Jor ?_
   obtain rfl := sj h
   exact Xc Tryz.f195 (.i (-1)) ⟨_, rfl, hx, p1⟩
 ·
  intro rec_gram_Query_right ih_gram_Query_right x0 r h nz wz S0 w0 Lr u92 u93 u94 p0 u9f u9g
  try dsimp only at h
  subst u9g
  refine Zf Tryz.f129 B129 5 ?_
  refine Gj 6 [(0, (ag (vT29 x0 u92 x0.L.length u94)))] fun junk => ?_
  refine Gn 2 [] (Yt 10 B129 [0, 1] (Ys 11 B129 [])) ?_
  refine Ob 30 0 1 0 (ag (vT29 x0 u92 x0.L.length u94)) (vT29 x0 u92 x0.L.length u94) p0 Xa fun b1 w2 z2 p2 => ?_
  refine Gn 4 [(2, .bool false)] (Yt 110 B129 [0, 1, 2, 3] Jv7) ?_
  refine Xf 30 1 3 30 ⟨b1, 0, none⟩ (vT29 x0 u92 x0.L.length u94) (p2.pa 0 0) ?_
  refine Gb h fun y3 e4 h => ?_
  refine Gc (kc 62 [3] #[30]) 4 4 62 _ (ih_gram_Query_right x0 y3 e4 _ _ _ p2 (u9f.ext z2) rfl) ?_
  rintro _ w3 ⟨S3, rfl, z3, p3⟩
  have p3 := p3.dp 0
  refine Gm 3 [([5, 2], .bool (!y3))] Jv7 ?_
  obtain rfl := sj h
  exact Xc Tryz.f129 (.bool (!y3)) ⟨_, rfl, (z2.t z3), p3⟩
theorem W.z47 : ∀ a r, M.a1b a = some r → LF.z47 a r := (W.z4e).1
theorem W.z4b : ∀ a r, M.ao a = some r → LL.z4b a r := (W.z4e).2.1
theorem W.z4c : ∀ a r, M.ap a = some r → LL.z4c a r := (W.z4e).2.2.1
theorem W.z48 : ∀ a r, M.a3c a = some r → LF.z48 a r := (W.z4e).2.2.2.1
theorem W.z49 : ∀ a r, M.a3d a = some r → LF.z49 a r := (W.z4e).2.2.2.2.1
theorem W.z4d : ∀ a r, M.a1c a = some r → LL.z4d a r := (W.z4e).2.2.2.2.2.1
theorem W.z4a : ∀ a r, M.a3e a = some r → LF.z4a a r := (W.z4e).2.2.2.2.2.2
def Jvd := Ys 1111 B20 []
def Jve := Ys 11101 B20 Jvd
def Qpq := Yq 11100 B20
def Jvi := Ys 1110101 B20 Jvd
def Post.z4f (r : Int) (v : Value) (w' : World) : Prop :=
 ∃ S', v = .i r ∧ Ext S0 w0 S' w' ∧ Hp nz wz S' w' (Lr)
theorem W.z4f (x0 : T29) (r : Int) (h : M.a1r x0 = some r) {nz wz S0 w0 Lr} (u92 u93 u94) (p0 : Hp nz wz S0 w0 (Lr)) (u9f : Rd kT29 S0 w0 u92 u94 x0.L) (u9g : x0.L.length = u93) :
  Calls Tg 20 #[(ag (vT29 x0 u92 u93 u94))] w0 (Rets (Post.z4f nz wz S0 w0 Lr r)) := by
 subst u9g
 refine Zf Tryz.f20 B20 11 ?_
 refine Gj 12 [(0, (ag (vT29 x0 u92 x0.L.length u94)))] fun junk => ?_
 delta M.a1r at h
 refine Gn 2 [] (Yt 10 B20 [0, 1] (Ys 11 B20 [])) ?_
 refine Ob 30 0 1 0 (ag (vT29 x0 u92 x0.L.length u94)) (vT29 x0 u92 x0.L.length u94) p0 Xa fun b1 w2 z2 p2 => ?_
 refine Gn 4 [(2, .i 0)] (Yt 110 B20 [0, 1] (Ys 111 B20 [])) ?_
 refine Oa 3 3 0 (.i 0) [.i 0] p2 Xa fun b3 w3 z3 p3 => ?_
 refine So 3 3 (.const (.int .i64 0)) 0 0 b3 0 (.i 0) [.i 0] p3 rfl Xd fun w4 z4 p4 => ?_
 refine Gn 4 [] (Zr Qpq [0, 1, 2, 3, 4, 5, 6, 7] Jve) ?_
 refine Xf 30 1 4 30 ⟨b1, 0, none⟩ (vT29 x0 u92 x0.L.length u94) (p4.pa 1 0) ?_
 refine Gb h fun y5 e6 h => ?_
 refine Gc (.call { callee := .value (.func 61), args := #[4, (.const (.int .i64 8)), 3], argTypes := #[30, 3, 33] }) 5 4 61 _ (W.z43 (x0, 8, 0) y5 e6 _ _ _ _ p4 (u9f.ext ((z2.t z3).t z4)) rfl) ?_
 rintro _ w5 ⟨S5, rfl, z5, p5⟩
 have p5 := p5.dp 0
 refine Gm 2 [([6, 7], .bool (!y5.1))] (Zr Qpq [4, 5, 6, 7] Jve) ?_
 refine Gi h (fun h7 h => ?_) fun h7 h => ?_
 ·
  rw [h7]
  refine Xf 30 1 8 30 ⟨b1, 0, none⟩ (vT29 x0 u92 x0.L.length u94) (p5.pa 0 0) ?_
  refine Gb h fun y8 e9 h => ?_
  refine Gc (kc 62 [8] #[30]) 9 4 62 _ (W.z47 x0 y8 e9 _ _ _ p5 (u9f.ext (((z2.t z3).t z4).t z5)) rfl) ?_
  rintro _ w6 ⟨S6, rfl, z6, p6⟩
  have p6 := p6.dp 0
  refine Gm 3 [([10, 11], .bool (!y8))] Jve ?_
  refine Gi h (fun h10 h => ?_) fun h10 h => ?_
  ·
   rw [h10]
   refine Gn 6 [(2, .i 0)] (Ys 11111 B20 []) ?_
   obtain rfl := sj h
   exact Xc Tryz.f20 (.i 0) ⟨_, rfl, ((((z2.t z3).t z4).t z5).t z6), p6⟩
  ·
   rw [bf h10]
   refine Gn 5 [(2, .i 2)] Jvi ?_
   obtain rfl := sj h
   exact Xc Tryz.f20 (.i 2) ⟨_, rfl, ((((z2.t z3).t z4).t z5).t z6), p6⟩
 ·
  rw [bf h7]
  refine Gm 10 [([8, 9, 10], undef), ([11], .bool true), ([2], .i 2)] Jvi ?_
  obtain rfl := sj h
  have p5 := p5.dp 0
  exact Xc Tryz.f20 (.i 2) ⟨_, rfl, (((z2.t z3).t z4).t z5), p5⟩
def Jvj := Ys 11111 B22 []
def Qpu := Yq 11110100 B22
def Jvl := Zl Qpu (Zb 0 Jvj)
def Jvm := Zc Qpu Jvl
def Jvp := Ys 111 B22 []
def Jvq := Ys 1101 B22 Jvp
def Jvy := Zb 1 (Ys 11110100111 B22 Jvl)
def Qq6 := Yq 1111010011001 B22
def Jw4 := Ys 1111111 B22 []
def Jw7 := Zb 2 Jw4
def Jwb := Ys 11111101011101 B22 Jw7
def Jwe := Ys 1111110101111101 B22 Jw7
def Jwh := Ys 111111010111111101 B22 Jw7
def Post.z4g (r : ByteArray) (v : Value) (w' : World) : Prop :=
 ∃ S', v = .string r ∧ Ext S0 w0 S' w' ∧ Hp nz wz S' w' (Lr)
def LF.z4g : T29 → ByteArray → Prop := fun x0 r => ∀ {nz wz S0 w0 Lr} u92 u93 u94 (_ : Hp nz wz S0 w0 (Lr)) (_ : Rd kT29 S0 w0 u92 u94 x0.L) (_ : x0.L.length = u93),
 Calls Tg 22 #[(ag (vT29 x0 u92 u93 u94))] w0 (Rets (Post.z4g nz wz S0 w0 Lr r))
def L.z4h : T29 × (List ByteArray) × (List T29) × Int × Int → ByteArray → Prop := fun ⟨x1v, x3, x11, x12, x13⟩ r => ∀ S1 w1, Ext S0 w0 S1 w1 → ∀ gx1 u9p u9q u9r Gx3 nx3 cx3 uo uj4 uj5 uj6 (_ : Hp nz wz S1 w1 ((some gx1, .row 30 (vT29 x1v u9p u9q u9r) 3 0) :: (Gx3, .row 9 uo (cx3 * kStr.size) 0) :: Lr)) (_ : Rd kT29 S1 w1 u9p u9r x1v.L) (_ : x1v.L.length = u9q) (_ : Els kStr S1 w1 uo x3) (_ : x3.length = nx3) (_ : Rd kT29 S1 w1 uj4 uj6 x11) (_ : x11.length = uj5) (junk : Nat → Value),
 Goes Tg (base 22) Jvm ⟨lfr 45 [(1, (pt gx1 0)), (3, .slice (Gp Gx3) nx3 cx3), (11, .slice uj4 uj5 uj6), (12, .i x12), (13, .i x13)] junk, []⟩ w1 (Done Tg 22 (Rets (Post.z4g nz wz S0 w0 Lr r)))
def LL.z4h : T29 × (List ByteArray) × (List T29) × Int × Int → ByteArray → Prop := fun a r => ∀ {nz wz S0 w0 Lr}, L.z4h nz wz S0 w0 Lr a r
theorem W.z4i : (∀ a r, M.a2d a = some r → LF.z4g a r) ∧ (∀ a r, M.a3f a = some r → LL.z4h a r) := by
 refine M.a2d.mutual_partial_correctness LF.z4g LL.z4h ?_ ?_
 ·
  intro uj7 uj8 x0 r h nz wz S0 w0 Lr u92 u93 u94 p0 u9f u9g
  try dsimp only at h
  subst u9g
  refine Zf Tryz.f22 B22 44 ?_
  refine Gj 45 [(0, (ag (vT29 x0 u92 x0.L.length u94)))] fun junk => ?_
  refine Gn 2 [] (Yt 10 B22 [0, 1] (Ys 11 B22 [])) ?_
  refine Ob 30 0 1 0 (ag (vT29 x0 u92 x0.L.length u94)) (vT29 x0 u92 x0.L.length u94) p0 Xa fun b1 w2 z2 p2 => ?_
  refine Gn 5 [(2, .string (⟨#[]⟩ : ByteArray))] (Yt 1100 B22 [0, 1, 2] Jvq) ?_
  refine Xf 30 1 7 30 ⟨b1, 0, none⟩ (vT29 x0 u92 x0.L.length u94) (p2.pa 0 0) ?_
  refine Gb h fun y3 e4 h => ?_
  refine Gc (kc 20 [7] #[30]) 8 34 20 _ (W.z4f x0 y3 e4 _ _ _ p2 (u9f.ext z2) rfl) ?_
  rintro _ w3 ⟨S3, rfl, z3, p3⟩
  refine Gn 2 [(9, .bool (!(decide (y3 = 0))))] Jvq ?_
  refine Gi h (fun h5 h => ?_) fun h5 h => ?_
  ·
   rw [dt h5]
   refine Gn 10 [(3, .slice none 0 0), (10, (pt b1 2))] (Yt 111100 B22 [1, 2, 3] (Ys 111101 B22 Jvj)) ?_
   refine Xb 28 10 11 28 ⟨b1, 2, none⟩ (.slice u92 x0.L.length u94) (p3.c 0 2) ?_
   refine Gn 5 [(12, .i (x0.L.length : Int)), (13, .i 0)] Jvm ?_
   have p3 : Hp nz wz S3 w3 ((none, .row 9 [] (0 * kStr.size) 0) :: (some b1, .row 30 (vT29 x0 u92 x0.L.length u94) 3 0) :: Lr) := p3.nilRow' 9
   have p3 := (p3.fr 0).fr 1
   exact Gj 45 [(1, (pt b1 0)), (3, .slice (Gp none) 0 0), (11, .slice u92 x0.L.length u94), (12, .i (x0.L.length : Int)), (13, .i 0)] (uj8 _ _ h _ _ (z2.t z3) _ _ _ _ none 0 0 [] _ _ _ p3 (u9f.ext (z2.t z3)) rfl (Els.nil (K := kStr)) rfl (u9f.ext (z2.t z3)) rfl)
  ·
   rw [df h5]
   refine Gn 5 [(2, .string (⟨#[]⟩ : ByteArray))] (Ys 110101 B22 Jvp) ?_
   obtain rfl := sj h
   have p3 := p3.dp 0
   exact Xc Tryz.f22 (.string (⟨#[]⟩ : ByteArray)) ⟨_, rfl, (z2.t z3), p3⟩
 ·
  intro rec_gram_Text uj7 ih_gram_Text uj8 ⟨x1v, x3, x11, x12, x13⟩ r h nz wz S0 w0 Lr S1 w1 hx gx1 u9p u9q u9r Gx3 nx3 cx3 uo uj4 uj5 uj6 p1 u9t u9u fx3 lx3 uj9 uja junk
  try dsimp only at h
  subst u9u
  subst lx3
  subst uja
  refine Gn 5 [(14, .bool (decide (x13 < x12)))] (Ys 1111010010 B22 (Ys 1111010011 B22 Jvl)) ?_
  refine Gi h (fun h9 h => ?_) fun h9 h => ?_
  ·
   rw [dt h9]
   refine Gn 6 [] (Yt 1111010011000 B22 [0, 1, 2, 3] (Zc Qq6 Jvy)) ?_
   refine Gg h fun g10 h => ?_
   refine Gg h fun g11 h => ?_
   refine Oi 28 11 13 15 0 30 .i64 x13 (gi x11 x13) rfl rfl uj9 Xa g10 g11 fun a12 _ f13 q14 => ?_
   have q15 := q14
   obtain ⟨_, _, rfl, rfl, ⟨_, _, rfl, rfl, ⟨A16, c17, rfl, f18⟩⟩⟩ := kT29_open q15
   refine Xf 30 15 16 30 a12 ([.i ((gi x11 x13).Op)] ++ ([.string ((gi x11 x13).Text)] ++ [.slice A16 (((gi x11 x13).L).length) c17])) (f13.cell) ?_
   refine Oa 30 5 0 (.agg #[.i 0, .string (⟨#[]⟩ : ByteArray), .slice none 0 0]) [.i 0, .string (⟨#[]⟩ : ByteArray), .slice none 0 0] p1 Xa fun b19 w4 z4 p4 => ?_
   refine So 30 5 16 0 0 b19 0 ((ag (vT29 (gi x11 x13) A16 (((gi x11 x13).L).length) c17))) (vT29 (gi x11 x13) A16 (((gi x11 x13).L).length) c17) p4 rfl Xd fun w5 z5 p5 => ?_
   refine Gn 3 [(17, .slice (Gp Gx3) x3.length cx3)] (Zr Qq6 [1, 2, 3, 4, 5] Jvy) ?_
   refine Xf 30 5 18 30 ⟨b19, 0, none⟩ (vT29 (gi x11 x13) A16 (((gi x11 x13).L).length) c17) (p5.pa 0 0) ?_
   refine Gb h fun y21 e22 h => ?_
   refine Gc (kc 22 [18] #[30]) 19 9 22 _ (ih_gram_Text (gi x11 x13) y21 e22 _ _ _ p5 (f18.ext (z4.t z5)) rfl) ?_
   rintro _ w6 ⟨S6, rfl, z6, p6⟩
   have p6 := p6.dp 0
   have f24 : Els kStr S6 w6 ([.string y21] : List Value) [y21] := by exact (Els.cons (K := kStr) (vs := [.string y21]) (x := y21) rfl Els.nil)
   refine Om (.buildSlice 43 1 #[(0, 19)]) 20 43 (fun b => .slice (Gp (some b)) 1 1) 9 ([.string y21] : List Value) (1 * kStr.size) p6 Xa fun b23 w7 z7 p7 => ?_
   refine Gg h fun g29 h => ?_
   refine On (K := kStr) 43 17 20 21 43 9 2 (.string ⟨#[]⟩) 16 x3.length cx3 1 x3 [y21] (x3 ++ [y21]) (Gp (some b23)) 1 rfl rfl rfl p7 rfl (fx3.ext (((z4.t z5).t z6).t z7)) Xa (f24.ext z7) (src_own p7 (q := 0) rfl) g29 fun w8 G30 c31 ujb z8 p8 f33 => ?_
   refine Gm 8 [([3], .slice (Gp G30) ((x3 ++ [y21]).length) c31), ([22, 13], .i (wr .i64 (x13 + 1)))] Jvm ?_
   have p8 := p8.dp 0
   exact Gj 45 [(1, (pt gx1 0)), (3, .slice (Gp G30) ((x3 ++ [y21]).length) c31), (11, .slice uj4 x11.length uj6), (12, .i x12), (13, .i (wr .i64 (x13 + 1)))] (uj8 _ _ h _ _ (((((hx.t z4).t z5).t z6).t z7).t z8) _ _ _ _ _ _ _ _ _ _ _ p8 (u9t.ext ((((z4.t z5).t z6).t z7).t z8)) rfl f33 rfl (uj9.ext ((((z4.t z5).t z6).t z7).t z8)) rfl)
  ·
   rw [df h9]
   refine Gn 5 [(23, .slice (Gp Gx3) x3.length cx3)] (Yt 111110 B22 [1, 2] (Ys 111111 B22 [])) ?_
   obtain ⟨S9, z9, p9, f34⟩ := p1.freezeRd 1 rfl fx3 (by decide)
   refine Gg h fun g35 h => ?_
   refine Gg h fun g36 h => ?_
   refine Gc (.call { callee := .value (.func 65), args := #[23, (.const (.string ⟨#[32]⟩))], argTypes := #[43, 9] }) 24 9 65 _ (join_calls Tryz.lays156 Tryz.Builder_Extra_156 p9 rfl f34 (⟨#[32]⟩ : ByteArray) g35 g36) ?_
   rintro _ w10 ⟨rfl, z10, p10⟩
   refine Gn 6 [(6, .string (joinB x3 (⟨#[32]⟩ : ByteArray))), (25, (pt gx1 0))] (Yt 11111100 B22 [1] (Ys 11111101 B22 Jw4)) ?_
   refine Xb 3 25 26 3 ⟨gx1, 0, none⟩ (.i x1v.Op) (p10.c 0 0) ?_
   refine Gm 7 [([28, 27], .bool (decide (x1v.Op = 1)))] (Ys 1111110101 B22 Jw7) ?_
   refine Gi h (fun h37 h => ?_) fun h37 h => ?_
   ·
    rw [dt h37]
    refine Gn 5 [(2, .string (⟨#[45]⟩ : ByteArray))] (Ys 111111010101 B22 Jw7) ?_
    obtain rfl := sj h
    have p10 := (p10.dp 0).dp 0
    exact Xc Tryz.f22 (.string (⟨#[45]⟩ : ByteArray)) ⟨_, rfl, ((hx.t z9).t z10), p10⟩
   ·
    rw [df h37]
    refine Gm 6 [([30, 29], .bool (decide (x1v.Op = 2)))] (Ys 111111010111 B22 Jw7) ?_
    refine Gi h (fun h38 h => ?_) fun h38 h => ?_
    ·
     rw [dt h38]
     refine Gn 4 [(31, (pt gx1 1))] (Yt 11111101011100 B22 [1, 2, 3, 4] Jwb) ?_
     refine Xb 9 31 32 9 ⟨gx1, 1, none⟩ (.string x1v.Text) (p10.c 0 1) ?_
     refine Gg h fun g39 h => ?_
     refine Op_.cat_n 9 (.const (.string ⟨#[124]⟩)) 32 9 33 9 (⟨#[124]⟩ : ByteArray) x1v.Text ((⟨#[124]⟩ : ByteArray) ++ x1v.Text) rfl Xa (by kernel_rfl) (by kernel_rfl) g39 ?_
     refine Gg h fun g40 h => ?_
     refine Gl h fun v41 e42 h => ?_
     refine Op_.cat_n 9 33 (.const (.string ⟨#[124]⟩)) 9 34 9 ((⟨#[124]⟩ : ByteArray) ++ x1v.Text) (⟨#[124]⟩ : ByteArray) v41 e42 Xa (by kernel_rfl) (by kernel_rfl) g40 ?_
     refine Gn 2 [(2, .string v41)] Jwb ?_
     obtain rfl := sj h
     have p10 := (p10.dp 0).dp 0
     exact Xc Tryz.f22 (.string v41) ⟨_, rfl, ((hx.t z9).t z10), p10⟩
    ·
     rw [df h38]
     refine Gm 6 [([36, 35], .bool (decide (x1v.Op = 3)))] (Ys 11111101011111 B22 Jw7) ?_
     refine Gi h (fun h43 h => ?_) fun h43 h => ?_
     ·
      rw [dt h43]
      refine Gn 4 [(37, .string (joinB x3 (⟨#[32]⟩ : ByteArray)))] (Yt 1111110101111100 B22 [1, 2, 3] Jwe) ?_
      refine Gg h fun g44 h => ?_
      refine Gl h fun v45 e46 h => ?_
      refine Op_.cat_n 9 (.const (.string ⟨#[40]⟩)) 37 9 38 9 (⟨#[40]⟩ : ByteArray) (joinB x3 (⟨#[32]⟩ : ByteArray)) v45 e46 Xa (by kernel_rfl) (by kernel_rfl) g44 ?_
      refine Gg h fun g47 h => ?_
      refine Op_.cat_n 9 38 (.const (.string ⟨#[41]⟩)) 9 39 9 v45 (⟨#[41]⟩ : ByteArray) (v45 ++ (⟨#[41]⟩ : ByteArray)) rfl Xa (by kernel_rfl) (by kernel_rfl) g47 ?_
      refine Gn 2 [(2, .string (v45 ++ (⟨#[41]⟩ : ByteArray)))] Jwe ?_
      obtain rfl := sj h
      have p10 := (p10.dp 0).dp 0
      exact Xc Tryz.f22 (.string (v45 ++ (⟨#[41]⟩ : ByteArray))) ⟨_, rfl, ((hx.t z9).t z10), p10⟩
     ·
      rw [df h43]
      refine Gm 6 [([41, 40], .bool (decide (x1v.Op = 4)))] (Ys 1111110101111111 B22 Jw7) ?_
      refine Gi h (fun h48 h => ?_) fun h48 h => ?_
      ·
       rw [dt h48]
       refine Gn 4 [(42, .string (joinB x3 (⟨#[32]⟩ : ByteArray)))] (Yt 111111010111111100 B22 [1, 2, 3] Jwh) ?_
       refine Gg h fun g49 h => ?_
       refine Gl h fun v50 e51 h => ?_
       refine Op_.cat_n 9 (.const (.string ⟨#[91]⟩)) 42 9 43 9 (⟨#[91]⟩ : ByteArray) (joinB x3 (⟨#[32]⟩ : ByteArray)) v50 e51 Xa (by kernel_rfl) (by kernel_rfl) g49 ?_
       refine Gg h fun g52 h => ?_
       refine Op_.cat_n 9 43 (.const (.string ⟨#[93]⟩)) 9 44 9 v50 (⟨#[93]⟩ : ByteArray) (v50 ++ (⟨#[93]⟩ : ByteArray)) rfl Xa (by kernel_rfl) (by kernel_rfl) g52 ?_
       refine Gn 2 [(2, .string (v50 ++ (⟨#[93]⟩ : ByteArray)))] Jwh ?_
       obtain rfl := sj h
       have p10 := (p10.dp 0).dp 0
       exact Xc Tryz.f22 (.string (v50 ++ (⟨#[93]⟩ : ByteArray))) ⟨_, rfl, ((hx.t z9).t z10), p10⟩
      ·
       rw [df h48]
       refine Gn 7 [(2, .string (⟨#[42]⟩ : ByteArray))] (Ys 11111111 B22 []) ?_
       obtain rfl := sj h
       have p10 := (p10.dp 0).dp 0
       exact Xc Tryz.f22 (.string (⟨#[42]⟩ : ByteArray)) ⟨_, rfl, ((hx.t z9).t z10), p10⟩
theorem W.z4g : ∀ a r, M.a2d a = some r → LF.z4g a r := (W.z4i).1
theorem W.z4h : ∀ a r, M.a3f a = some r → LL.z4h a r := (W.z4i).2
def Jwk := Ys 111 B67 []
def Qqq := Yq 110 B67
def Jwn := Ys 1111 B67 []
def Qqs := Yq 1110 B67
def Jwq := Ys 11111 B67 []
def Post.z4j (r : ByteArray) (v : Value) (w' : World) : Prop :=
 ∃ S', v = .string r ∧ Ext S0 w0 S' w' ∧ Hp nz wz S' w' (Lr)
theorem W.z4j (x0 : ByteArray) (r : ByteArray) (h : M.a3g x0 = some r) {nz wz S0 w0 Lr} (p0 : Hp nz wz S0 w0 (Lr)) :
  Calls Tg 67 #[.string x0] w0 (Rets (Post.z4j nz wz S0 w0 Lr r)) := by
 refine Zf Tryz.f67 B67 20 ?_
 refine Gj 21 [(0, .string x0)] fun junk => ?_
 delta M.a3g at h
 refine Gn 7 [(2, .string (⟨#[]⟩ : ByteArray)), (9, .string x0)] (Zr Qqq [1, 2, 3, 4, 5, 6, 7, 8, 9] Jwk) ?_
 refine Gb h fun y1 e2 h => ?_
 refine Gc (kc 25 [9] #[9]) 10 53 25 _ (W.z1i x0 y1 e2  p0 ) ?_
 rintro _ w2 ⟨S2, ujc, ujd, uje, rfl, z2, p2, ujf, ujg, rfl⟩
 refine Gn 4 [(8, .tuple #[(ag (vT26 y1.1 ujc y1.1.L.length uje)), .i y1.2.1, .i y1.2.2]), (11, (ag (vT26 y1.1 ujc y1.1.L.length uje))), (12, .i y1.2.1), (13, .i y1.2.2)] (Zr Qqq [6, 7, 8, 9] Jwk) ?_
 refine Oa 27 3 0 (.agg #[.i 0, .u 0, .u 0, .u 0, .u 0, .slice none 0 0, .i 0, .i 0]) [.i 0, .u 0, .u 0, .u 0, .u 0, .slice none 0 0, .i 0, .i 0] p2 Xa fun b3 w3 z3 p3 => ?_
 refine So 27 3 11 0 0 b3 0 (ag (vT26 y1.1 ujc y1.1.L.length uje)) (vT26 y1.1 ujc y1.1.L.length uje) p3 rfl Xd fun w4 z4 p4 => ?_
 refine Gn 5 [(4, .i y1.2.1), (5, .i y1.2.2)] (Zr Qqs [0, 1, 2, 3, 4, 5, 6, 7] Jwn) ?_
 refine Xf 27 3 15 27 ⟨b3, 0, none⟩ (vT26 y1.1 ujc y1.1.L.length uje) (p4.pa 0 0) ?_
 refine Gb h fun y5 e6 h => ?_
 refine Gc (kc 13 [15] #[27]) 16 35 13 _ (W.z42 y1.1 y5 e6 _ _ _ p4 ujf (ujg.ext (z3.t z4)) rfl) ?_
 rintro _ w5 ⟨S5, ujh, uji, ujj, rfl, z5, p5, ujk, rfl⟩
 have p5 := p5.dp 0
 refine Gn 3 [(14, .tuple #[(ag (vT29 y5.1 ujh y5.1.L.length ujj)), .i y5.2]), (17, (ag (vT29 y5.1 ujh y5.1.L.length ujj))), (18, .i y5.2)] (Zr Qqs [5, 6, 7] Jwn) ?_
 refine Oa 30 6 0 (.agg #[.i 0, .string (⟨#[]⟩ : ByteArray), .slice none 0 0]) [.i 0, .string (⟨#[]⟩ : ByteArray), .slice none 0 0] p5 Xa fun b7 w6 z6 p6 => ?_
 refine So 30 6 17 0 0 b7 0 (ag (vT29 y5.1 ujh y5.1.L.length ujj)) (vT29 y5.1 ujh y5.1.L.length ujj) p6 rfl Xd fun w7 z7 p7 => ?_
 refine Gn 4 [(7, .i y5.2)] (Yt 11110 B67 [0, 1, 2] Jwq) ?_
 refine Xf 30 6 19 30 ⟨b7, 0, none⟩ (vT29 y5.1 ujh y5.1.L.length ujj) (p7.pa 0 0) ?_
 refine Gb h fun y9 e10 h => ?_
 refine Gc (kc 22 [19] #[30]) 20 9 22 _ (W.z4g y5.1 y9 e10 _ _ _ p7 (ujk.ext (z6.t z7)) rfl) ?_
 rintro _ w8 ⟨S8, rfl, z8, p8⟩
 have p8 := p8.dp 0
 refine Gn 2 [(2, .string y9)] Jwq ?_
 obtain rfl := sj h
 exact Xc Tryz.f67 (.string y9) ⟨_, rfl, ((((((z2.t z3).t z4).t z5).t z6).t z7).t z8), p8⟩
def Jws := Ys 111 B24 []
def Qqw := Yq 110 B24
def Post.z4k (r : Bool) (v : Value) (w' : World) : Prop :=
 ∃ S', v = .bool r ∧ Ext S0 w0 S' w' ∧ Hp nz wz S' w' (Lr)
theorem W.z4k (r : Bool) (h : M.a3h = some r) {nz wz S0 w0 Lr} (p0 : Hp nz wz S0 w0 (Lr)) :
  Calls Tg 24 #[] w0 (Rets (Post.z4k nz wz S0 w0 Lr r)) := by
 refine Zf Tryz.f24 B24 11 ?_
 refine Gj 11 [] fun junk => ?_
 delta M.a3h at h
 refine Gn 6 [(0, .bool false)] (Zr Qqw [0, 1, 2, 3, 4, 5, 6, 7, 8, 9, 10] Jws) ?_
 refine Gb h fun y1 e2 h => ?_
 refine Gc (.call { callee := .value (.func 67), args := #[(.const (.string ⟨#[97, 98, 99, 100, 124, 120, 121, 122]⟩))], argTypes := #[9] }) 1 9 67 _ (W.z4j (⟨#[97, 98, 99, 100, 124, 120, 121, 122]⟩ : ByteArray) y1 e2  p0 ) ?_
 rintro _ w2 ⟨S2, rfl, z2, p2⟩
 refine Gm 2 [([2, 3], .bool (y1.toList == (⟨#[91, 40, 124, 97, 98, 99, 124, 32, 124, 98, 99, 100, 124, 41, 32, 124, 120, 121, 122, 124, 93]⟩ : ByteArray).toList))] (Zr Qqw [3, 4, 5, 6, 7, 8, 9, 10] Jws) ?_
 refine Gi h (fun h3 h => ?_) fun h3 h => ?_
 ·
  rw [h3]
  refine Gb h fun y4 e5 h => ?_
  refine Gc (.call { callee := .value (.func 67), args := #[(.const (.string ⟨#[97, 98, 42]⟩))], argTypes := #[9] }) 4 9 67 _ (W.z4j (⟨#[97, 98, 42]⟩ : ByteArray) y4 e5  p2 ) ?_
  rintro _ w3 ⟨S3, rfl, z3, p3⟩
  refine Gm 3 [([5, 6, 7], .bool (y4.toList == (⟨#[42]⟩ : ByteArray).toList))] (Zr Qqw [7, 8, 9, 10] Jws) ?_
  refine Gi h (fun h6 h => ?_) fun h6 h => ?_
  ·
   rw [h6]
   refine Gb h fun y7 e8 h => ?_
   refine Gc (.call { callee := .value (.func 67), args := #[(.const (.string ⟨#[40, 97, 124, 98, 41, 99, 100, 46, 101, 102, 103]⟩))], argTypes := #[9] }) 8 9 67 _ (W.z4j (⟨#[40, 97, 124, 98, 41, 99, 100, 46, 101, 102, 103]⟩ : ByteArray) y7 e8  p3 ) ?_
   rintro _ w4 ⟨S4, rfl, z4, p4⟩
   refine Gm 4 [([9, 10, 0], .bool (y7.toList == (⟨#[40, 91, 124, 97, 99, 100, 124, 32, 124, 98, 99, 100, 124, 93, 32, 124, 101, 102, 103, 124, 41]⟩ : ByteArray).toList))] Jws ?_
   obtain rfl := sj h
   exact Xc Tryz.f24 (.bool (y7.toList == (⟨#[40, 91, 124, 97, 99, 100, 124, 32, 124, 98, 99, 100, 124, 93, 32, 124, 101, 102, 103, 124, 41]⟩ : ByteArray).toList)) ⟨_, rfl, ((z2.t z3).t z4), p4⟩
  ·
   rw [bf h6]
   refine Gm 5 [([8, 9], undef), ([10, 0], .bool false)] Jws ?_
   obtain rfl := sj h
   exact Xc Tryz.f24 (.bool false) ⟨_, rfl, (z2.t z3), p3⟩
 ·
  rw [bf h3]
  refine Gm 9 [([4, 5, 8, 9], undef), ([6, 7, 10, 0], .bool false)] Jws ?_
  obtain rfl := sj h
  exact Xc Tryz.f24 (.bool false) ⟨_, rfl, z2, p2⟩
def Qqy := Yq 111110100 B52
def Jwy := Zl Qqy (Zb 0 (Ys 111111 B52 []))
def Jwz := Zc Qqy Jwy
def Jx1 := Ys 11111010001 B52 (Ys 1111101001 B52 Jwy)
def Jx4 := Ys 111 B52 []
def Qr4 := Yq 110 B52
def Qr9 := Yq 11111010000 B52
def Jxi := Ys 1111111 B52 []
def Post.z4l (gx2 : Nat) (r : T26 × Int) (v : Value) (w' : World) : Prop :=
 ∃ S' ujl u5 u6 ujm, v = (ag (vT26 r.1 (Gp ujl) u5 u6)) ∧ Ext S0 w0 S' w' ∧ Hp nz wz S' w' ((ujl, .row 27 ujm (u6 * kT26.size) 0) :: (some gx2, .row 3 [.i r.2] 1 0) :: Lr) ∧ r.1.Set.length = 4 ∧ Els kT26 S' w' ujm r.1.L ∧ r.1.L.length = u5
def LF.z4l : T26 × Int × Int → (T26 × Int) → Prop := fun ⟨x0, x1, ua⟩ r => ∀ {nz wz S0 w0 Lr} u92 u93 u94 gx2 (_ : Hp nz wz S0 w0 ((some gx2, .row 3 [.i ua] 1 0) :: Lr)) (_ : x0.Set.length = 4) (_ : Rd kT26 S0 w0 u92 u94 x0.L) (_ : x0.L.length = u93),
 Calls Tg 52 #[(ag (vT26 x0 u92 u93 u94)), .i x1, (pt gx2 0)] w0 (Rets (Post.z4l nz wz S0 w0 Lr gx2 r))
def L.z4m (gx2 : Nat) : Int × T26 × T26 × T26 × Int × Int → (T26 × Int) → Prop := fun ⟨x1, x3v, x6v, x7v, x8, u95⟩ r => ∀ S1 w1, Ext S0 w0 S1 w1 → ∀ gx3 u96 u97 u98 gx6 ujn u8u u8v ujo gx7 ujp ujq ujr ujs (_ : Hp nz wz S1 w1 ((some gx3, .row 27 (vT26 x3v u96 u97 u98) 8 0) :: (some gx6, .row 27 (vT26 x6v (Gp ujn) u8u u8v) 8 0) :: (ujn, .row 27 ujo (u8v * kT26.size) 0) :: (some gx7, .row 27 (vT26 x7v (Gp ujp) ujq ujr) 8 0) :: (ujp, .row 27 ujs (ujr * kT26.size) 0) :: (some gx2, .row 3 [.i u95] 1 0) :: Lr)) (_ : x3v.Set.length = 4) (_ : Rd kT26 S1 w1 u96 u98 x3v.L) (_ : x3v.L.length = u97) (_ : x6v.Set.length = 4) (_ : Els kT26 S1 w1 ujo x6v.L) (_ : x6v.L.length = u8u) (_ : x7v.Set.length = 4) (_ : Els kT26 S1 w1 ujs x7v.L) (_ : x7v.L.length = ujq) (junk : Nat → Value),
 Goes Tg (base 52) Jwz ⟨lfr 48 [(1, .i x1), (2, (pt gx2 0)), (3, (pt gx3 0)), (6, (pt gx6 0)), (7, (pt gx7 0)), (8, .i x8)] junk, []⟩ w1 (Done Tg 52 (Rets (Post.z4l nz wz S0 w0 Lr gx2 r)))
def LL.z4m : Int × T26 × T26 × T26 × Int × Int → (T26 × Int) → Prop := fun a r => ∀ {nz wz S0 w0 Lr} (gx2 : Nat), L.z4m nz wz S0 w0 Lr gx2 a r
def L.z4n (gx2 : Nat) : Int × T26 × T26 × T26 × Int × Bool × Int → (T26 × Int) → Prop := fun ⟨x1, x3v, x6v, x7v, x8, x30, u95⟩ r => ∀ S1 w1, Ext S0 w0 S1 w1 → ∀ gx3 u96 u97 u98 gx6 ujn u8u u8v ujo gx7 ujp ujq ujr ujs (_ : Hp nz wz S1 w1 ((some gx3, .row 27 (vT26 x3v u96 u97 u98) 8 0) :: (some gx6, .row 27 (vT26 x6v (Gp ujn) u8u u8v) 8 0) :: (ujn, .row 27 ujo (u8v * kT26.size) 0) :: (some gx7, .row 27 (vT26 x7v (Gp ujp) ujq ujr) 8 0) :: (ujp, .row 27 ujs (ujr * kT26.size) 0) :: (some gx2, .row 3 [.i u95] 1 0) :: Lr)) (_ : x3v.Set.length = 4) (_ : Rd kT26 S1 w1 u96 u98 x3v.L) (_ : x3v.L.length = u97) (_ : x6v.Set.length = 4) (_ : Els kT26 S1 w1 ujo x6v.L) (_ : x6v.L.length = u8u) (_ : x7v.Set.length = 4) (_ : Els kT26 S1 w1 ujs x7v.L) (_ : x7v.L.length = ujq) (junk : Nat → Value),
 Goes Tg (base 52) Jx1 ⟨lfr 48 [(1, .i x1), (2, (pt gx2 0)), (3, (pt gx3 0)), (6, (pt gx6 0)), (7, (pt gx7 0)), (8, .i x8), (30, .bool x30)] junk, []⟩ w1 (Done Tg 52 (Rets (Post.z4l nz wz S0 w0 Lr gx2 r)))
def LL.z4n : Int × T26 × T26 × T26 × Int × Bool × Int → (T26 × Int) → Prop := fun a r => ∀ {nz wz S0 w0 Lr} (gx2 : Nat), L.z4n nz wz S0 w0 Lr gx2 a r
theorem W.z4o : (∀ a r, M.a1s a = some r → LF.z4l a r) ∧ (∀ a r, M.a1t a = some r → LL.z4m a r) ∧ (∀ a r, M.a1d a = some r → LL.z4n a r) := by
 refine M.a1s.mutual_partial_correctness LF.z4l LL.z4m LL.z4n ?_ ?_ ?_
 ·
  intro ujt uju ⟨x0, x1, ua⟩ r h nz wz S0 w0 Lr u92 u93 u94 gx2 p0 u9e u9f u9g
  try dsimp only at h
  subst u9g
  refine Zf Tryz.f52 B52 45 ?_
  refine Gj 48 [(0, (ag (vT26 x0 u92 x0.L.length u94))), (1, .i x1), (2, (pt gx2 0))] fun junk => ?_
  refine Gn 2 [] (Yt 10 B52 [0, 1] (Ys 11 B52 [])) ?_
  refine Ob 27 0 3 0 (ag (vT26 x0 u92 x0.L.length u94)) (vT26 x0 u92 x0.L.length u94) p0 Xa fun b2 w2 z2 p2 => ?_
  refine Oa 27 6 0 (.agg #[.i 0, .u 0, .u 0, .u 0, .u 0, .slice none 0 0, .i 0, .i 0]) [.i 0, .u 0, .u 0, .u 0, .u 0, .slice none 0 0, .i 0, .i 0] p2 Xa fun b4 w3 z3 p3 => ?_
  refine Gm 5 [([9, 10], (pt gx2 0))] (Zr Qr4 [2, 3, 4, 5] Jx4) ?_
  refine Xb 3 10 11 3 ⟨gx2, 0, none⟩ (.i ua) (p3.c 2 0) ?_
  refine Gn 2 [(12, .i (wr .i64 (ua - 1))), (13, (pt gx2 0))] (Zr Qr4 [5] Jx4) ?_
  refine So 3 13 12 0 2 gx2 0 (.i (wr .i64 (ua - 1))) [.i (wr .i64 (ua - 1))] p3 rfl Xd fun w4 z4 p4 => ?_
  refine Gn 3 [] (Yt 1110 B52 [0, 1, 2] (Ys 1111 B52 [])) ?_
  refine Xf 27 3 14 27 ⟨b2, 0, none⟩ (vT26 x0 u92 x0.L.length u94) (p4.pa 1 0) ?_
  refine Oa 27 7 0 (.agg #[.i 0, .u 0, .u 0, .u 0, .u 0, .slice none 0 0, .i 0, .i 0]) [.i 0, .u 0, .u 0, .u 0, .u 0, .slice none 0 0, .i 0, .i 0] p4 Xa fun b6 w5 z5 p5 => ?_
  refine So 27 7 14 0 0 b6 0 (ag (vT26 x0 u92 x0.L.length u94)) (vT26 x0 u92 x0.L.length u94) p5 rfl Xd fun w6 z6 p6 => ?_
  refine Gn 4 [(15, (pt b6 5))] (Yt 11110 B52 [1] (Ys 11111 B52 [])) ?_
  refine So 25 15 (.const (.slice none 0 0)) 0 0 b6 5 (.slice none 0 0) [.slice none 0 0] p6 rfl Xd fun w7 z7 p7 => ?_
  refine Gn 8 [(8, .i 0)] Jwz ?_
  have p7 : Hp nz wz S0 w7 ((none, .row 27 [] (0 * kT26.size) 0) :: (some b6, .row 27 (vT26 x0 none 0 0) 8 0) :: (some b4, .row 27 [.i 0, .u 0, .u 0, .u 0, .u 0, .slice none 0 0, .i 0, .i 0] 8 0) :: (some b2, .row 27 (vT26 x0 u92 x0.L.length u94) 8 0) :: (some gx2, .row 3 [.i (wr .i64 (ua - 1))] 1 0) :: Lr) := p7.nilRow' 27
  have p7 : Hp nz wz S0 w7 ((none, .row 27 [] (0 * kT26.size) 0) :: (none, .row 27 [] (0 * kT26.size) 0) :: (some b6, .row 27 (vT26 x0 none 0 0) 8 0) :: (some b4, .row 27 [.i 0, .u 0, .u 0, .u 0, .u 0, .slice (Gp none) 0 0, .i 0, .i 0] 8 0) :: (some b2, .row 27 (vT26 x0 u92 x0.L.length u94) 8 0) :: (some gx2, .row 3 [.i (wr .i64 (ua - 1))] 1 0) :: Lr) := p7.nilRow' 27
  have p7 := (((((p7.fr 5).fr 1).fr 3).fr 3).fr 4).fr 5
  exact Gj 48 [(1, .i x1), (2, (pt gx2 0)), (3, (pt b2 0)), (6, (pt b4 0)), (7, (pt b6 0)), (8, .i 0)] (uju _ _ h gx2 _ _ (((((z2.t z3).t z4).t z5).t z6).t z7) _ _ _ _ _ none 0 0 [] _ none 0 0 [] p7 u9e (u9f.ext (((((z2.t z3).t z4).t z5).t z6).t z7)) rfl rfl (Els.nil (K := kT26)) rfl u9e (Els.nil (K := kT26)) rfl)
 ·
  intro ujv ujw ⟨x1, x3v, x6v, x7v, x8, u95⟩ r h nz wz S0 w0 Lr gx2 S1 w1 hx gx3 u96 u97 u98 gx6 ujn u8u u8v ujo gx7 ujp ujq ujr ujs p1 u9j u9k u9l u8x u8y u8z ujx ujy ujz junk
  try dsimp only at h
  subst u9l
  subst u8z
  subst ujz
  refine Gn 5 [(16, .i x8), (17, (pt gx3 5))] (Zr Qr9 [2, 3, 4, 5, 6, 7, 8, 9, 10, 11, 12, 13, 14] Jx1) ?_
  refine Xb 25 17 18 25 ⟨gx3, 5, none⟩ (.slice u96 x3v.L.length u98) (p1.c 0 5) ?_
  refine Gm 3 [([19], .i (x3v.L.length : Int)), ([20, 21], .bool (decide (x8 < (x3v.L.length : Int))))] (Zr Qr9 [6, 7, 8, 9, 10, 11, 12, 13, 14] Jx1) ?_
  refine Gi h (fun h15 h => ?_) fun h15 h => ?_
  ·
   rw [dt h15]
   refine Gm 4 [([22], .i x1), ([23, 24, 25], .bool (decide (x1 > 0)))] (Zr Qr9 [10, 11, 12, 13, 14] Jx1) ?_
   refine Gi h (fun h16 h => ?_) fun h16 h => ?_
   ·
    rw [dt h16]
    refine Gm 2 [([26, 27], (pt gx2 0))] (Zr Qr9 [12, 13, 14] Jx1) ?_
    refine Xb 3 27 28 3 ⟨gx2, 0, none⟩ (.i u95) (p1.c 5 0) ?_
    refine Gm 3 [([29, 30], .bool (decide (u95 > 0)))] Jx1 ?_
    exact Gj 48 [(1, .i x1), (2, (pt gx2 0)), (3, (pt gx3 0)), (6, (pt gx6 0)), (7, (pt gx7 0)), (8, .i x8), (30, .bool (decide (u95 > 0)))] (ujw _ _ h gx2 _ _ hx _ _ _ _ _ _ _ _ _ _ _ _ _ _ p1 u9j u9k rfl u8x u8y rfl ujx ujy rfl)
   ·
    rw [df h16]
    refine Gm 6 [([26, 27, 28, 29], undef), ([30], .bool false)] Jx1 ?_
    exact Gj 48 [(1, .i x1), (2, (pt gx2 0)), (3, (pt gx3 0)), (6, (pt gx6 0)), (7, (pt gx7 0)), (8, .i x8), (30, .bool false)] (ujw _ _ h gx2 _ _ hx _ _ _ _ _ _ _ _ _ _ _ _ _ _ p1 u9j u9k rfl u8x u8y rfl ujx ujy rfl)
  ·
   rw [df h15]
   refine Gm 10 [([22, 23, 26, 27, 28, 29], undef), ([24, 25, 30], .bool false)] Jx1 ?_
   exact Gj 48 [(1, .i x1), (2, (pt gx2 0)), (3, (pt gx3 0)), (6, (pt gx6 0)), (7, (pt gx7 0)), (8, .i x8), (30, .bool false)] (ujw _ _ h gx2 _ _ hx _ _ _ _ _ _ _ _ _ _ _ _ _ _ p1 u9j u9k rfl u8x u8y rfl ujx ujy rfl)
 ·
  intro uk0 ujt uk1 uju ⟨x1, x3v, x6v, x7v, x8, x30, u95⟩ r h nz wz S0 w0 Lr gx2 S1 w1 hx gx3 u96 u97 u98 gx6 ujn u8u u8v ujo gx7 ujp ujq ujr ujs p1 u9j u9k u9l u8x u8y u8z ujx ujy ujz junk
  try dsimp only at h
  subst u9l
  subst u8z
  subst ujz
  refine Gi h (fun h22 h => ?_) fun h22 h => ?_
  ·
   rw [h22]
   refine Gn 4 [] (Ys 111110100100 B52 (Zb 1 (Ys 11111010011 B52 Jwy))) ?_
   have z8 : Ext S1 w1 S1 (w1).drew := Xm
   have p8 := p1.draw
   refine Gd [12, 14] (Fc S1 (w1).drew [(⟨gx7, 5, none⟩, .slice (Gp ujp) x7v.L.length ujr), (⟨gx3, 5, none⟩, .slice u96 x3v.L.length u98)]) 7 15 ?_
   generalize (w1).drew = w8 at z8 p8 ⊢
   refine Xe 0 (.fieldAddr 27 7 2) 33 0 ((pt gx7 5)) (p8.k [(3, 5, 1), (0, 5, 1)]) ?_
   refine Al 1 25 33 34 25 ⟨gx7, 5, none⟩ (.slice (Gp ujp) x7v.L.length ujr) (p8.k [(3, 5, 1), (0, 5, 1)]) (fun _ h => h.2.at_ 0 rfl) ?_
   refine Xe 2 (.fieldAddr 27 3 2) 35 0 ((pt gx3 5)) (p8.k [(3, 5, 1), (0, 5, 1)]) ?_
   refine Al 3 25 35 36 25 ⟨gx3, 5, none⟩ (.slice u96 x3v.L.length u98) (p8.k [(3, 5, 1), (0, 5, 1)]) (fun _ h => h.2.at_ 1 rfl) ?_
   refine Xe 4 (.move 8) 37 3 (.i x8) (p8.k [(3, 5, 1), (0, 5, 1)]) ?_
   refine Gg h fun g23 h => ?_
   refine Gg h fun g24 h => ?_
   refine AnyG.ixR_n (i := 5) 25 36 37 38 0 27 .i64 x8 (gi x3v.L x8) rfl rfl (u9k.ext z8) (by kernel_rfl) (by kernel_rfl) (p8.k [(3, 5, 1), (0, 5, 1)]) (by kernel_rfl) (by kernel_rfl) (by kernel_rfl) (by kernel_rfl) g23 g24 fun a25 _ f26 q27 => ?_
   have q28 := q27
   obtain ⟨_, _, rfl, rfl, ⟨_, _, rfl, ⟨l29, f30⟩, ⟨_, _, rfl, ⟨A31, c32, rfl, f33⟩, ⟨_, _, rfl, rfl, rfl⟩⟩⟩⟩ := kT26_open q28
   obtain rfl := els_lit4' f30 l29
   refine Xv (i := 6) 27 38 39 27 a25 ([.i ((gi x3v.L x8).Kind)] ++ ((U4 ((gi x3v.L x8).Set) []) ++ ([.slice A31 (((gi x3v.L x8).L).length) c32] ++ ([.i ((gi x3v.L x8).Min)] ++ [.i ((gi x3v.L x8).Max)])))) (by kernel_rfl) (by kernel_rfl) (p8.k [(3, 5, 1), (0, 5, 1)]) (by kernel_rfl) (by kernel_rfl) (by kernel_rfl) (fun _ h => f26.fc h) ?_
   refine Xe 7 (.move 1) 40 3 (.i x1) (p8.k [(3, 5, 1), (0, 5, 1)]) ?_
   refine Xe 8 (.binOp .sub 3 40 (.const (.int .i64 1)) 3) 41 3 (.i (wr .i64 (x1 - 1))) (p8.k [(3, 5, 1), (0, 5, 1)]) ?_
   refine Xe 9 (.move 2) 42 33 ((pt gx2 0)) (p8.k [(3, 5, 1), (0, 5, 1)]) ?_
   have p8 := p8.fr 5
   refine Gb h fun y34 e35 h => ?_
   refine Oc (kc 52 [39, 41, 42] #[27, 3, 33]) 43 27 52 #[(ag (.i ((gi x3v.L x8).Kind) :: U4 ((gi x3v.L x8).Set) [.slice A31 (((gi x3v.L x8).L).length) c32, .i ((gi x3v.L x8).Min), .i ((gi x3v.L x8).Max)])), .i (wr .i64 (x1 - 1)), (pt gx2 0)] (Ac 10) (uk1 ((⟨(gi x3v.L x8).Kind, ((gi x3v.L x8).Set), (gi x3v.L x8).L, (gi x3v.L x8).Min, (gi x3v.L x8).Max⟩ : T26), wr .i64 (x1 - 1), u95) y34 e35 _ _ _ _ p8 l29 f33 rfl) ?_
   rintro _ w9 ⟨S9, uk2, u6i, u6j, uk3, rfl, z9, p9, u6l, u6m, rfl⟩
   refine Xl z9 ⟨(p9.c 5 5), (p9.c 2 5), trivial⟩ ?_
   obtain ⟨S10, z10, p10, f37⟩ := p9.freezeRd 0 rfl u6m (by decide)
   refine AnyG.refz z10 ?_
   have f39 : Els kT26 S10 w9 ((vT26 y34.1 (Gp uk2) y34.1.L.length u6j) : List Value) [y34.1] := by exact (Els.cons (K := kT26) (vs := (vT26 y34.1 (Gp uk2) y34.1.L.length u6j)) (x := y34.1) (kT26_close ⟨[.i y34.1.Kind], (U4 y34.1.Set [.slice (Gp uk2) y34.1.L.length u6j, .i y34.1.Min, .i y34.1.Max]), rfl, rfl, ⟨(U4 y34.1.Set []), [.slice (Gp uk2) y34.1.L.length u6j, .i y34.1.Min, .i y34.1.Max], rfl, ⟨u6l, els_mk4 u6l⟩, ⟨[.slice (Gp uk2) y34.1.L.length u6j], [.i y34.1.Min, .i y34.1.Max], rfl, ⟨_, _, rfl, f37⟩, ⟨[.i y34.1.Min], [.i y34.1.Max], rfl, rfl, rfl⟩⟩⟩⟩) Els.nil)
   refine Om (.buildSlice 25 1 #[(0, 43)]) 44 25 (fun b => .slice (Gp (some b)) 1 1) 27 ((vT26 y34.1 (Gp uk2) y34.1.L.length u6j) : List Value) (1 * kT26.size) p10 (Av 11) fun b38 w11 z11 p11 => ?_
   refine Xl z11 ⟨(p11.c 6 5), (p11.c 3 5), trivial⟩ ?_
   refine Gg h fun g44 h => ?_
   refine On (K := kT26) 25 34 44 45 25 27 7 (.agg #[.i 0, .u 0, .u 0, .u 0, .u 0, .slice none 0 0, .i 0, .i 0]) 80 x7v.L.length ujr 1 x7v.L [y34.1] (x7v.L ++ [y34.1]) (Gp (some b38)) 1 rfl rfl rfl p11 rfl (ujy.ext (((z8.t z9).t z10).t z11)) (Av 12) (f39.ext z11) (src_own p11 (q := 0) rfl) g44 fun w12 G45 c46 uk4 z12 p12 f48 => ?_
   refine Xi [14] (Fc S10 w12 []) (by decide) ?_
   refine Xe 13 (.fieldAddr 27 7 2) 46 0 ((pt gx7 5)) Fc0 ?_
   refine So 25 46 45 0 6 gx7 5 (.slice (Gp G45) ((x7v.L ++ [y34.1]).length) c46) [.slice (Gp G45) ((x7v.L ++ [y34.1]).length) c46] p12 rfl (As 14) fun w13 z13 p13 => ?_
   refine Xi [] (Fc S10 w13 []) (by decide) ?_
   refine Ad ?_
   have p13 := (p13.dp 0).dp 0
   refine Gm 7 [([31], .i x8), ([32, 8], .i (wr .i64 (x8 + 1)))] Jwz ?_
   have p13 := (((((p13.fr 0).fr 5).fr 5).fr 5).fr 5).fr 5
   exact Gj 48 [(1, .i x1), (2, (pt gx2 0)), (3, (pt gx3 0)), (6, (pt gx6 0)), (7, (pt gx7 0)), (8, .i (wr .i64 (x8 + 1)))] (uju _ _ h gx2 _ _ ((((((hx.t z8).t z9).t z10).t z11).t z12).t z13) _ _ _ _ _ _ _ _ _ _ _ _ _ _ p13 u9j (u9k.ext (((((z8.t z9).t z10).t z11).t z12).t z13)) rfl u8x (u8y.ext (((((z8.t z9).t z10).t z11).t z12).t z13)) rfl ujx (f48.ext z13) rfl)
  ·
   rw [bf h22]
   refine Gn 4 [] (Yt 1111110 B52 [0, 1] Jxi) ?_
   refine Xf 27 7 47 27 ⟨gx7, 0, none⟩ (vT26 x7v (Gp ujp) x7v.L.length ujr) (p1.pa 3 0) ?_
   refine So 27 6 47 0 1 gx6 0 (ag (vT26 x7v (Gp ujp) x7v.L.length ujr)) (vT26 x7v (Gp ujp) x7v.L.length ujr) p1 rfl Xd fun w14 z14 p14 => ?_
   refine Gn 1 [] Jxi ?_
   obtain rfl := sj h
   have p14 := ((p14.dp 0).dp 1).dp 1
   exact R1 Tryz.f52 (.cell 6 27) (ag (vT26 x7v (Gp ujp) x7v.L.length ujr)) (Rn gx6 (p14.pa 0 0)) ⟨_, _, _, _, _, rfl, (hx.t z14), p14.drop, ujx, (ujy.ext z14), rfl⟩
theorem W.z4l : ∀ a r, M.a1s a = some r → LF.z4l a r := (W.z4o).1
theorem W.z4m : ∀ a r, M.a1t a = some r → LL.z4m a r := (W.z4o).2.1
theorem W.z4n : ∀ a r, M.a1d a = some r → LL.z4n a r := (W.z4o).2.2
def Jxo := Ys 1111 B11 []
def Post.z4p (r : T26) (v : Value) (w' : World) : Prop :=
 ∃ S' ujl u5 u6 ujm, v = (ag (vT26 r (Gp ujl) u5 u6)) ∧ Ext S0 w0 S' w' ∧ Hp nz wz S' w' ((ujl, .row 27 ujm (u6 * kT26.size) 0) :: Lr) ∧ r.Set.length = 4 ∧ Els kT26 S' w' ujm r.L ∧ r.L.length = u5
theorem W.z4p (x0 : T26) (r : T26) (h : M.a4t x0 = some r) {nz wz S0 w0 Lr} (u92 u93 u94) (p0 : Hp nz wz S0 w0 (Lr)) (u9e : x0.Set.length = 4) (u9f : Rd kT26 S0 w0 u92 u94 x0.L) (u9g : x0.L.length = u93) :
  Calls Tg 11 #[(ag (vT26 x0 u92 u93 u94))] w0 (Rets (Post.z4p nz wz S0 w0 Lr r)) := by
 subst u9g
 refine Zf Tryz.f11 B11 5 ?_
 refine Gj 6 [(0, (ag (vT26 x0 u92 x0.L.length u94)))] fun junk => ?_
 delta M.a4t at h
 refine Gn 2 [] (Yt 10 B11 [0, 1] (Ys 11 B11 [])) ?_
 refine Ob 27 0 1 0 (ag (vT26 x0 u92 x0.L.length u94)) (vT26 x0 u92 x0.L.length u94) p0 Xa fun b1 w2 z2 p2 => ?_
 refine Oa 27 2 0 (.agg #[.i 0, .u 0, .u 0, .u 0, .u 0, .slice none 0 0, .i 0, .i 0]) [.i 0, .u 0, .u 0, .u 0, .u 0, .slice none 0 0, .i 0, .i 0] p2 Xa fun b3 w3 z3 p3 => ?_
 refine Gn 3 [] (Yt 110 B11 [0, 1] (Ys 111 B11 [])) ?_
 refine Oa 3 3 0 (.i 0) [.i 0] p3 Xa fun b5 w4 z4 p4 => ?_
 refine So 3 3 (.const (.int .i64 40)) 0 0 b5 0 (.i 40) [.i 40] p4 rfl Xd fun w5 z5 p5 => ?_
 refine Gn 3 [] (Yt 1110 B11 [0, 1, 2] Jxo) ?_
 refine Xf 27 1 4 27 ⟨b1, 0, none⟩ (vT26 x0 u92 x0.L.length u94) (p5.pa 2 0) ?_
 refine Gb h fun y7 e8 h => ?_
 refine Gc (.call { callee := .value (.func 52), args := #[4, (.const (.int .i64 10)), 3], argTypes := #[27, 3, 33] }) 5 27 52 _ (W.z4l (x0, 10, 40) y7 e8 _ _ _ _ p5 u9e (u9f.ext (((z2.t z3).t z4).t z5)) rfl) ?_
 rintro _ w6 ⟨S6, uk6, u6y, u6z, uk7, rfl, z6, p6, u70, u71, rfl⟩
 have p6 := (p6.dp 1).dp 2
 refine So 27 2 5 0 1 b3 0 (ag (vT26 y7.1 (Gp uk6) y7.1.L.length u6z)) (vT26 y7.1 (Gp uk6) y7.1.L.length u6z) p6 rfl Xd fun w7 z7 p7 => ?_
 refine Gn 1 [] Jxo ?_
 obtain rfl := sj h
 have p7 := (p7.fr 0).fr 1
 exact R1 Tryz.f11 (.cell 2 27) (ag (vT26 y7.1 (Gp uk6) y7.1.L.length u6z)) (Rn b3 (p7.pa 0 0)) ⟨_, _, _, _, _, rfl, (((((z2.t z3).t z4).t z5).t z6).t z7), p7.drop, u70, (u71.ext z7), rfl⟩
def Jxq := Ys 1111 B146 []
def Jxr := Zb 0 Jxq
def Jxt := Zb 3 (Ys 1110101 B146 Jxr)
def Jxu := Ys 1110100011 B146 Jxt
def Qrn := Yq 1110100010100 B146
def Jxw := Zl Qrn (Zb 4 Jxu)
def Jxx := Zc Qrn Jxw
def Jy3 := Zb 2 (Ys 111010001 B146 Jxt)
def Qrt := Yq 11101000001 B146
def Jy6 := Ys 1110100000001 B146 (Zb 1 (Zc Qrt Jy3))
def Jy8 := Ys 111010000000001 B146 (Ys 11101000000001 B146 Jy6)
def Jyc := Yt 11101000100 B146 [1, 2, 3] (Ys 11101000101 B146 Jxu)
def Jyg := Ys 11101011 B146 Jxr
def Jyl := Ys 11101010111 B146 Jyg
def Jyn := Ys 11111 B146 []
def Qsb := Yq 11110 B146
def Qsc := Yq 111010101111 B146
def Jyv := Zb 5 (Ys 1110100010100111 B146 Jxw)
def Qsg := Yq 111010001010011001 B146
def Post.z4q (r : Int) (v : Value) (w' : World) : Prop :=
 ∃ S', v = .i r ∧ Ext S0 w0 S' w' ∧ Hp nz wz S' w' (Lr)
def LF.z4q : T26 → Int → Prop := fun x0 r => ∀ {nz wz S0 w0 Lr} u92 u93 u94 (_ : Hp nz wz S0 w0 (Lr)) (_ : x0.Set.length = 4) (_ : Rd kT26 S0 w0 u92 u94 x0.L) (_ : x0.L.length = u93),
 Calls Tg 146 #[(ag (vT26 x0 u92 u93 u94))] w0 (Rets (Post.z4q nz wz S0 w0 Lr r))
def L.z4r : Int × (List T26) × Int × Int → Int → Prop := fun ⟨x3, x21, x22, x23⟩ r => ∀ S1 w1, Ext S0 w0 S1 w1 → ∀ uk8 uk9 uka (_ : Hp nz wz S1 w1 (Lr)) (_ : Rd kT26 S1 w1 uk8 uka x21) (_ : x21.length = uk9) (junk : Nat → Value),
 Goes Tg (base 146) Jxx ⟨lfr 62 [(3, .i x3), (21, .slice uk8 uk9 uka), (22, .i x22), (23, .i x23)] junk, []⟩ w1 (Done Tg 146 (Rets (Post.z4q nz wz S0 w0 Lr r)))
def LL.z4r : Int × (List T26) × Int × Int → Int → Prop := fun a r => ∀ {nz wz S0 w0 Lr}, L.z4r nz wz S0 w0 Lr a r
theorem W.z4s : (∀ a r, M.ag a = some r → LF.z4q a r) ∧ (∀ a r, M.a2e a = some r → LL.z4r a r) := by
 refine M.ag.mutual_partial_correctness LF.z4q LL.z4r ?_ ?_
 ·
  intro rec_prog_size ukb ih_prog_size ukc x0 r h nz wz S0 w0 Lr u92 u93 u94 p0 u9e u9f u9g
  try dsimp only at h
  subst u9g
  refine Zf Tryz.f146 B146 61 ?_
  refine Gj 62 [(0, (ag (vT26 x0 u92 x0.L.length u94)))] fun junk => ?_
  refine Gn 2 [] (Yt 10 B146 [0, 1] (Ys 11 B146 [])) ?_
  refine Ob 27 0 1 0 (ag (vT26 x0 u92 x0.L.length u94)) (vT26 x0 u92 x0.L.length u94) p0 Xa fun b1 w2 z2 p2 => ?_
  refine Gm 10 [([2, 3], .i 0), ([7], (pt b1 0))] (Yt 11100 B146 [1] (Ys 11101 B146 Jxq)) ?_
  refine Xb 3 7 8 3 ⟨b1, 0, none⟩ (.i x0.Kind) (p2.c 0 0) ?_
  refine Gm 14 [([10, 9], .bool (decide (x0.Kind = 3)))] (Yt 111010000000000 B146 [] Jy8) ?_
  refine Gn 1 [] Jy8 ?_
  refine Gi h (fun h3 h => ?_) fun h3 h => ?_
  ·
   rw [dt h3]
   refine Gn 4 [(15, (pt b1 5))] (Zr Qrt [1, 2, 3, 4, 5] Jy3) ?_
   refine Xb 25 15 16 25 ⟨b1, 5, none⟩ (.slice u92 x0.L.length u94) (p2.c 0 5) ?_
   refine Gm 10 [([17], .i (x0.L.length : Int)), ([18], .i (wr .i64 ((x0.L.length : Int) - 1))), ([19, 3], .i (imx 0 (wr .i64 ((x0.L.length : Int) - 1)))), ([20], (pt b1 5))] Jyc ?_
   refine Xb 25 20 21 25 ⟨b1, 5, none⟩ (.slice u92 x0.L.length u94) (p2.c 0 5) ?_
   refine Gn 5 [(22, .i (x0.L.length : Int)), (23, .i 0)] Jxx ?_
   have p2 := p2.dp 0
   exact Gj 62 [(3, .i (imx 0 (wr .i64 ((x0.L.length : Int) - 1)))), (21, .slice u92 x0.L.length u94), (22, .i (x0.L.length : Int)), (23, .i 0)] (ukc _ _ h _ _ z2 _ _ _ p2 (u9f.ext z2) rfl)
  ·
   rw [df h3]
   refine Gm 8 [([12, 11], .bool (decide (x0.Kind = 2)))] (Ys 1110100000000101 B146 (Ys 111010000000011 B146 Jy6)) ?_
   refine Gi h (fun h4 h => ?_) fun h4 h => ?_
   ·
    rw [dt h4]
    refine Gn 6 [(20, (pt b1 5))] Jyc ?_
    refine Xb 25 20 21 25 ⟨b1, 5, none⟩ (.slice u92 x0.L.length u94) (p2.c 0 5) ?_
    refine Gn 5 [(22, .i (x0.L.length : Int)), (23, .i 0)] Jxx ?_
    have p2 := p2.dp 0
    exact Gj 62 [(3, .i 0), (21, .slice u92 x0.L.length u94), (22, .i (x0.L.length : Int)), (23, .i 0)] (ukc _ _ h _ _ z2 _ _ _ p2 (u9f.ext z2) rfl)
   ·
    rw [df h4]
    refine Gm 7 [([14, 13], .bool (decide (x0.Kind = 4)))] (Ys 1110100000000111 B146 Jy6) ?_
    refine Gi h (fun h5 h => ?_) fun h5 h => ?_
    ·
     rw [dt h5]
     refine Gn 6 [(33, (pt b1 5))] (Yt 111010100 B146 [1, 2, 3, 4, 5] (Ys 111010101 B146 Jyg)) ?_
     refine Xb 25 33 34 25 ⟨b1, 5, none⟩ (.slice u92 x0.L.length u94) (p2.c 0 5) ?_
     refine Gg h fun g6 h => ?_
     refine Oi 25 34 (.const (.int .i64 0)) 35 0 27 .i64 0 (gi x0.L 0) rfl rfl (u9f.ext z2) Xa (by decide : (0 : Int) ≤ 0) g6 fun a7 _ f8 q9 => ?_
     have q10 := q9
     obtain ⟨_, _, rfl, rfl, ⟨_, _, rfl, ⟨l11, f12⟩, ⟨_, _, rfl, ⟨A13, c14, rfl, f15⟩, ⟨_, _, rfl, rfl, rfl⟩⟩⟩⟩ := kT26_open q10
     obtain rfl := els_lit4' f12 l11
     refine Xf 27 35 36 27 a7 ([.i ((gi x0.L 0).Kind)] ++ ((U4 ((gi x0.L 0).Set) []) ++ ([.slice A13 (((gi x0.L 0).L).length) c14] ++ ([.i ((gi x0.L 0).Min)] ++ [.i ((gi x0.L 0).Max)])))) (f8.cell) ?_
     refine Gb h fun y16 e17 h => ?_
     refine Gc (kc 146 [36] #[27]) 37 3 146 _ (ih_prog_size (⟨(gi x0.L 0).Kind, ((gi x0.L 0).Set), (gi x0.L 0).L, (gi x0.L 0).Min, (gi x0.L 0).Max⟩ : T26) y16 e17 _ _ _ p2 l11 f15 rfl) ?_
     rintro _ w3 ⟨S3, rfl, z3, p3⟩
     refine Gn 5 [(6, .i y16), (38, (pt b1 6))] (Yt 1110101010 B146 [1, 2, 3, 4] (Ys 1110101011 B146 Jyg)) ?_
     refine Xb 3 38 39 3 ⟨b1, 6, none⟩ (.i x0.Min) (p3.c 0 6) ?_
     refine Gm 7 [([40], .i y16), ([41, 3], .i (wr .i64 (x0.Min * y16))), ([42], (pt b1 7))] (Yt 11101010110 B146 [1, 2] Jyl) ?_
     refine Xb 3 42 43 3 ⟨b1, 7, none⟩ (.i x0.Max) (p3.c 0 7) ?_
     refine Gn 2 [(44, .bool (decide (x0.Max < 0)))] Jyl ?_
     refine Gi h (fun h18 h => ?_) fun h18 h => ?_
     ·
      rw [dt h18]
      refine Gm 14 [([45], .i (wr .i64 (x0.Min * y16))), ([46], .i y16), ([47], .i (wr .i64 (y16 + 1))), ([48, 3, 59], .i (wr .i64 ((wr .i64 (x0.Min * y16)) + (wr .i64 (y16 + 1))))), ([60], .i (imx 1 (wr .i64 ((wr .i64 (x0.Min * y16)) + (wr .i64 (y16 + 1)))))), ([61], .i (imn 1048576 (imx 1 (wr .i64 ((wr .i64 (x0.Min * y16)) + (wr .i64 (y16 + 1)))))))] (Zr Qsb [3] Jyn) ?_
      refine Gn 2 [(2, .i (imn 1048576 (imx 1 (wr .i64 ((wr .i64 (x0.Min * y16)) + (wr .i64 (y16 + 1)))))))] Jyn ?_
      obtain rfl := sj h
      have p3 := p3.dp 0
      exact Xc Tryz.f146 (.i (imn 1048576 (imx 1 (wr .i64 ((wr .i64 (x0.Min * y16)) + (wr .i64 (y16 + 1))))))) ⟨_, rfl, (z2.t z3), p3⟩
     ·
      rw [df h18]
      refine Gn 4 [(49, .i (wr .i64 (x0.Min * y16))), (50, (pt b1 7))] (Zr Qsc [2, 3, 4, 5, 6, 7, 8, 9, 10] Jyg) ?_
      refine Xb 3 50 51 3 ⟨b1, 7, none⟩ (.i x0.Max) (p3.c 0 7) ?_
      refine Gn 1 [(52, (pt b1 6))] (Zr Qsc [4, 5, 6, 7, 8, 9, 10] Jyg) ?_
      refine Xb 3 52 53 3 ⟨b1, 6, none⟩ (.i x0.Min) (p3.c 0 6) ?_
      refine Gm 14 [([54], .i (wr .i64 (x0.Max - x0.Min))), ([55], .i y16), ([56], .i (wr .i64 (y16 + 1))), ([57], .i (wr .i64 ((wr .i64 (x0.Max - x0.Min)) * (wr .i64 (y16 + 1))))), ([58, 3, 59], .i (wr .i64 ((wr .i64 (x0.Min * y16)) + (wr .i64 ((wr .i64 (x0.Max - x0.Min)) * (wr .i64 (y16 + 1))))))), ([60], .i (imx 1 (wr .i64 ((wr .i64 (x0.Min * y16)) + (wr .i64 ((wr .i64 (x0.Max - x0.Min)) * (wr .i64 (y16 + 1)))))))), ([61, 2], .i (imn 1048576 (imx 1 (wr .i64 ((wr .i64 (x0.Min * y16)) + (wr .i64 ((wr .i64 (x0.Max - x0.Min)) * (wr .i64 (y16 + 1)))))))))] (Zr Qsb [] Jyn) ?_
      refine Gn 1 [] Jyn ?_
      obtain rfl := sj h
      have p3 := p3.dp 0
      exact Xc Tryz.f146 (.i (imn 1048576 (imx 1 (wr .i64 ((wr .i64 (x0.Min * y16)) + (wr .i64 ((wr .i64 (x0.Max - x0.Min)) * (wr .i64 (y16 + 1))))))))) ⟨_, rfl, (z2.t z3), p3⟩
    ·
     rw [df h5]
     refine Gm 10 [([59], .i 0), ([60, 61, 2], .i 1)] Jyn ?_
     obtain rfl := sj h
     have p2 := p2.dp 0
     exact Xc Tryz.f146 (.i 1) ⟨_, rfl, z2, p2⟩
 ·
  intro rec_prog_size ukb ih_prog_size ukc ⟨x3, x21, x22, x23⟩ r h nz wz S0 w0 Lr S1 w1 hx uk8 uk9 uka p1 ukd uke junk
  try dsimp only at h
  subst uke
  refine Gn 5 [(24, .bool (decide (x23 < x22)))] (Ys 111010001010010 B146 (Ys 111010001010011 B146 Jxw)) ?_
  refine Gi h (fun h19 h => ?_) fun h19 h => ?_
  ·
   rw [dt h19]
   refine Gn 6 [] (Yt 111010001010011000 B146 [0, 1, 2, 3] (Zc Qsg Jyv)) ?_
   refine Gg h fun g20 h => ?_
   refine Gg h fun g21 h => ?_
   refine Oi 25 21 23 25 0 27 .i64 x23 (gi x21 x23) rfl rfl ukd Xa g20 g21 fun a22 _ f23 q24 => ?_
   have q25 := q24
   obtain ⟨_, _, rfl, rfl, ⟨_, _, rfl, ⟨l26, f27⟩, ⟨_, _, rfl, ⟨A28, c29, rfl, f30⟩, ⟨_, _, rfl, rfl, rfl⟩⟩⟩⟩ := kT26_open q25
   obtain rfl := els_lit4' f27 l26
   refine Xf 27 25 26 27 a22 ([.i ((gi x21 x23).Kind)] ++ ((U4 ((gi x21 x23).Set) []) ++ ([.slice A28 (((gi x21 x23).L).length) c29] ++ ([.i ((gi x21 x23).Min)] ++ [.i ((gi x21 x23).Max)])))) (f23.cell) ?_
   refine Oa 27 5 0 (.agg #[.i 0, .u 0, .u 0, .u 0, .u 0, .slice none 0 0, .i 0, .i 0]) [.i 0, .u 0, .u 0, .u 0, .u 0, .slice none 0 0, .i 0, .i 0] p1 Xa fun b31 w4 z4 p4 => ?_
   refine So 27 5 26 0 0 b31 0 (ag (.i ((gi x21 x23).Kind) :: U4 ((gi x21 x23).Set) [.slice A28 (((gi x21 x23).L).length) c29, .i ((gi x21 x23).Min), .i ((gi x21 x23).Max)])) (.i ((gi x21 x23).Kind) :: U4 ((gi x21 x23).Set) [.slice A28 (((gi x21 x23).L).length) c29, .i ((gi x21 x23).Min), .i ((gi x21 x23).Max)]) p4 rfl Xd fun w5 z5 p5 => ?_
   refine Gn 3 [(27, .i x3)] (Zr Qsg [1, 2, 3, 4, 5] Jyv) ?_
   refine Xf 27 5 28 27 ⟨b31, 0, none⟩ (.i ((gi x21 x23).Kind) :: U4 ((gi x21 x23).Set) [.slice A28 (((gi x21 x23).L).length) c29, .i ((gi x21 x23).Min), .i ((gi x21 x23).Max)]) (p5.pa 0 0) ?_
   refine Gb h fun y33 e34 h => ?_
   refine Gc (kc 146 [28] #[27]) 29 3 146 _ (ih_prog_size (⟨(gi x21 x23).Kind, ((gi x21 x23).Set), (gi x21 x23).L, (gi x21 x23).Min, (gi x21 x23).Max⟩ : T26) y33 e34 _ _ _ p5 l26 (f30.ext (z4.t z5)) rfl) ?_
   rintro _ w6 ⟨S6, rfl, z6, p6⟩
   have p6 := p6.dp 0
   refine Gm 10 [([30], .i (wr .i64 (x3 + y33))), ([31, 3], .i (imn 1048576 (wr .i64 (x3 + y33)))), ([32, 23], .i (wr .i64 (x23 + 1)))] Jxx ?_
   exact Gj 62 [(3, .i (imn 1048576 (wr .i64 (x3 + y33)))), (21, .slice uk8 x21.length uka), (22, .i x22), (23, .i (wr .i64 (x23 + 1)))] (ukc _ _ h _ _ (((hx.t z4).t z5).t z6) _ _ _ p6 (ukd.ext ((z4.t z5).t z6)) rfl)
  ·
   rw [df h19]
   refine Gm 10 [([59], .i x3), ([60], .i (imx 1 x3)), ([61, 2], .i (imn 1048576 (imx 1 x3)))] Jyn ?_
   obtain rfl := sj h
   exact Xc Tryz.f146 (.i (imn 1048576 (imx 1 x3))) ⟨_, rfl, hx, p1⟩
theorem W.z4q : ∀ a r, M.ag a = some r → LF.z4q a r := (W.z4s).1
theorem W.z4r : ∀ a r, M.a2e a = some r → LL.z4r a r := (W.z4s).2
def Jz1 := Ys 111 B87 []
def Jz2 := Ys 1101 B87 Jz1
def Jz4 := Ys 1111 B87 []
def Post.z4t (r : Int × Int) (v : Value) (w' : World) : Prop :=
 ∃ S', v = .tuple #[.i r.1, .i r.2] ∧ Ext S0 w0 S' w' ∧ Hp nz wz S' w' (Lr)
theorem W.z4t (x0 : T26) (r : Int × Int) (h : M.a4u x0 = some r) {nz wz S0 w0 Lr} (u92 u93 u94) (p0 : Hp nz wz S0 w0 (Lr)) (u9e : x0.Set.length = 4) (u9f : Rd kT26 S0 w0 u92 u94 x0.L) (u9g : x0.L.length = u93) :
  Calls Tg 87 #[(ag (vT26 x0 u92 u93 u94))] w0 (Rets (Post.z4t nz wz S0 w0 Lr r)) := by
 subst u9g
 refine Zf Tryz.f87 B87 10 ?_
 refine Gj 11 [(0, (ag (vT26 x0 u92 x0.L.length u94)))] fun junk => ?_
 delta M.a4u at h
 refine Gn 2 [] (Yt 10 B87 [0, 1, 2] (Ys 11 B87 [])) ?_
 refine Ob 27 0 1 0 (ag (vT26 x0 u92 x0.L.length u94)) (vT26 x0 u92 x0.L.length u94) p0 Xa fun b1 w2 z2 p2 => ?_
 refine Gm 6 [([2, 3], .i 0)] (Yt 1100 B87 [0, 1, 2] Jz2) ?_
 refine Xf 27 1 4 27 ⟨b1, 0, none⟩ (vT26 x0 u92 x0.L.length u94) (p2.pa 0 0) ?_
 refine Gb h fun y3 e4 h => ?_
 refine Gc (kc 53 [4] #[27]) 5 4 53 _ (W.z1z x0 y3 e4 _ _ _ p2 u9e (u9f.ext z2) rfl) ?_
 rintro _ w3 ⟨S3, rfl, z3, p3⟩
 refine Gn 2 [(6, .bool (!y3))] Jz2 ?_
 refine Gi h (fun h5 h => ?_) fun h5 h => ?_
 ·
  rw [h5]
  refine Gn 4 [] (Yt 1110 B87 [0, 1, 2, 3, 4, 5] Jz4) ?_
  refine Xf 27 1 7 27 ⟨b1, 0, none⟩ (vT26 x0 u92 x0.L.length u94) (p3.pa 0 0) ?_
  refine Gb h fun y6 e7 h => ?_
  refine Gc (kc 146 [7] #[27]) 8 3 146 _ (W.z4q x0 y6 e7 _ _ _ p3 u9e (u9f.ext (z2.t z3)) rfl) ?_
  rintro _ w4 ⟨S4, rfl, z4, p4⟩
  have p4 := p4.dp 0
  refine Gm 5 [([9], .i (wr .i64 (y6 + 1))), ([10, 2], .i (imn 1048576 (wr .i64 (y6 + 1)))), ([3], .i 0)] Jz4 ?_
  obtain rfl := sj h
  exact Xc Tryz.f87 (.tuple #[.i (imn 1048576 (wr .i64 (y6 + 1))), .i 0]) ⟨_, rfl, ((z2.t z3).t z4), p4⟩
 ·
  rw [bf h5]
  refine Gn 6 [(2, .i 0), (3, .i 2)] (Ys 110101 B87 Jz1) ?_
  obtain rfl := sj h
  have p3 := p3.dp 0
  exact Xc Tryz.f87 (.tuple #[.i 0, .i 2]) ⟨_, rfl, (z2.t z3), p3⟩
def Jzb := Ys 1111 B89 []
def Post.z4u (gx0 : Nat) (r : Int × (List T174)) (v : Value) (w' : World) : Prop :=
 ∃ S' ukf ukg ukh uki, v = .i r.1 ∧ Ext S0 w0 S' w' ∧ Hp nz wz S' w' ((some gx0, .row 171 [.slice (Gp ukf) ukg ukh] 1 0) :: (ukf, .row 175 uki (ukh * kT174.size) 0) :: Lr) ∧ Els kT174 S' w' uki r.2 ∧ r.2.length = ukg
theorem W.z4u (ukj : List T174) (x1 : T174) (r : Int × (List T174)) (h : M.ah ukj x1 = some r) {nz wz S0 w0 Lr} (gx0 ukk ukl ukm ukn) (p0 : Hp nz wz S0 w0 ((some gx0, .row 171 [.slice (Gp ukk) ukl ukm] 1 0) :: (ukk, .row 175 ukn (ukm * kT174.size) 0) :: Lr)) (uko : Els kT174 S0 w0 ukn ukj) (ukp : ukj.length = ukl) (ukq : x1.Set.length = 4) :
  Calls Tg 89 #[(pt gx0 0), (ag (vT174 x1))] w0 (Rets (Post.z4u nz wz S0 w0 Lr gx0 r)) := by
 subst ukp
 refine Zf Tryz.f89 B89 19 ?_
 refine Gj 21 [(0, (pt gx0 0)), (1, (ag (vT174 x1)))] fun junk => ?_
 delta M.ah at h
 refine Gn 2 [] (Yt 10 B89 [0, 1] (Ys 11 B89 [])) ?_
 refine Ob 175 1 3 0 (ag (vT174 x1)) (vT174 x1) p0 Xa fun b3 w2 z2 p2 => ?_
 refine Gn 3 [(4, .i 0)] (Ys 110 B89 (Ys 111 B89 [])) ?_
 have z3 : Ext S0 w2 S0 (w2).drew := Xm
 have p3 := p2.draw
 refine Gd [10] (Fc S0 (w2).drew [(⟨gx0, 0, none⟩, .slice (Gp ukk) ukj.length ukm), (⟨b3, 0, none⟩, .i x1.Op), (⟨b3, 1, none⟩, .u (gi x1.Set 0)), (⟨b3, 2, none⟩, .u (gi x1.Set 1)), (⟨b3, 3, none⟩, .u (gi x1.Set 2)), (⟨b3, 4, none⟩, .u (gi x1.Set 3)), (⟨b3, 5, none⟩, .i x1.X), (⟨b3, 6, none⟩, .i x1.Y)]) 1 11 ?_
 generalize (w2).drew = w3 at z3 p3 ⊢
 refine Xe 0 (.move 0) 5 169 ((pt gx0 0)) (p3.k [(1, 0, 1), (0, 0, 7)]) ?_
 refine Xe 1 (.move 0) 6 169 ((pt gx0 0)) (p3.k [(1, 0, 1), (0, 0, 7)]) ?_
 refine Xe 2 (.nilCheck 6) 7 0 ((pt gx0 0)) (p3.k [(1, 0, 1), (0, 0, 7)]) ?_
 refine Xe 3 (.fieldAddr 171 7 0) 8 0 ((pt gx0 0)) (p3.k [(1, 0, 1), (0, 0, 7)]) ?_
 refine Al 4 77 8 9 77 ⟨gx0, 0, none⟩ (.slice (Gp ukk) ukj.length ukm) (p3.k [(1, 0, 1), (0, 0, 7)]) (fun _ h => h.2.at_ 0 rfl) ?_
 refine Xv (i := 5) 175 3 10 175 ⟨b3, 0, none⟩ (vT174 x1) (by kernel_rfl) (by kernel_rfl) (p3.k [(1, 0, 1), (0, 0, 7)]) (by kernel_rfl) (by kernel_rfl) (by kernel_rfl) (fun _ h j v hj => by match j, hj with | 0, rfl => exact h.2.at_ 1 rfl | 1, rfl => exact h.2.at_ 2 rfl | 2, rfl => exact h.2.at_ 3 rfl | 3, rfl => exact h.2.at_ 4 rfl | 4, rfl => exact h.2.at_ 5 rfl | 5, rfl => exact h.2.at_ 6 rfl | 6, rfl => exact h.2.at_ 7 rfl | (j + 7), hj => simp at hj) ?_
 have f6 : Els kT174 S0 w3 ((vT174 x1) : List Value) [x1] := by exact (Els.cons (K := kT174) (vs := (vT174 x1)) (x := x1) ⟨[.i x1.Op], (U4 x1.Set [.i x1.X, .i x1.Y]), rfl, rfl, ⟨(U4 x1.Set []), [.i x1.X, .i x1.Y], rfl, ⟨ukq, els_mk4 ukq⟩, ⟨[.i x1.X], [.i x1.Y], rfl, rfl, rfl⟩⟩⟩ Els.nil)
 refine Om (.buildSlice 77 1 #[(0, 10)]) 11 77 (fun b => .slice (Gp (some b)) 1 1) 175 ((vT174 x1) : List Value) (1 * kT174.size) p3 (Av 6) fun b5 w4 z4 p4 => ?_
 refine Xl z4 ⟨(p4.c 2 0), (p4.c 1 0), (p4.c 1 1), (p4.c 1 2), (p4.c 1 3), (p4.c 1 4), (p4.c 1 5), (p4.c 1 6), trivial⟩ ?_
 refine Gg h fun g11 h => ?_
 refine On (K := kT174) 77 9 11 12 77 175 3 (.agg #[.i 0, .u 0, .u 0, .u 0, .u 0, .i 0, .i 0]) 56 ukj.length ukm 1 ukj [x1] (ukj ++ [x1]) (Gp (some b5)) 1 rfl rfl rfl p4 rfl (uko.ext ((z2.t z3).t z4)) (Av 7) (f6.ext z4) (src_own p4 (q := 0) rfl) g11 fun w5 G12 c13 ueh z5 p5 f15 => ?_
 refine Xl z5 ⟨(p5.c 2 0), (p5.c 1 0), (p5.c 1 1), (p5.c 1 2), (p5.c 1 3), (p5.c 1 4), (p5.c 1 5), (p5.c 1 6), trivial⟩ ?_
 refine Xe 8 (.nilCheck 5) 13 0 ((pt gx0 0)) (p5.k [(2, 0, 1), (1, 0, 7)]) ?_
 refine Xe 9 (.fieldAddr 171 13 0) 14 0 ((pt gx0 0)) (p5.k [(2, 0, 1), (1, 0, 7)]) ?_
 refine So 77 14 12 0 2 gx0 0 (.slice (Gp G12) ((ukj ++ [x1]).length) c13) [.slice (Gp G12) ((ukj ++ [x1]).length) c13] p5 rfl (As 10) fun w6 z6 p6 => ?_
 refine Xi [] (Fc S0 w6 []) (by decide) ?_
 refine Ad ?_
 have p6 := (p6.dp 0).dp 0
 refine Gm 5 [([15, 16, 17], (pt gx0 0))] (Yt 1110 B89 [3, 4, 5, 6] Jzb) ?_
 refine Xb 77 17 18 77 ⟨gx0, 0, none⟩ (.slice (Gp G12) ((ukj ++ [x1]).length) c13) (p6.c 0 0) ?_
 refine Gm 4 [([19], .i ((ukj ++ [x1]).length : Int)), ([20, 4], .i (wr .i64 (((ukj ++ [x1]).length : Int) - 1)))] Jzb ?_
 obtain rfl := sj h
 exact Xc Tryz.f89 (.i (wr .i64 (((ukj ++ [x1]).length : Int) - 1))) ⟨_, _, _, _, _, rfl, ((((z2.t z3).t z4).t z5).t z6), p6, (f15.ext z6), rfl⟩
end
end Go.Gx
