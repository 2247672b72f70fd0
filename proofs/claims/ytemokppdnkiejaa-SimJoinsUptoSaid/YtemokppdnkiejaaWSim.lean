import Derived.Test.YtemokppdnkiejaaWSime

set_option linter.unusedVariables false

set_option maxRecDepth 100000

set_option maxHeartbeats 4000000

namespace Go.Gx

open Go.RowKit Go.Proofs

variable (nz : Nat) (wz : World) (S0 : Fz) (w0 : World) (Lr : List Ent)

noncomputable section

def Qsa := sub [1, 1, 1, 1, 1, 1, 1, 1, 1] B5
def J10g : List Item := [.code Qsa]
def J10h : List Item := .inBlock 0 :: J10g
def Qsb := sub [1, 1, 1, 1, 1, 1, 1, 1, 0, 1, 0, 0] B5
def J10i : List Item := .inLoop Qsb :: J10h
def J10j : List Item := .code Qsb :: J10i
def Qsc := sub [1, 1, 1, 1, 1, 1, 1, 1, 0, 1, 0, 0, 1, 1] B5
def J10k : List Item := .code Qsc :: J10i
def J10l : List Item := .inBlock 1 :: J10k
def Qsd := sub [1, 1, 1, 1, 1, 1, 1, 1, 0, 1, 0, 0, 1, 0, 0, 1] B5
def J10m : List Item := .code Qsd :: J10l
def Qse := sub [1, 1, 1, 1, 1, 1, 1, 1, 0, 1, 0, 0, 1] B5
def J10n : List Item := .code Qse :: J10i
def Qsf := sub [1, 1, 1, 1, 1, 1, 1, 1, 0, 1, 0, 0, 0, 1] B5
def J10o : List Item := .code Qsf :: J10n
def Qsg := sub [1, 1, 1, 1, 1, 1, 1, 1, 0, 1, 0, 0, 1, 0, 0, 0] B5
def J10p : List Item := .code Qsg :: J10m
def Qsh := sub [1, 1, 1, 1, 1, 1, 1, 1, 1, 1] B5
def J10q : List Item := [.code Qsh]
def Qsi := sub [1, 1, 1, 1, 1, 1, 1, 1, 1, 0] B5
def J10r : List Item := .code Qsi :: J10q

def Post.z59 (r : Bool) (v : Value) (w' : World) : Prop :=
 ∃ S', v = .bool r ∧ Ext S0 w0 S' w' ∧ Hp nz wz S' w' (Lr)

def L.z5a : ByteArray × T27 × T27 × T27 × Bool × Bool × Int → Bool → Prop := fun ⟨x2, x3v, x4v, u18j, x12, x13, x14⟩ r => ∀ S1 w1, Ext S0 w0 S1 w1 → ∀ gx3 u18k u97 u98 u18l u18m gx4 u18n uba ubb u18o u18p u18q u18r u18s u18t u18u u18v (_ : Hp nz wz S1 w1 ((some gx3, .row 28 (.i x3v.Kind :: U4 x3v.Set [.slice (Gp u18k) u97 u98, .i x3v.Min, .i x3v.Max]) 8 0) :: (u18k, .row 28 u18l (u98 * kT27.size) u18m) :: (some gx4, .row 28 (.i x4v.Kind :: U4 x4v.Set [.slice (Gp u18n) uba ubb, .i x4v.Min, .i x4v.Max]) 8 0) :: (u18n, .row 28 u18o (ubb * kT27.size) u18p) :: (some u18q, .row 28 (.i u18j.Kind :: U4 u18j.Set [.slice (Gp u18r) u18s u18t, .i u18j.Min, .i u18j.Max]) 8 0) :: (u18r, .row 28 u18u (u18t * kT27.size) u18v) :: Lr)) (_ : x3v.Set.length = 4) (_ : Els kT27 S1 w1 u18l x3v.L) (_ : x3v.L.length = u97) (_ : x4v.Set.length = 4) (_ : Els kT27 S1 w1 u18o x4v.L) (_ : x4v.L.length = uba) (_ : u18j.Set.length = 4) (_ : Els kT27 S1 w1 u18u u18j.L) (_ : u18j.L.length = u18s) (junk : Nat → Value),
 Goes Try.prog (base 5) J10j ⟨lfr 117 [(2, .string x2), (3, (pt gx3 0)), (4, (pt gx4 0)), (11, (pt u18q 0)), (12, .bool x12), (13, .bool x13), (14, .i x14)] junk, []⟩ w1 (Done Try.prog 5 (Rets (Post.z59 nz wz S0 w0 Lr r)))

def L.z5b : ByteArray × T27 × T27 × T27 × Bool × Bool × Int → Bool → Prop := fun ⟨x2, x3v, x4v, u18j, x12, x13, x14⟩ r => ∀ S1 w1, Ext S0 w0 S1 w1 → ∀ gx3 u18k u97 u98 u18l u18m gx4 u18n uba ubb u18o u18p u18q u18r u18s u18t u18u u18v (_ : Hp nz wz S1 w1 ((some gx3, .row 28 (.i x3v.Kind :: U4 x3v.Set [.slice (Gp u18k) u97 u98, .i x3v.Min, .i x3v.Max]) 8 0) :: (u18k, .row 28 u18l (u98 * kT27.size) u18m) :: (some gx4, .row 28 (.i x4v.Kind :: U4 x4v.Set [.slice (Gp u18n) uba ubb, .i x4v.Min, .i x4v.Max]) 8 0) :: (u18n, .row 28 u18o (ubb * kT27.size) u18p) :: (some u18q, .row 28 (.i u18j.Kind :: U4 u18j.Set [.slice (Gp u18r) u18s u18t, .i u18j.Min, .i u18j.Max]) 8 0) :: (u18r, .row 28 u18u (u18t * kT27.size) u18v) :: Lr)) (_ : x3v.Set.length = 4) (_ : Els kT27 S1 w1 u18l x3v.L) (_ : x3v.L.length = u97) (_ : x4v.Set.length = 4) (_ : Els kT27 S1 w1 u18o x4v.L) (_ : x4v.L.length = uba) (_ : u18j.Set.length = 4) (_ : Els kT27 S1 w1 u18u u18j.L) (_ : u18j.L.length = u18s) (junk : Nat → Value),
 Goes Try.prog (base 5) J10m ⟨lfr 117 [(2, .string x2), (3, (pt gx3 0)), (4, (pt gx4 0)), (11, (pt u18q 0)), (12, .bool x12), (13, .bool x13), (14, .i x14)] junk, []⟩ w1 (Done Try.prog 5 (Rets (Post.z59 nz wz S0 w0 Lr r)))

def L.z5c : ByteArray × T27 × T27 × T27 × Bool × Bool × Int → Bool → Prop := fun ⟨x2, x3v, x4v, u18j, x12, x13, x14⟩ r => ∀ S1 w1, Ext S0 w0 S1 w1 → ∀ gx3 u18k u97 u98 u18l u18m gx4 u18n uba ubb u18o u18p u18q u18r u18s u18t u18u u18v (_ : Hp nz wz S1 w1 ((some gx3, .row 28 (.i x3v.Kind :: U4 x3v.Set [.slice (Gp u18k) u97 u98, .i x3v.Min, .i x3v.Max]) 8 0) :: (u18k, .row 28 u18l (u98 * kT27.size) u18m) :: (some gx4, .row 28 (.i x4v.Kind :: U4 x4v.Set [.slice (Gp u18n) uba ubb, .i x4v.Min, .i x4v.Max]) 8 0) :: (u18n, .row 28 u18o (ubb * kT27.size) u18p) :: (some u18q, .row 28 (.i u18j.Kind :: U4 u18j.Set [.slice (Gp u18r) u18s u18t, .i u18j.Min, .i u18j.Max]) 8 0) :: (u18r, .row 28 u18u (u18t * kT27.size) u18v) :: Lr)) (_ : x3v.Set.length = 4) (_ : Els kT27 S1 w1 u18l x3v.L) (_ : x3v.L.length = u97) (_ : x4v.Set.length = 4) (_ : Els kT27 S1 w1 u18o x4v.L) (_ : x4v.L.length = uba) (_ : u18j.Set.length = 4) (_ : Els kT27 S1 w1 u18u u18j.L) (_ : u18j.L.length = u18s) (junk : Nat → Value),
 Goes Try.prog (base 5) J10l ⟨lfr 117 [(2, .string x2), (3, (pt gx3 0)), (4, (pt gx4 0)), (11, (pt u18q 0)), (12, .bool x12), (13, .bool x13), (14, .i x14)] junk, []⟩ w1 (Done Try.prog 5 (Rets (Post.z59 nz wz S0 w0 Lr r)))

theorem W.z5d {nz wz S0 w0 Lr} : (∀ a r, M.tidepolelaw12_SimJoins_l1 a = some r → (L.z5a nz wz S0 w0 Lr) a r) ∧ (∀ a r, M.tidepolelaw12_SimJoins_l2 a = some r → (L.z5b nz wz S0 w0 Lr) a r) ∧ (∀ a r, M.tidepolelaw12_SimJoins_l3 a = some r → (L.z5c nz wz S0 w0 Lr) a r) := by
 refine M.tidepolelaw12_SimJoins_l1.mutual_partial_correctness (L.z5a nz wz S0 w0 Lr) (L.z5b nz wz S0 w0 Lr) (L.z5c nz wz S0 w0 Lr) ?_ ?_ ?_
 ·
  intro u18w u18x ⟨x2, x3v, x4v, u18j, x12, x13, x14⟩ r h S1 w1 hx gx3 u18k u97 u98 u18l u18m gx4 u18n uba ubb u18o u18p u18q u18r u18s u18t u18u u18v p1 u9j u9k u9l ube ubf ubg u18y u18z u190 junk
  try dsimp only at h
  subst u9l
  subst ubg
  subst u190
  refine Goes.rn 8 [(45, .i x14), (46, .string x2), (47, .i (x2.size : Int)), (48, .bool (decide (x14 ≤ (x2.size : Int))))] J10o ?_
  refine ite_some h (fun h36 h => ?_) (fun h36 h => ?_)
  ·
   rw [decide_eq_true h36]
   refine Goes.rn 5 [] J10p ?_
   have z13 : Ext S1 w1 S1 (w1).drew := Ext.draw
   have p13 := p1.draw
   refine Goes.drawn (s := [6, 12]) (F := Fc S1 (w1).drew [(⟨gx3, 0, none⟩, .i x3v.Kind), (⟨gx3, 1, none⟩, .u (gi x3v.Set 0)), (⟨gx3, 2, none⟩, .u (gi x3v.Set 1)), (⟨gx3, 3, none⟩, .u (gi x3v.Set 2)), (⟨gx3, 4, none⟩, .u (gi x3v.Set 3)), (⟨gx3, 5, none⟩, .slice (Gp u18k) x3v.L.length u98), (⟨gx3, 6, none⟩, .i x3v.Min), (⟨gx3, 7, none⟩, .i x3v.Max), (⟨gx4, 0, none⟩, .i x4v.Kind), (⟨gx4, 1, none⟩, .u (gi x4v.Set 0)), (⟨gx4, 2, none⟩, .u (gi x4v.Set 1)), (⟨gx4, 3, none⟩, .u (gi x4v.Set 2)), (⟨gx4, 4, none⟩, .u (gi x4v.Set 3)), (⟨gx4, 5, none⟩, .slice (Gp u18n) x4v.L.length ubb), (⟨gx4, 6, none⟩, .i x4v.Min), (⟨gx4, 7, none⟩, .i x4v.Max)]) 13 16 (by kernel_rfl) (by kernel_rfl) (by kernel_rfl) (by kernel_rfl) ?_
   generalize (w1).drew = w13 at z13 p13 ⊢
   refine AnyG.pu 0 (.move (.tmp 12)) 51 4 (.bool x12) (Fc.here (p13.cs [(0, 0, 8), (2, 0, 8)])) ?_
   refine AnyG.pu 1 (.move (.tmp 51)) 52 4 (.bool x12) (Fc.here (p13.cs [(0, 0, 8), (2, 0, 8)])) ?_
   refine ite_some h (fun h37 h => ?_) (fun h37 h => ?_)
   ·
    rw [h37]
    refine AnyG.s1 2 53 (Fc.here (p13.cs [(0, 0, 8), (2, 0, 8)])) ?_
    refine AnyG.s1 3 54 (Fc.here (p13.cs [(0, 0, 8), (2, 0, 8)])) ?_
    refine AnyG.s1 4 55 (Fc.here (p13.cs [(0, 0, 8), (2, 0, 8)])) ?_
    refine AnyG.s1 5 56 (Fc.here (p13.cs [(0, 0, 8), (2, 0, 8)])) ?_
    refine AnyG.skipL1 (i := 6) 57 (by kernel_rfl) (by kernel_rfl) (.inl (by decide)) ?_
    refine AnyG.s1 7 58 (Fc.here (p13.cs [(0, 0, 8), (2, 0, 8)])) ?_
    refine AnyG.s1 8 59 (Fc.here (p13.cs [(0, 0, 8), (2, 0, 8)])) ?_
    refine AnyG.s1 9 60 (Fc.here (p13.cs [(0, 0, 8), (2, 0, 8)])) ?_
    refine AnyG.s1 10 61 (Fc.here (p13.cs [(0, 0, 8), (2, 0, 8)])) ?_
    refine AnyG.s1 11 62 (Fc.here (p13.cs [(0, 0, 8), (2, 0, 8)])) ?_
    refine AnyG.skipL1 (i := 12) 63 (by kernel_rfl) (by kernel_rfl) (.inl (by decide)) ?_
    refine AnyG.s1 13 64 (Fc.here (p13.cs [(0, 0, 8), (2, 0, 8)])) ?_
    refine AnyG.pu 14 (.pick (.tmp 52) (.const (.bool true)) (.tmp 64)) 65 4 (.bool true) (Fc.here (p13.cs [(0, 0, 8), (2, 0, 8)])) ?_
    refine AnyG.pu 15 (.assign (.tmp 65)) 12 4 (.bool true) (Fc.here (p13.cs [(0, 0, 8), (2, 0, 8)])) ?_
    refine AnyG.done (by kernel_rfl) ?_ _
    exact Goes.jp 117 [(2, .string x2), (3, (pt gx3 0)), (4, (pt gx4 0)), (11, (pt u18q 0)), (12, .bool true), (13, .bool x13), (14, .i x14)] (u18x _ _ h _ _ (hx.trans z13) gx3 u18k x3v.L.length u98 u18l u18m gx4 u18n x4v.L.length ubb u18o u18p u18q u18r u18j.L.length u18t u18u u18v p13 u9j (u9k.ext z13) rfl ube (ubf.ext z13) rfl u18y (u18z.ext z13) rfl)
   ·
    have uup : x12 = false := by simpa using h37
    rw [uup]
    refine AnyG.ldN (i := 2) 28 (.tmp 3) 53 28 ⟨gx3, 0, none⟩ (.i x3v.Kind :: U4 x3v.Set [.slice (Gp u18k) x3v.L.length u98, .i x3v.Min, .i x3v.Max]) (by kernel_rfl) (by kernel_rfl) (Fc.here (p13.cs [(0, 0, 8), (2, 0, 8)])) (by kernel_rfl) (by kernel_rfl) (by kernel_rfl) (fun _ h j v hj => by match j, hj with | 0, rfl => exact h.2.at_ 0 rfl | 1, rfl => exact h.2.at_ 1 rfl | 2, rfl => exact h.2.at_ 2 rfl | 3, rfl => exact h.2.at_ 3 rfl | 4, rfl => exact h.2.at_ 4 rfl | 5, rfl => exact h.2.at_ 5 rfl | 6, rfl => exact h.2.at_ 6 rfl | 7, rfl => exact h.2.at_ 7 rfl | (j + 8), hj => simp at hj) ?_
    refine AnyG.pu 3 (.move (.tmp 2)) 54 9 (.string x2) (Fc.here (p13.cs [(0, 0, 8), (2, 0, 8)])) ?_
    refine AnyG.pu 4 (.move (.tmp 14)) 55 3 (.i x14) (Fc.here (p13.cs [(0, 0, 8), (2, 0, 8)])) ?_
    refine guard_some' h fun g44 h => ?_
    refine AnyG.slS (i := 5) 9 (.tmp 54) none (some (.tmp 55)) 56 9 x2 0 x14 (by kernel_rfl) (by kernel_rfl) (Fc.here (p13.cs [(0, 0, 8), (2, 0, 8)])) (by kernel_rfl) (by kernel_rfl) Bnd.no (Bnd.at_ .i64 (by kernel_rfl)) (by decide : (0 : Int) ≤ 0) g44 h36 ?_
    obtain ⟨S14, z14, p14, f45⟩ := p13.freezeRd 1 rfl (u9k.ext z13) (by decide)
    refine AnyG.refz z14 ?_
    refine bind_some' h fun y46 e47 h => ?_
    refine Op_.call (kc 15 [53, 56] #[28, 9]) 57 4 15 #[(ag (.i x3v.Kind :: U4 x3v.Set [.slice (Gp u18k) x3v.L.length u98, .i x3v.Min, .i x3v.Max])), .string (ss x2 0 x14)] (AnyG.cs (i := 6) (by kernel_rfl) (by kernel_rfl)) (by kernel_rfl) (W.z58 x3v (ss x2 0 x14) y46 e47 (Gp u18k) x3v.L.length u98 p14 u9j f45 rfl) ?_
    rintro _ w15 ⟨S15, rfl, z15, p15⟩
    refine AnyG.last [12] (Fc S15 w15 [(⟨gx4, 0, none⟩, .i x4v.Kind), (⟨gx4, 1, none⟩, .u (gi x4v.Set 0)), (⟨gx4, 2, none⟩, .u (gi x4v.Set 1)), (⟨gx4, 3, none⟩, .u (gi x4v.Set 2)), (⟨gx4, 4, none⟩, .u (gi x4v.Set 3)), (⟨gx4, 5, none⟩, .slice (Gp u18n) x4v.L.length ubb), (⟨gx4, 6, none⟩, .i x4v.Min), (⟨gx4, 7, none⟩, .i x4v.Max)]) (by decide) ?_
    refine AnyG.pu 7 (.move (.tmp 57)) 58 4 (.bool y46) (Fc.here (p15.cs [(2, 0, 8)])) ?_
    refine ite_some h (fun h48 h => ?_) (fun h48 h => ?_)
    ·
     rw [h48]
     refine AnyG.ldN (i := 8) 28 (.tmp 4) 59 28 ⟨gx4, 0, none⟩ (.i x4v.Kind :: U4 x4v.Set [.slice (Gp u18n) x4v.L.length ubb, .i x4v.Min, .i x4v.Max]) (by kernel_rfl) (by kernel_rfl) (Fc.here (p15.cs [(2, 0, 8)])) (by kernel_rfl) (by kernel_rfl) (by kernel_rfl) (fun _ h j v hj => by match j, hj with | 0, rfl => exact h.2.at_ 0 rfl | 1, rfl => exact h.2.at_ 1 rfl | 2, rfl => exact h.2.at_ 2 rfl | 3, rfl => exact h.2.at_ 3 rfl | 4, rfl => exact h.2.at_ 4 rfl | 5, rfl => exact h.2.at_ 5 rfl | 6, rfl => exact h.2.at_ 6 rfl | 7, rfl => exact h.2.at_ 7 rfl | (j + 8), hj => simp at hj) ?_
     refine AnyG.pu 9 (.move (.tmp 2)) 60 9 (.string x2) (Fc.here (p15.cs [(2, 0, 8)])) ?_
     refine AnyG.pu 10 (.move (.tmp 14)) 61 3 (.i x14) (Fc.here (p15.cs [(2, 0, 8)])) ?_
     refine AnyG.slS (i := 11) 9 (.tmp 60) (some (.tmp 61)) none 62 9 x2 x14 (x2.size : Int) (by kernel_rfl) (by kernel_rfl) (Fc.here (p15.cs [(2, 0, 8)])) (by kernel_rfl) (by kernel_rfl) (Bnd.at_ .i64 (by kernel_rfl)) Bnd.no g44 h36 (Int.le_refl _) ?_
     obtain ⟨S16, z16, p16, f49⟩ := p15.freezeRd 3 rfl (ubf.ext ((z13.trans z14).trans z15)) (by decide)
     refine AnyG.refz z16 ?_
     refine bind_some' h fun y50 e51 h => ?_
     refine Op_.call (kc 15 [59, 62] #[28, 9]) 63 4 15 #[(ag (.i x4v.Kind :: U4 x4v.Set [.slice (Gp u18n) x4v.L.length ubb, .i x4v.Min, .i x4v.Max])), .string (ss x2 x14 (x2.size : Int))] (AnyG.cs (i := 12) (by kernel_rfl) (by kernel_rfl)) (by kernel_rfl) (W.z58 x4v (ss x2 x14 (x2.size : Int)) y50 e51 (Gp u18n) x4v.L.length ubb p16 ube f49 rfl) ?_
     rintro _ w17 ⟨S17, rfl, z17, p17⟩
     refine AnyG.last [] (Fc S17 w17 []) (by decide) ?_
     refine AnyG.pu 13 (.pick (.tmp 58) (.tmp 63) (.const (.bool false))) 64 4 (.bool y50) (Fc.here trivial) ?_
     refine AnyG.pu 14 (.pick (.tmp 52) (.const (.bool true)) (.tmp 64)) 65 4 (.bool y50) (Fc.here trivial) ?_
     refine AnyG.pu 15 (.assign (.tmp 65)) 12 4 (.bool y50) (Fc.here trivial) ?_
     refine AnyG.done (by kernel_rfl) ?_ _
     exact Goes.jp 117 [(2, .string x2), (3, (pt gx3 0)), (4, (pt gx4 0)), (11, (pt u18q 0)), (12, .bool y50), (13, .bool x13), (14, .i x14)] (u18x _ _ h _ _ (((((hx.trans z13).trans z14).trans z15).trans z16).trans z17) gx3 u18k x3v.L.length u98 u18l u18l.length gx4 u18n x4v.L.length ubb u18o u18o.length u18q u18r u18j.L.length u18t u18u u18v p17 u9j (u9k.ext ((((z13.trans z14).trans z15).trans z16).trans z17)) rfl ube (ubf.ext ((((z13.trans z14).trans z15).trans z16).trans z17)) rfl u18y (u18z.ext ((((z13.trans z14).trans z15).trans z16).trans z17)) rfl)
    ·
     have u191 : y46 = false := by simpa using h48
     rw [u191]
     refine AnyG.s1 8 59 (Fc.here (p15.cs [(2, 0, 8)])) ?_
     refine AnyG.s1 9 60 (Fc.here (p15.cs [(2, 0, 8)])) ?_
     refine AnyG.s1 10 61 (Fc.here (p15.cs [(2, 0, 8)])) ?_
     refine AnyG.s1 11 62 (Fc.here (p15.cs [(2, 0, 8)])) ?_
     refine AnyG.skipL1 (i := 12) 63 (by kernel_rfl) (by kernel_rfl) (.inl (by decide)) ?_
     refine AnyG.pu 13 (.pick (.tmp 58) (.tmp 63) (.const (.bool false))) 64 4 (.bool false) (Fc.here (p15.cs [(2, 0, 8)])) ?_
     refine AnyG.pu 14 (.pick (.tmp 52) (.const (.bool true)) (.tmp 64)) 65 4 (.bool false) (Fc.here (p15.cs [(2, 0, 8)])) ?_
     refine AnyG.pu 15 (.assign (.tmp 65)) 12 4 (.bool false) (Fc.here (p15.cs [(2, 0, 8)])) ?_
     refine AnyG.done (by kernel_rfl) ?_ _
     exact Goes.jp 117 [(2, .string x2), (3, (pt gx3 0)), (4, (pt gx4 0)), (11, (pt u18q 0)), (12, .bool false), (13, .bool x13), (14, .i x14)] (u18x _ _ h _ _ (((hx.trans z13).trans z14).trans z15) gx3 u18k x3v.L.length u98 u18l u18l.length gx4 u18n x4v.L.length ubb u18o u18p u18q u18r u18j.L.length u18t u18u u18v p15 u9j (u9k.ext ((z13.trans z14).trans z15)) rfl ube (ubf.ext ((z13.trans z14).trans z15)) rfl u18y (u18z.ext ((z13.trans z14).trans z15)) rfl)
  ·
   rw [decide_eq_false h36]
   refine Goes.rn 3 [] J10r ?_
   have z18 : Ext S1 w1 S1 (w1).drew := Ext.draw
   have p18 := p1.draw
   refine Goes.drawn (s := [17, 21]) (F := Fc S1 (w1).drew [(⟨gx3, 0, none⟩, .i x3v.Kind), (⟨gx3, 1, none⟩, .u (gi x3v.Set 0)), (⟨gx3, 2, none⟩, .u (gi x3v.Set 1)), (⟨gx3, 3, none⟩, .u (gi x3v.Set 2)), (⟨gx3, 4, none⟩, .u (gi x3v.Set 3)), (⟨gx3, 5, none⟩, .slice (Gp u18k) x3v.L.length u98), (⟨gx3, 6, none⟩, .i x3v.Min), (⟨gx3, 7, none⟩, .i x3v.Max), (⟨gx4, 0, none⟩, .i x4v.Kind), (⟨gx4, 1, none⟩, .u (gi x4v.Set 0)), (⟨gx4, 2, none⟩, .u (gi x4v.Set 1)), (⟨gx4, 3, none⟩, .u (gi x4v.Set 2)), (⟨gx4, 4, none⟩, .u (gi x4v.Set 3)), (⟨gx4, 5, none⟩, .slice (Gp u18n) x4v.L.length ubb), (⟨gx4, 6, none⟩, .i x4v.Min), (⟨gx4, 7, none⟩, .i x4v.Max), (⟨u18q, 0, none⟩, .i u18j.Kind), (⟨u18q, 1, none⟩, .u (gi u18j.Set 0)), (⟨u18q, 2, none⟩, .u (gi u18j.Set 1)), (⟨u18q, 3, none⟩, .u (gi u18j.Set 2)), (⟨u18q, 4, none⟩, .u (gi u18j.Set 3)), (⟨u18q, 5, none⟩, .slice (Gp u18r) u18j.L.length u18t), (⟨u18q, 6, none⟩, .i u18j.Min), (⟨u18q, 7, none⟩, .i u18j.Max)]) 15 33 (by kernel_rfl) (by kernel_rfl) (by kernel_rfl) (by kernel_rfl) ?_
   generalize (w1).drew = w18 at z18 p18 ⊢
   refine AnyG.ldN (i := 0) 28 (.tmp 3) 85 28 ⟨gx3, 0, none⟩ (.i x3v.Kind :: U4 x3v.Set [.slice (Gp u18k) x3v.L.length u98, .i x3v.Min, .i x3v.Max]) (by kernel_rfl) (by kernel_rfl) (Fc.here (p18.cs [(0, 0, 8), (2, 0, 8), (4, 0, 8)])) (by kernel_rfl) (by kernel_rfl) (by kernel_rfl) (fun _ h j v hj => by match j, hj with | 0, rfl => exact h.2.at_ 0 rfl | 1, rfl => exact h.2.at_ 1 rfl | 2, rfl => exact h.2.at_ 2 rfl | 3, rfl => exact h.2.at_ 3 rfl | 4, rfl => exact h.2.at_ 4 rfl | 5, rfl => exact h.2.at_ 5 rfl | 6, rfl => exact h.2.at_ 6 rfl | 7, rfl => exact h.2.at_ 7 rfl | (j + 8), hj => simp at hj) ?_
   refine AnyG.ldN (i := 1) 28 (.tmp 4) 86 28 ⟨gx4, 0, none⟩ (.i x4v.Kind :: U4 x4v.Set [.slice (Gp u18n) x4v.L.length ubb, .i x4v.Min, .i x4v.Max]) (by kernel_rfl) (by kernel_rfl) (Fc.here (p18.cs [(0, 0, 8), (2, 0, 8), (4, 0, 8)])) (by kernel_rfl) (by kernel_rfl) (by kernel_rfl) (fun _ h j v hj => by match j, hj with | 0, rfl => exact h.2.at_ 8 rfl | 1, rfl => exact h.2.at_ 9 rfl | 2, rfl => exact h.2.at_ 10 rfl | 3, rfl => exact h.2.at_ 11 rfl | 4, rfl => exact h.2.at_ 12 rfl | 5, rfl => exact h.2.at_ 13 rfl | 6, rfl => exact h.2.at_ 14 rfl | 7, rfl => exact h.2.at_ 15 rfl | (j + 8), hj => simp at hj) ?_
   refine AnyG.pu 4 (.move (.tmp 2)) 89 9 (.string x2) (Fc.here (p18.cs [(0, 0, 8), (2, 0, 8), (4, 0, 8)])) ?_
   refine AnyG.pu 6 (.move (.tmp 12)) 91 4 (.bool x12) (Fc.here (p18.cs [(0, 0, 8), (2, 0, 8), (4, 0, 8)])) ?_
   obtain ⟨S19, z19, p19, f52⟩ := p18.freezeRd 1 rfl (u9k.ext z18) (by decide)
   refine AnyG.refz z19 ?_
   obtain ⟨S20, z20, p20, f53⟩ := p19.freezeRd 3 rfl (ubf.ext (z18.trans z19)) (by decide)
   refine AnyG.refz z20 ?_
   have f55 : Els kT27 S20 w18 ((.i x3v.Kind :: U4 x3v.Set (.slice (Gp u18k) x3v.L.length u98 :: .i x3v.Min :: .i x3v.Max :: .i x4v.Kind :: U4 x4v.Set [.slice (Gp u18n) x4v.L.length ubb, .i x4v.Min, .i x4v.Max])) : List Value) [x3v, x4v] := by exact (Els.cons (K := kT27) (vs := (.i x3v.Kind :: U4 x3v.Set [.slice (Gp u18k) x3v.L.length u98, .i x3v.Min, .i x3v.Max])) (x := x3v) (kT27_close ⟨[.i x3v.Kind], (U4 x3v.Set [.slice (Gp u18k) x3v.L.length u98, .i x3v.Min, .i x3v.Max]), rfl, rfl, ⟨(U4 x3v.Set []), [.slice (Gp u18k) x3v.L.length u98, .i x3v.Min, .i x3v.Max], rfl, ⟨u9j, els_mk4 u9j⟩, ⟨[.slice (Gp u18k) x3v.L.length u98], [.i x3v.Min, .i x3v.Max], rfl, ⟨_, _, rfl, (f52.ext z20)⟩, ⟨[.i x3v.Min], [.i x3v.Max], rfl, rfl, rfl⟩⟩⟩⟩) (Els.cons (K := kT27) (vs := (.i x4v.Kind :: U4 x4v.Set [.slice (Gp u18n) x4v.L.length ubb, .i x4v.Min, .i x4v.Max])) (x := x4v) (kT27_close ⟨[.i x4v.Kind], (U4 x4v.Set [.slice (Gp u18n) x4v.L.length ubb, .i x4v.Min, .i x4v.Max]), rfl, rfl, ⟨(U4 x4v.Set []), [.slice (Gp u18n) x4v.L.length ubb, .i x4v.Min, .i x4v.Max], rfl, ⟨ube, els_mk4 ube⟩, ⟨[.slice (Gp u18n) x4v.L.length ubb], [.i x4v.Min, .i x4v.Max], rfl, ⟨_, _, rfl, f53⟩, ⟨[.i x4v.Min], [.i x4v.Max], rfl, rfl, rfl⟩⟩⟩⟩) Els.nil))
   refine Op_.made (.buildSlice 26 2 #[(0, (.tmp 85)), (1, (.tmp 86))]) 87 26 (fun b => .slice (Gp (some b)) 2 2) 28 ((.i x3v.Kind :: U4 x3v.Set (.slice (Gp u18k) x3v.L.length u98 :: .i x3v.Min :: .i x3v.Max :: .i x4v.Kind :: U4 x4v.Set [.slice (Gp u18n) x4v.L.length ubb, .i x4v.Min, .i x4v.Max])) : List Value) p20 (AnyG.vs (i := 2) (by kernel_rfl) (by kernel_rfl)) (by kernel_rfl) ?_
   intro b54 w21 z21 p21
   have p21 : Hp nz wz S20 w21 (((some b54), .row 28 ((.i x3v.Kind :: U4 x3v.Set (.slice (Gp u18k) x3v.L.length u98 :: .i x3v.Min :: .i x3v.Max :: .i x4v.Kind :: U4 x4v.Set [.slice (Gp u18n) x4v.L.length ubb, .i x4v.Min, .i x4v.Max])) : List Value) (2 * kT27.size) 0) :: (some gx3, .row 28 (.i x3v.Kind :: U4 x3v.Set [.slice (Gp u18k) x3v.L.length u98, .i x3v.Min, .i x3v.Max]) 8 0) :: (u18k, .row 28 u18l (u98 * kT27.size) u18l.length) :: (some gx4, .row 28 (.i x4v.Kind :: U4 x4v.Set [.slice (Gp u18n) x4v.L.length ubb, .i x4v.Min, .i x4v.Max]) 8 0) :: (u18n, .row 28 u18o (ubb * kT27.size) u18o.length) :: (some u18q, .row 28 (.i u18j.Kind :: U4 u18j.Set [.slice (Gp u18r) u18j.L.length u18t, .i u18j.Min, .i u18j.Max]) 8 0) :: (u18r, .row 28 u18u (u18t * kT27.size) u18v) :: Lr) := p21
   refine AnyG.next z21 ⟨(p21.c 1 0), (p21.c 1 1), (p21.c 1 2), (p21.c 1 3), (p21.c 1 4), (p21.c 1 5), (p21.c 1 6), (p21.c 1 7), (p21.c 3 0), (p21.c 3 1), (p21.c 3 2), (p21.c 3 3), (p21.c 3 4), (p21.c 3 5), (p21.c 3 6), (p21.c 3 7), (p21.c 5 0), (p21.c 5 1), (p21.c 5 2), (p21.c 5 3), (p21.c 5 4), (p21.c 5 5), (p21.c 5 6), (p21.c 5 7), trivial⟩ ?_
   refine AnyG.pu 3 (.build 28 #[(0, (.const (.int .i64 2))), (2, (.tmp 87))]) 88 28 (.agg #[.i 2, .u 0, .u 0, .u 0, .u 0, .slice (Gp (some b54)) 2 2, .i 0, .i 0]) (Fc.here (p21.cs [(1, 0, 8), (3, 0, 8), (5, 0, 8)])) ?_
   obtain ⟨S22, z22, p22, f57⟩ := p21.freezeRd 0 rfl (f55.ext z21) (by decide)
   refine AnyG.refz z22 ?_
   refine bind_some' h fun y58 e59 h => ?_
   refine Op_.call (kc 15 [88, 89] #[28, 9]) 90 4 15 #[.agg #[.i 2, .u 0, .u 0, .u 0, .u 0, .slice (Gp (some b54)) 2 2, .i 0, .i 0], .string x2] (AnyG.cs (i := 5) (by kernel_rfl) (by kernel_rfl)) (by kernel_rfl) (W.z58 (⟨2, [0, 0, 0, 0], [x3v, x4v], 0, 0⟩ : T27) x2 y58 e59 (Gp (some b54)) 2 2 p22 rfl f57 rfl) ?_
   rintro _ w23 ⟨S23, rfl, z23, p23⟩
   refine AnyG.next z23 ⟨(p23.c 1 0), (p23.c 1 1), (p23.c 1 2), (p23.c 1 3), (p23.c 1 4), (p23.c 1 5), (p23.c 1 6), (p23.c 1 7), (p23.c 3 0), (p23.c 3 1), (p23.c 3 2), (p23.c 3 3), (p23.c 3 4), (p23.c 3 5), (p23.c 3 6), (p23.c 3 7), (p23.c 5 0), (p23.c 5 1), (p23.c 5 2), (p23.c 5 3), (p23.c 5 4), (p23.c 5 5), (p23.c 5 6), (p23.c 5 7), trivial⟩ ?_
   refine AnyG.pu 7 (.binOp .eql 4 (.tmp 90) (.tmp 91) 4) 92 4 (.bool (y58 == x12)) (Fc.here (p23.cs [(1, 0, 8), (3, 0, 8), (5, 0, 8)])) ?_
   refine AnyG.pu 8 (.move (.tmp 92)) 93 4 (.bool (y58 == x12)) (Fc.here (p23.cs [(1, 0, 8), (3, 0, 8), (5, 0, 8)])) ?_
   refine ite_some h (fun h60 h => ?_) (fun h60 h => ?_)
   ·
    rw [h60]
    refine AnyG.ldN (i := 9) 28 (.tmp 3) 94 28 ⟨gx3, 0, none⟩ (.i x3v.Kind :: U4 x3v.Set [.slice (Gp u18k) x3v.L.length u98, .i x3v.Min, .i x3v.Max]) (by kernel_rfl) (by kernel_rfl) (Fc.here (p23.cs [(1, 0, 8), (3, 0, 8), (5, 0, 8)])) (by kernel_rfl) (by kernel_rfl) (by kernel_rfl) (fun _ h j v hj => by match j, hj with | 0, rfl => exact h.2.at_ 0 rfl | 1, rfl => exact h.2.at_ 1 rfl | 2, rfl => exact h.2.at_ 2 rfl | 3, rfl => exact h.2.at_ 3 rfl | 4, rfl => exact h.2.at_ 4 rfl | 5, rfl => exact h.2.at_ 5 rfl | 6, rfl => exact h.2.at_ 6 rfl | 7, rfl => exact h.2.at_ 7 rfl | (j + 8), hj => simp at hj) ?_
    refine AnyG.ldN (i := 10) 28 (.tmp 4) 95 28 ⟨gx4, 0, none⟩ (.i x4v.Kind :: U4 x4v.Set [.slice (Gp u18n) x4v.L.length ubb, .i x4v.Min, .i x4v.Max]) (by kernel_rfl) (by kernel_rfl) (Fc.here (p23.cs [(1, 0, 8), (3, 0, 8), (5, 0, 8)])) (by kernel_rfl) (by kernel_rfl) (by kernel_rfl) (fun _ h j v hj => by match j, hj with | 0, rfl => exact h.2.at_ 8 rfl | 1, rfl => exact h.2.at_ 9 rfl | 2, rfl => exact h.2.at_ 10 rfl | 3, rfl => exact h.2.at_ 11 rfl | 4, rfl => exact h.2.at_ 12 rfl | 5, rfl => exact h.2.at_ 13 rfl | 6, rfl => exact h.2.at_ 14 rfl | 7, rfl => exact h.2.at_ 15 rfl | (j + 8), hj => simp at hj) ?_
    refine AnyG.pu 13 (.move (.tmp 2)) 98 9 (.string x2) (Fc.here (p23.cs [(1, 0, 8), (3, 0, 8), (5, 0, 8)])) ?_
    refine AnyG.ldN (i := 15) 28 (.tmp 3) 100 28 ⟨gx3, 0, none⟩ (.i x3v.Kind :: U4 x3v.Set [.slice (Gp u18k) x3v.L.length u98, .i x3v.Min, .i x3v.Max]) (by kernel_rfl) (by kernel_rfl) (Fc.here (p23.cs [(1, 0, 8), (3, 0, 8), (5, 0, 8)])) (by kernel_rfl) (by kernel_rfl) (by kernel_rfl) (fun _ h j v hj => by match j, hj with | 0, rfl => exact h.2.at_ 0 rfl | 1, rfl => exact h.2.at_ 1 rfl | 2, rfl => exact h.2.at_ 2 rfl | 3, rfl => exact h.2.at_ 3 rfl | 4, rfl => exact h.2.at_ 4 rfl | 5, rfl => exact h.2.at_ 5 rfl | 6, rfl => exact h.2.at_ 6 rfl | 7, rfl => exact h.2.at_ 7 rfl | (j + 8), hj => simp at hj) ?_
    refine AnyG.pu 16 (.move (.tmp 2)) 101 9 (.string x2) (Fc.here (p23.cs [(1, 0, 8), (3, 0, 8), (5, 0, 8)])) ?_
    have f62 : Els kT27 S23 w23 ((.i x3v.Kind :: U4 x3v.Set (.slice (Gp u18k) x3v.L.length u98 :: .i x3v.Min :: .i x3v.Max :: .i x4v.Kind :: U4 x4v.Set [.slice (Gp u18n) x4v.L.length ubb, .i x4v.Min, .i x4v.Max])) : List Value) [x3v, x4v] := by exact (Els.cons (K := kT27) (vs := (.i x3v.Kind :: U4 x3v.Set [.slice (Gp u18k) x3v.L.length u98, .i x3v.Min, .i x3v.Max])) (x := x3v) (kT27_close ⟨[.i x3v.Kind], (U4 x3v.Set [.slice (Gp u18k) x3v.L.length u98, .i x3v.Min, .i x3v.Max]), rfl, rfl, ⟨(U4 x3v.Set []), [.slice (Gp u18k) x3v.L.length u98, .i x3v.Min, .i x3v.Max], rfl, ⟨u9j, els_mk4 u9j⟩, ⟨[.slice (Gp u18k) x3v.L.length u98], [.i x3v.Min, .i x3v.Max], rfl, ⟨_, _, rfl, (f52.ext (((z20.trans z21).trans z22).trans z23))⟩, ⟨[.i x3v.Min], [.i x3v.Max], rfl, rfl, rfl⟩⟩⟩⟩) (Els.cons (K := kT27) (vs := (.i x4v.Kind :: U4 x4v.Set [.slice (Gp u18n) x4v.L.length ubb, .i x4v.Min, .i x4v.Max])) (x := x4v) (kT27_close ⟨[.i x4v.Kind], (U4 x4v.Set [.slice (Gp u18n) x4v.L.length ubb, .i x4v.Min, .i x4v.Max]), rfl, rfl, ⟨(U4 x4v.Set []), [.slice (Gp u18n) x4v.L.length ubb, .i x4v.Min, .i x4v.Max], rfl, ⟨ube, els_mk4 ube⟩, ⟨[.slice (Gp u18n) x4v.L.length ubb], [.i x4v.Min, .i x4v.Max], rfl, ⟨_, _, rfl, (f53.ext ((z21.trans z22).trans z23))⟩, ⟨[.i x4v.Min], [.i x4v.Max], rfl, rfl, rfl⟩⟩⟩⟩) Els.nil))
    refine Op_.made (.buildSlice 26 2 #[(0, (.tmp 94)), (1, (.tmp 95))]) 96 26 (fun b => .slice (Gp (some b)) 2 2) 28 ((.i x3v.Kind :: U4 x3v.Set (.slice (Gp u18k) x3v.L.length u98 :: .i x3v.Min :: .i x3v.Max :: .i x4v.Kind :: U4 x4v.Set [.slice (Gp u18n) x4v.L.length ubb, .i x4v.Min, .i x4v.Max])) : List Value) p23 (AnyG.vs (i := 11) (by kernel_rfl) (by kernel_rfl)) (by kernel_rfl) ?_
    intro b61 w24 z24 p24
    have p24 : Hp nz wz S23 w24 (((some b61), .row 28 ((.i x3v.Kind :: U4 x3v.Set (.slice (Gp u18k) x3v.L.length u98 :: .i x3v.Min :: .i x3v.Max :: .i x4v.Kind :: U4 x4v.Set [.slice (Gp u18n) x4v.L.length ubb, .i x4v.Min, .i x4v.Max])) : List Value) (2 * kT27.size) 0) :: ((some b54), .row 28 ((.i x3v.Kind :: U4 x3v.Set (.slice (Gp u18k) x3v.L.length u98 :: .i x3v.Min :: .i x3v.Max :: .i x4v.Kind :: U4 x4v.Set [.slice (Gp u18n) x4v.L.length ubb, .i x4v.Min, .i x4v.Max])) : List Value) (2 * kT27.size) (((.i x3v.Kind :: U4 x3v.Set (.slice (Gp u18k) x3v.L.length u98 :: .i x3v.Min :: .i x3v.Max :: .i x4v.Kind :: U4 x4v.Set [.slice (Gp u18n) x4v.L.length ubb, .i x4v.Min, .i x4v.Max])) : List Value).length)) :: (some gx3, .row 28 (.i x3v.Kind :: U4 x3v.Set [.slice (Gp u18k) x3v.L.length u98, .i x3v.Min, .i x3v.Max]) 8 0) :: (u18k, .row 28 u18l (u98 * kT27.size) u18l.length) :: (some gx4, .row 28 (.i x4v.Kind :: U4 x4v.Set [.slice (Gp u18n) x4v.L.length ubb, .i x4v.Min, .i x4v.Max]) 8 0) :: (u18n, .row 28 u18o (ubb * kT27.size) u18o.length) :: (some u18q, .row 28 (.i u18j.Kind :: U4 u18j.Set [.slice (Gp u18r) u18j.L.length u18t, .i u18j.Min, .i u18j.Max]) 8 0) :: (u18r, .row 28 u18u (u18t * kT27.size) u18v) :: Lr) := p24
    refine AnyG.next z24 ⟨(p24.c 2 0), (p24.c 2 1), (p24.c 2 2), (p24.c 2 3), (p24.c 2 4), (p24.c 2 5), (p24.c 2 6), (p24.c 2 7), (p24.c 4 0), (p24.c 4 1), (p24.c 4 2), (p24.c 4 3), (p24.c 4 4), (p24.c 4 5), (p24.c 4 6), (p24.c 4 7), (p24.c 6 0), (p24.c 6 1), (p24.c 6 2), (p24.c 6 3), (p24.c 6 4), (p24.c 6 5), (p24.c 6 6), (p24.c 6 7), trivial⟩ ?_
    refine AnyG.pu 12 (.build 28 #[(0, (.const (.int .i64 3))), (2, (.tmp 96))]) 97 28 (.agg #[.i 3, .u 0, .u 0, .u 0, .u 0, .slice (Gp (some b61)) 2 2, .i 0, .i 0]) (Fc.here (p24.cs [(2, 0, 8), (4, 0, 8), (6, 0, 8)])) ?_
    obtain ⟨S25, z25, p25, f64⟩ := p24.freezeRd 0 rfl (f62.ext z24) (by decide)
    refine AnyG.refz z25 ?_
    refine bind_some' h fun y65 e66 h => ?_
    refine Op_.call (kc 15 [97, 98] #[28, 9]) 99 4 15 #[.agg #[.i 3, .u 0, .u 0, .u 0, .u 0, .slice (Gp (some b61)) 2 2, .i 0, .i 0], .string x2] (AnyG.cs (i := 14) (by kernel_rfl) (by kernel_rfl)) (by kernel_rfl) (W.z58 (⟨3, [0, 0, 0, 0], [x3v, x4v], 0, 0⟩ : T27) x2 y65 e66 (Gp (some b61)) 2 2 p25 rfl f64 rfl) ?_
    rintro _ w26 ⟨S26, rfl, z26, p26⟩
    refine AnyG.next z26 ⟨(p26.c 2 0), (p26.c 2 1), (p26.c 2 2), (p26.c 2 3), (p26.c 2 4), (p26.c 2 5), (p26.c 2 6), (p26.c 2 7), (p26.c 4 0), (p26.c 4 1), (p26.c 4 2), (p26.c 4 3), (p26.c 4 4), (p26.c 4 5), (p26.c 4 6), (p26.c 4 7), (p26.c 6 0), (p26.c 6 1), (p26.c 6 2), (p26.c 6 3), (p26.c 6 4), (p26.c 6 5), (p26.c 6 6), (p26.c 6 7), trivial⟩ ?_
    refine bind_some' h fun y67 e68 h => ?_
    refine Op_.call (kc 15 [100, 101] #[28, 9]) 102 4 15 #[(ag (.i x3v.Kind :: U4 x3v.Set [.slice (Gp u18k) x3v.L.length u98, .i x3v.Min, .i x3v.Max])), .string x2] (AnyG.cs (i := 17) (by kernel_rfl) (by kernel_rfl)) (by kernel_rfl) (W.z58 x3v x2 y67 e68 (Gp u18k) x3v.L.length u98 p26 u9j (f52.ext ((((((z20.trans z21).trans z22).trans z23).trans z24).trans z25).trans z26)) rfl) ?_
    rintro _ w27 ⟨S27, rfl, z27, p27⟩
    refine AnyG.last [21] (Fc S27 w27 [(⟨gx4, 0, none⟩, .i x4v.Kind), (⟨gx4, 1, none⟩, .u (gi x4v.Set 0)), (⟨gx4, 2, none⟩, .u (gi x4v.Set 1)), (⟨gx4, 3, none⟩, .u (gi x4v.Set 2)), (⟨gx4, 4, none⟩, .u (gi x4v.Set 3)), (⟨gx4, 5, none⟩, .slice (Gp u18n) x4v.L.length ubb), (⟨gx4, 6, none⟩, .i x4v.Min), (⟨gx4, 7, none⟩, .i x4v.Max), (⟨u18q, 0, none⟩, .i u18j.Kind), (⟨u18q, 1, none⟩, .u (gi u18j.Set 0)), (⟨u18q, 2, none⟩, .u (gi u18j.Set 1)), (⟨u18q, 3, none⟩, .u (gi u18j.Set 2)), (⟨u18q, 4, none⟩, .u (gi u18j.Set 3)), (⟨u18q, 5, none⟩, .slice (Gp u18r) u18j.L.length u18t), (⟨u18q, 6, none⟩, .i u18j.Min), (⟨u18q, 7, none⟩, .i u18j.Max)]) (by decide) ?_
    refine AnyG.pu 18 (.move (.tmp 102)) 103 4 (.bool y67) (Fc.here (p27.cs [(4, 0, 8), (6, 0, 8)])) ?_
    refine ite_some h (fun h69 h => ?_) (fun h69 h => ?_)
    ·
     rw [h69]
     refine AnyG.s1 19 104 (Fc.here (p27.cs [(4, 0, 8), (6, 0, 8)])) ?_
     refine AnyG.s1 20 105 (Fc.here (p27.cs [(4, 0, 8), (6, 0, 8)])) ?_
     refine AnyG.skipL1 (i := 21) 106 (by kernel_rfl) (by kernel_rfl) (.inl (by decide)) ?_
     refine AnyG.pu 22 (.pick (.tmp 103) (.const (.bool true)) (.tmp 106)) 107 4 (.bool true) (Fc.here (p27.cs [(4, 0, 8), (6, 0, 8)])) ?_
     refine AnyG.pu 23 (.binOp .eql 4 (.tmp 99) (.tmp 107) 4) 108 4 (.bool (y65 == true)) (Fc.here (p27.cs [(4, 0, 8), (6, 0, 8)])) ?_
     refine AnyG.pu 24 (.pick (.tmp 93) (.tmp 108) (.const (.bool false))) 109 4 (.bool (y65 == true)) (Fc.here (p27.cs [(4, 0, 8), (6, 0, 8)])) ?_
     refine AnyG.pu 25 (.move (.tmp 109)) 110 4 (.bool (y65 == true)) (Fc.here (p27.cs [(4, 0, 8), (6, 0, 8)])) ?_
     refine ite_some h (fun h70 h => ?_) (fun h70 h => ?_)
     ·
      rw [h70]
      refine AnyG.ldN (i := 26) 28 (.tmp 11) 111 28 ⟨u18q, 0, none⟩ (.i u18j.Kind :: U4 u18j.Set [.slice (Gp u18r) u18j.L.length u18t, .i u18j.Min, .i u18j.Max]) (by kernel_rfl) (by kernel_rfl) (Fc.here (p27.cs [(4, 0, 8), (6, 0, 8)])) (by kernel_rfl) (by kernel_rfl) (by kernel_rfl) (fun _ h j v hj => by match j, hj with | 0, rfl => exact h.2.at_ 8 rfl | 1, rfl => exact h.2.at_ 9 rfl | 2, rfl => exact h.2.at_ 10 rfl | 3, rfl => exact h.2.at_ 11 rfl | 4, rfl => exact h.2.at_ 12 rfl | 5, rfl => exact h.2.at_ 13 rfl | 6, rfl => exact h.2.at_ 14 rfl | 7, rfl => exact h.2.at_ 15 rfl | (j + 8), hj => simp at hj) ?_
      refine AnyG.pu 27 (.move (.tmp 2)) 112 9 (.string x2) (Fc.here (p27.cs [(4, 0, 8), (6, 0, 8)])) ?_
      refine AnyG.pu 29 (.move (.tmp 13)) 114 4 (.bool x13) (Fc.here (p27.cs [(4, 0, 8), (6, 0, 8)])) ?_
      obtain ⟨S28, z28, p28, f71⟩ := p27.freezeRd 7 rfl (u18z.ext (((((((((z18.trans z19).trans z20).trans z21).trans z22).trans z23).trans z24).trans z25).trans z26).trans z27)) (by decide)
      refine AnyG.refz z28 ?_
      refine bind_some' h fun y72 e73 h => ?_
      refine Op_.call (kc 15 [111, 112] #[28, 9]) 113 4 15 #[(ag (.i u18j.Kind :: U4 u18j.Set [.slice (Gp u18r) u18j.L.length u18t, .i u18j.Min, .i u18j.Max])), .string x2] (AnyG.cs (i := 28) (by kernel_rfl) (by kernel_rfl)) (by kernel_rfl) (W.z58 u18j x2 y72 e73 (Gp u18r) u18j.L.length u18t p28 u18y f71 rfl) ?_
      rintro _ w29 ⟨S29, rfl, z29, p29⟩
      refine AnyG.next z29 ⟨(p29.c 4 0), (p29.c 4 1), (p29.c 4 2), (p29.c 4 3), (p29.c 4 4), (p29.c 4 5), (p29.c 4 6), (p29.c 4 7), (p29.c 6 0), (p29.c 6 1), (p29.c 6 2), (p29.c 6 3), (p29.c 6 4), (p29.c 6 5), (p29.c 6 6), (p29.c 6 7), trivial⟩ ?_
      refine AnyG.pu 30 (.binOp .eql 4 (.tmp 113) (.tmp 114) 4) 115 4 (.bool (y72 == x13)) (Fc.here (p29.cs [(4, 0, 8), (6, 0, 8)])) ?_
      refine AnyG.pu 31 (.pick (.tmp 110) (.tmp 115) (.const (.bool false))) 116 4 (.bool (y72 == x13)) (Fc.here (p29.cs [(4, 0, 8), (6, 0, 8)])) ?_
      refine AnyG.pu 32 (.assign (.tmp 116)) 6 4 (.bool (y72 == x13)) (Fc.here (p29.cs [(4, 0, 8), (6, 0, 8)])) ?_
      refine AnyG.done (by kernel_rfl) ?_ _
      have p29 := (((((((p29.dp 0).dp 0).dp 0).dp 0).dp 0).dp 0).dp 0).dp 0
      obtain rfl := Option.some.inj h
      exact Goes.rt Try.f5 (.bool (y72 == x13)) ⟨S29, rfl, ((((((((((((hx.trans z18).trans z19).trans z20).trans z21).trans z22).trans z23).trans z24).trans z25).trans z26).trans z27).trans z28).trans z29), p29⟩
     ·
      have u192 : (y65 == true) = false := by simpa using h70
      rw [u192]
      refine AnyG.s1 26 111 (Fc.here (p27.cs [(4, 0, 8), (6, 0, 8)])) ?_
      refine AnyG.s1 27 112 (Fc.here (p27.cs [(4, 0, 8), (6, 0, 8)])) ?_
      refine AnyG.s1 28 113 (Fc.here (p27.cs [(4, 0, 8), (6, 0, 8)])) ?_
      refine AnyG.s1 29 114 (Fc.here (p27.cs [(4, 0, 8), (6, 0, 8)])) ?_
      refine AnyG.s1 30 115 (Fc.here (p27.cs [(4, 0, 8), (6, 0, 8)])) ?_
      refine AnyG.pu 31 (.pick (.tmp 110) (.tmp 115) (.const (.bool false))) 116 4 (.bool false) (Fc.here (p27.cs [(4, 0, 8), (6, 0, 8)])) ?_
      refine AnyG.pu 32 (.assign (.tmp 116)) 6 4 (.bool false) (Fc.here (p27.cs [(4, 0, 8), (6, 0, 8)])) ?_
      refine AnyG.done (by kernel_rfl) ?_ _
      have p27 := (((((((p27.dp 0).dp 0).dp 0).dp 0).dp 0).dp 0).dp 0).dp 0
      obtain rfl := Option.some.inj h
      exact Goes.rt Try.f5 (.bool false) ⟨S27, rfl, ((((((((((hx.trans z18).trans z19).trans z20).trans z21).trans z22).trans z23).trans z24).trans z25).trans z26).trans z27), p27⟩
    ·
     have u193 : y67 = false := by simpa using h69
     rw [u193]
     refine AnyG.ldN (i := 19) 28 (.tmp 4) 104 28 ⟨gx4, 0, none⟩ (.i x4v.Kind :: U4 x4v.Set [.slice (Gp u18n) x4v.L.length ubb, .i x4v.Min, .i x4v.Max]) (by kernel_rfl) (by kernel_rfl) (Fc.here (p27.cs [(4, 0, 8), (6, 0, 8)])) (by kernel_rfl) (by kernel_rfl) (by kernel_rfl) (fun _ h j v hj => by match j, hj with | 0, rfl => exact h.2.at_ 0 rfl | 1, rfl => exact h.2.at_ 1 rfl | 2, rfl => exact h.2.at_ 2 rfl | 3, rfl => exact h.2.at_ 3 rfl | 4, rfl => exact h.2.at_ 4 rfl | 5, rfl => exact h.2.at_ 5 rfl | 6, rfl => exact h.2.at_ 6 rfl | 7, rfl => exact h.2.at_ 7 rfl | (j + 8), hj => simp at hj) ?_
     refine AnyG.pu 20 (.move (.tmp 2)) 105 9 (.string x2) (Fc.here (p27.cs [(4, 0, 8), (6, 0, 8)])) ?_
     refine bind_some' h fun y74 e75 h => ?_
     refine Op_.call (kc 15 [104, 105] #[28, 9]) 106 4 15 #[(ag (.i x4v.Kind :: U4 x4v.Set [.slice (Gp u18n) x4v.L.length ubb, .i x4v.Min, .i x4v.Max])), .string x2] (AnyG.cs (i := 21) (by kernel_rfl) (by kernel_rfl)) (by kernel_rfl) (W.z58 x4v x2 y74 e75 (Gp u18n) x4v.L.length ubb p27 ube (f53.ext ((((((z21.trans z22).trans z23).trans z24).trans z25).trans z26).trans z27)) rfl) ?_
     rintro _ w30 ⟨S30, rfl, z30, p30⟩
     refine AnyG.last [] (Fc S30 w30 [(⟨u18q, 0, none⟩, .i u18j.Kind), (⟨u18q, 1, none⟩, .u (gi u18j.Set 0)), (⟨u18q, 2, none⟩, .u (gi u18j.Set 1)), (⟨u18q, 3, none⟩, .u (gi u18j.Set 2)), (⟨u18q, 4, none⟩, .u (gi u18j.Set 3)), (⟨u18q, 5, none⟩, .slice (Gp u18r) u18j.L.length u18t), (⟨u18q, 6, none⟩, .i u18j.Min), (⟨u18q, 7, none⟩, .i u18j.Max)]) (by decide) ?_
     refine AnyG.pu 22 (.pick (.tmp 103) (.const (.bool true)) (.tmp 106)) 107 4 (.bool y74) (Fc.here (p30.cs [(6, 0, 8)])) ?_
     refine AnyG.pu 23 (.binOp .eql 4 (.tmp 99) (.tmp 107) 4) 108 4 (.bool (y65 == y74)) (Fc.here (p30.cs [(6, 0, 8)])) ?_
     refine AnyG.pu 24 (.pick (.tmp 93) (.tmp 108) (.const (.bool false))) 109 4 (.bool (y65 == y74)) (Fc.here (p30.cs [(6, 0, 8)])) ?_
     refine AnyG.pu 25 (.move (.tmp 109)) 110 4 (.bool (y65 == y74)) (Fc.here (p30.cs [(6, 0, 8)])) ?_
     refine ite_some h (fun h76 h => ?_) (fun h76 h => ?_)
     ·
      rw [h76]
      refine AnyG.ldN (i := 26) 28 (.tmp 11) 111 28 ⟨u18q, 0, none⟩ (.i u18j.Kind :: U4 u18j.Set [.slice (Gp u18r) u18j.L.length u18t, .i u18j.Min, .i u18j.Max]) (by kernel_rfl) (by kernel_rfl) (Fc.here (p30.cs [(6, 0, 8)])) (by kernel_rfl) (by kernel_rfl) (by kernel_rfl) (fun _ h j v hj => by match j, hj with | 0, rfl => exact h.2.at_ 0 rfl | 1, rfl => exact h.2.at_ 1 rfl | 2, rfl => exact h.2.at_ 2 rfl | 3, rfl => exact h.2.at_ 3 rfl | 4, rfl => exact h.2.at_ 4 rfl | 5, rfl => exact h.2.at_ 5 rfl | 6, rfl => exact h.2.at_ 6 rfl | 7, rfl => exact h.2.at_ 7 rfl | (j + 8), hj => simp at hj) ?_
      refine AnyG.pu 27 (.move (.tmp 2)) 112 9 (.string x2) (Fc.here (p30.cs [(6, 0, 8)])) ?_
      refine AnyG.pu 29 (.move (.tmp 13)) 114 4 (.bool x13) (Fc.here (p30.cs [(6, 0, 8)])) ?_
      obtain ⟨S31, z31, p31, f77⟩ := p30.freezeRd 7 rfl (u18z.ext ((((((((((z18.trans z19).trans z20).trans z21).trans z22).trans z23).trans z24).trans z25).trans z26).trans z27).trans z30)) (by decide)
      refine AnyG.refz z31 ?_
      refine bind_some' h fun y78 e79 h => ?_
      refine Op_.call (kc 15 [111, 112] #[28, 9]) 113 4 15 #[(ag (.i u18j.Kind :: U4 u18j.Set [.slice (Gp u18r) u18j.L.length u18t, .i u18j.Min, .i u18j.Max])), .string x2] (AnyG.cs (i := 28) (by kernel_rfl) (by kernel_rfl)) (by kernel_rfl) (W.z58 u18j x2 y78 e79 (Gp u18r) u18j.L.length u18t p31 u18y f77 rfl) ?_
      rintro _ w32 ⟨S32, rfl, z32, p32⟩
      refine AnyG.next z32 ⟨(p32.c 6 0), (p32.c 6 1), (p32.c 6 2), (p32.c 6 3), (p32.c 6 4), (p32.c 6 5), (p32.c 6 6), (p32.c 6 7), trivial⟩ ?_
      refine AnyG.pu 30 (.binOp .eql 4 (.tmp 113) (.tmp 114) 4) 115 4 (.bool (y78 == x13)) (Fc.here (p32.cs [(6, 0, 8)])) ?_
      refine AnyG.pu 31 (.pick (.tmp 110) (.tmp 115) (.const (.bool false))) 116 4 (.bool (y78 == x13)) (Fc.here (p32.cs [(6, 0, 8)])) ?_
      refine AnyG.pu 32 (.assign (.tmp 116)) 6 4 (.bool (y78 == x13)) (Fc.here (p32.cs [(6, 0, 8)])) ?_
      refine AnyG.done (by kernel_rfl) ?_ _
      have p32 := (((((((p32.dp 0).dp 0).dp 0).dp 0).dp 0).dp 0).dp 0).dp 0
      obtain rfl := Option.some.inj h
      exact Goes.rt Try.f5 (.bool (y78 == x13)) ⟨S32, rfl, (((((((((((((hx.trans z18).trans z19).trans z20).trans z21).trans z22).trans z23).trans z24).trans z25).trans z26).trans z27).trans z30).trans z31).trans z32), p32⟩
     ·
      have u194 : (y65 == y74) = false := by simpa using h76
      rw [u194]
      refine AnyG.s1 26 111 (Fc.here (p30.cs [(6, 0, 8)])) ?_
      refine AnyG.s1 27 112 (Fc.here (p30.cs [(6, 0, 8)])) ?_
      refine AnyG.s1 28 113 (Fc.here (p30.cs [(6, 0, 8)])) ?_
      refine AnyG.s1 29 114 (Fc.here (p30.cs [(6, 0, 8)])) ?_
      refine AnyG.s1 30 115 (Fc.here (p30.cs [(6, 0, 8)])) ?_
      refine AnyG.pu 31 (.pick (.tmp 110) (.tmp 115) (.const (.bool false))) 116 4 (.bool false) (Fc.here (p30.cs [(6, 0, 8)])) ?_
      refine AnyG.pu 32 (.assign (.tmp 116)) 6 4 (.bool false) (Fc.here (p30.cs [(6, 0, 8)])) ?_
      refine AnyG.done (by kernel_rfl) ?_ _
      have p30 := (((((((p30.dp 0).dp 0).dp 0).dp 0).dp 0).dp 0).dp 0).dp 0
      obtain rfl := Option.some.inj h
      exact Goes.rt Try.f5 (.bool false) ⟨S30, rfl, (((((((((((hx.trans z18).trans z19).trans z20).trans z21).trans z22).trans z23).trans z24).trans z25).trans z26).trans z27).trans z30), p30⟩
   ·
    have u195 : (y58 == x12) = false := by simpa using h60
    rw [u195]
    refine AnyG.s1 9 94 (Fc.here (p23.cs [(1, 0, 8), (3, 0, 8), (5, 0, 8)])) ?_
    refine AnyG.s1 10 95 (Fc.here (p23.cs [(1, 0, 8), (3, 0, 8), (5, 0, 8)])) ?_
    refine AnyG.s1 11 96 (Fc.here (p23.cs [(1, 0, 8), (3, 0, 8), (5, 0, 8)])) ?_
    refine AnyG.s1 12 97 (Fc.here (p23.cs [(1, 0, 8), (3, 0, 8), (5, 0, 8)])) ?_
    refine AnyG.s1 13 98 (Fc.here (p23.cs [(1, 0, 8), (3, 0, 8), (5, 0, 8)])) ?_
    refine AnyG.s1 14 99 (Fc.here (p23.cs [(1, 0, 8), (3, 0, 8), (5, 0, 8)])) ?_
    refine AnyG.s1 15 100 (Fc.here (p23.cs [(1, 0, 8), (3, 0, 8), (5, 0, 8)])) ?_
    refine AnyG.s1 16 101 (Fc.here (p23.cs [(1, 0, 8), (3, 0, 8), (5, 0, 8)])) ?_
    refine AnyG.skipL1 (i := 17) 102 (by kernel_rfl) (by kernel_rfl) (.inl (by decide)) ?_
    refine AnyG.s1 18 103 (Fc.here (p23.cs [(1, 0, 8), (3, 0, 8), (5, 0, 8)])) ?_
    refine AnyG.s1 19 104 (Fc.here (p23.cs [(1, 0, 8), (3, 0, 8), (5, 0, 8)])) ?_
    refine AnyG.s1 20 105 (Fc.here (p23.cs [(1, 0, 8), (3, 0, 8), (5, 0, 8)])) ?_
    refine AnyG.skipL1 (i := 21) 106 (by kernel_rfl) (by kernel_rfl) (.inl (by decide)) ?_
    refine AnyG.s1 22 107 (Fc.here (p23.cs [(1, 0, 8), (3, 0, 8), (5, 0, 8)])) ?_
    refine AnyG.s1 23 108 (Fc.here (p23.cs [(1, 0, 8), (3, 0, 8), (5, 0, 8)])) ?_
    refine AnyG.pu 24 (.pick (.tmp 93) (.tmp 108) (.const (.bool false))) 109 4 (.bool false) (Fc.here (p23.cs [(1, 0, 8), (3, 0, 8), (5, 0, 8)])) ?_
    refine AnyG.pu 25 (.move (.tmp 109)) 110 4 (.bool false) (Fc.here (p23.cs [(1, 0, 8), (3, 0, 8), (5, 0, 8)])) ?_
    refine AnyG.s1 26 111 (Fc.here (p23.cs [(1, 0, 8), (3, 0, 8), (5, 0, 8)])) ?_
    refine AnyG.s1 27 112 (Fc.here (p23.cs [(1, 0, 8), (3, 0, 8), (5, 0, 8)])) ?_
    refine AnyG.s1 28 113 (Fc.here (p23.cs [(1, 0, 8), (3, 0, 8), (5, 0, 8)])) ?_
    refine AnyG.s1 29 114 (Fc.here (p23.cs [(1, 0, 8), (3, 0, 8), (5, 0, 8)])) ?_
    refine AnyG.s1 30 115 (Fc.here (p23.cs [(1, 0, 8), (3, 0, 8), (5, 0, 8)])) ?_
    refine AnyG.pu 31 (.pick (.tmp 110) (.tmp 115) (.const (.bool false))) 116 4 (.bool false) (Fc.here (p23.cs [(1, 0, 8), (3, 0, 8), (5, 0, 8)])) ?_
    refine AnyG.pu 32 (.assign (.tmp 116)) 6 4 (.bool false) (Fc.here (p23.cs [(1, 0, 8), (3, 0, 8), (5, 0, 8)])) ?_
    refine AnyG.done (by kernel_rfl) ?_ _
    have p23 := ((((((p23.dp 0).dp 0).dp 0).dp 0).dp 0).dp 0).dp 0
    obtain rfl := Option.some.inj h
    exact Goes.rt Try.f5 (.bool false) ⟨S23, rfl, ((((((hx.trans z18).trans z19).trans z20).trans z21).trans z22).trans z23), p23⟩
 ·
  intro u196 u197 ⟨x2, x3v, x4v, u18j, x12, x13, x14⟩ r h S1 w1 hx gx3 u18k u97 u98 u18l u18m gx4 u18n uba ubb u18o u18p u18q u18r u18s u18t u18u u18v p1 u9j u9k u9l ube ubf ubg u18y u18z u190 junk
  try dsimp only at h
  subst u9l
  subst ubg
  subst u190
  have z33 : Ext S1 w1 S1 (w1).drew := Ext.draw
  have p33 := p1.draw
  refine Goes.drawn (s := [9, 16]) (F := Fc S1 (w1).drew [(⟨gx3, 0, none⟩, .i x3v.Kind), (⟨gx3, 1, none⟩, .u (gi x3v.Set 0)), (⟨gx3, 2, none⟩, .u (gi x3v.Set 1)), (⟨gx3, 3, none⟩, .u (gi x3v.Set 2)), (⟨gx3, 4, none⟩, .u (gi x3v.Set 3)), (⟨gx3, 5, none⟩, .slice (Gp u18k) x3v.L.length u98), (⟨gx3, 6, none⟩, .i x3v.Min), (⟨gx3, 7, none⟩, .i x3v.Max), (⟨u18q, 0, none⟩, .i u18j.Kind), (⟨u18q, 1, none⟩, .u (gi u18j.Set 0)), (⟨u18q, 2, none⟩, .u (gi u18j.Set 1)), (⟨u18q, 3, none⟩, .u (gi u18j.Set 2)), (⟨u18q, 4, none⟩, .u (gi u18j.Set 3)), (⟨u18q, 5, none⟩, .slice (Gp u18r) u18j.L.length u18t), (⟨u18q, 6, none⟩, .i u18j.Min), (⟨u18q, 7, none⟩, .i u18j.Max)]) 14 20 (by kernel_rfl) (by kernel_rfl) (by kernel_rfl) (by kernel_rfl) ?_
  generalize (w1).drew = w33 at z33 p33 ⊢
  refine AnyG.pu 0 (.move (.tmp 13)) 66 4 (.bool x13) (Fc.here (p33.cs [(0, 0, 8), (4, 0, 8)])) ?_
  refine AnyG.pu 1 (.move (.tmp 66)) 67 4 (.bool x13) (Fc.here (p33.cs [(0, 0, 8), (4, 0, 8)])) ?_
  refine ite_some h (fun h80 h => ?_) (fun h80 h => ?_)
  ·
   rw [h80]
   refine AnyG.s1 2 68 (Fc.here (p33.cs [(0, 0, 8), (4, 0, 8)])) ?_
   refine AnyG.s1 3 69 (Fc.here (p33.cs [(0, 0, 8), (4, 0, 8)])) ?_
   refine AnyG.s1 4 70 (Fc.here (p33.cs [(0, 0, 8), (4, 0, 8)])) ?_
   refine AnyG.s1 5 71 (Fc.here (p33.cs [(0, 0, 8), (4, 0, 8)])) ?_
   refine AnyG.s1 6 72 (Fc.here (p33.cs [(0, 0, 8), (4, 0, 8)])) ?_
   refine AnyG.s1 7 73 (Fc.here (p33.cs [(0, 0, 8), (4, 0, 8)])) ?_
   refine AnyG.s1 8 74 (Fc.here (p33.cs [(0, 0, 8), (4, 0, 8)])) ?_
   refine AnyG.skipL1 (i := 9) 75 (by kernel_rfl) (by kernel_rfl) (.inl (by decide)) ?_
   refine AnyG.s1 10 76 (Fc.here (p33.cs [(0, 0, 8), (4, 0, 8)])) ?_
   refine AnyG.s1 11 77 (Fc.here (p33.cs [(0, 0, 8), (4, 0, 8)])) ?_
   refine AnyG.s1 12 78 (Fc.here (p33.cs [(0, 0, 8), (4, 0, 8)])) ?_
   refine AnyG.s1 13 79 (Fc.here (p33.cs [(0, 0, 8), (4, 0, 8)])) ?_
   refine AnyG.s1 14 80 (Fc.here (p33.cs [(0, 0, 8), (4, 0, 8)])) ?_
   refine AnyG.s1 15 81 (Fc.here (p33.cs [(0, 0, 8), (4, 0, 8)])) ?_
   refine AnyG.skipL1 (i := 16) 82 (by kernel_rfl) (by kernel_rfl) (.inl (by decide)) ?_
   refine AnyG.s1 17 83 (Fc.here (p33.cs [(0, 0, 8), (4, 0, 8)])) ?_
   refine AnyG.pu 18 (.pick (.tmp 67) (.const (.bool true)) (.tmp 83)) 84 4 (.bool true) (Fc.here (p33.cs [(0, 0, 8), (4, 0, 8)])) ?_
   refine AnyG.pu 19 (.assign (.tmp 84)) 13 4 (.bool true) (Fc.here (p33.cs [(0, 0, 8), (4, 0, 8)])) ?_
   refine AnyG.done (by kernel_rfl) ?_ _
   exact Goes.jp 117 [(2, .string x2), (3, (pt gx3 0)), (4, (pt gx4 0)), (11, (pt u18q 0)), (12, .bool x12), (13, .bool true), (14, .i x14)] (u197 _ _ h _ _ (hx.trans z33) gx3 u18k x3v.L.length u98 u18l u18m gx4 u18n x4v.L.length ubb u18o u18p u18q u18r u18j.L.length u18t u18u u18v p33 u9j (u9k.ext z33) rfl ube (ubf.ext z33) rfl u18y (u18z.ext z33) rfl)
  ·
   have u198 : x13 = false := by simpa using h80
   rw [u198]
   refine AnyG.pu 2 (.move (.tmp 14)) 68 3 (.i x14) (Fc.here (p33.cs [(0, 0, 8), (4, 0, 8)])) ?_
   refine AnyG.pu 3 (.binOp .gtr 3 (.tmp 68) (.const (.int .i64 0)) 3) 69 4 (.bool (decide (x14 > 0))) (Fc.here (p33.cs [(0, 0, 8), (4, 0, 8)])) ?_
   refine AnyG.pu 4 (.move (.tmp 69)) 70 4 (.bool (decide (x14 > 0))) (Fc.here (p33.cs [(0, 0, 8), (4, 0, 8)])) ?_
   refine ite_some h (fun h87 h => ?_) (fun h87 h => ?_)
   ·
    rw [decide_eq_true h87]
    refine AnyG.ldN (i := 5) 28 (.tmp 3) 71 28 ⟨gx3, 0, none⟩ (.i x3v.Kind :: U4 x3v.Set [.slice (Gp u18k) x3v.L.length u98, .i x3v.Min, .i x3v.Max]) (by kernel_rfl) (by kernel_rfl) (Fc.here (p33.cs [(0, 0, 8), (4, 0, 8)])) (by kernel_rfl) (by kernel_rfl) (by kernel_rfl) (fun _ h j v hj => by match j, hj with | 0, rfl => exact h.2.at_ 0 rfl | 1, rfl => exact h.2.at_ 1 rfl | 2, rfl => exact h.2.at_ 2 rfl | 3, rfl => exact h.2.at_ 3 rfl | 4, rfl => exact h.2.at_ 4 rfl | 5, rfl => exact h.2.at_ 5 rfl | 6, rfl => exact h.2.at_ 6 rfl | 7, rfl => exact h.2.at_ 7 rfl | (j + 8), hj => simp at hj) ?_
    refine AnyG.pu 6 (.move (.tmp 2)) 72 9 (.string x2) (Fc.here (p33.cs [(0, 0, 8), (4, 0, 8)])) ?_
    refine AnyG.pu 7 (.move (.tmp 14)) 73 3 (.i x14) (Fc.here (p33.cs [(0, 0, 8), (4, 0, 8)])) ?_
    refine guard_some' h fun g88 h => ?_
    refine guard_some' h fun g89 h => ?_
    refine AnyG.slS (i := 8) 9 (.tmp 72) none (some (.tmp 73)) 74 9 x2 0 x14 (by kernel_rfl) (by kernel_rfl) (Fc.here (p33.cs [(0, 0, 8), (4, 0, 8)])) (by kernel_rfl) (by kernel_rfl) Bnd.no (Bnd.at_ .i64 (by kernel_rfl)) (by decide : (0 : Int) ≤ 0) g88 g89 ?_
    obtain ⟨S34, z34, p34, f90⟩ := p33.freezeRd 1 rfl (u9k.ext z33) (by decide)
    refine AnyG.refz z34 ?_
    refine bind_some' h fun y91 e92 h => ?_
    refine Op_.call (kc 15 [71, 74] #[28, 9]) 75 4 15 #[(ag (.i x3v.Kind :: U4 x3v.Set [.slice (Gp u18k) x3v.L.length u98, .i x3v.Min, .i x3v.Max])), .string (ss x2 0 x14)] (AnyG.cs (i := 9) (by kernel_rfl) (by kernel_rfl)) (by kernel_rfl) (W.z58 x3v (ss x2 0 x14) y91 e92 (Gp u18k) x3v.L.length u98 p34 u9j f90 rfl) ?_
    rintro _ w35 ⟨S35, rfl, z35, p35⟩
    refine AnyG.last [16] (Fc S35 w35 [(⟨u18q, 0, none⟩, .i u18j.Kind), (⟨u18q, 1, none⟩, .u (gi u18j.Set 0)), (⟨u18q, 2, none⟩, .u (gi u18j.Set 1)), (⟨u18q, 3, none⟩, .u (gi u18j.Set 2)), (⟨u18q, 4, none⟩, .u (gi u18j.Set 3)), (⟨u18q, 5, none⟩, .slice (Gp u18r) u18j.L.length u18t), (⟨u18q, 6, none⟩, .i u18j.Min), (⟨u18q, 7, none⟩, .i u18j.Max)]) (by decide) ?_
    refine AnyG.pu 10 (.pick (.tmp 70) (.tmp 75) (.const (.bool false))) 76 4 (.bool y91) (Fc.here (p35.cs [(4, 0, 8)])) ?_
    refine AnyG.pu 11 (.move (.tmp 76)) 77 4 (.bool y91) (Fc.here (p35.cs [(4, 0, 8)])) ?_
    refine ite_some h (fun h93 h => ?_) (fun h93 h => ?_)
    ·
     rw [h93]
     refine AnyG.ldN (i := 12) 28 (.tmp 11) 78 28 ⟨u18q, 0, none⟩ (.i u18j.Kind :: U4 u18j.Set [.slice (Gp u18r) u18j.L.length u18t, .i u18j.Min, .i u18j.Max]) (by kernel_rfl) (by kernel_rfl) (Fc.here (p35.cs [(4, 0, 8)])) (by kernel_rfl) (by kernel_rfl) (by kernel_rfl) (fun _ h j v hj => by match j, hj with | 0, rfl => exact h.2.at_ 0 rfl | 1, rfl => exact h.2.at_ 1 rfl | 2, rfl => exact h.2.at_ 2 rfl | 3, rfl => exact h.2.at_ 3 rfl | 4, rfl => exact h.2.at_ 4 rfl | 5, rfl => exact h.2.at_ 5 rfl | 6, rfl => exact h.2.at_ 6 rfl | 7, rfl => exact h.2.at_ 7 rfl | (j + 8), hj => simp at hj) ?_
     refine AnyG.pu 13 (.move (.tmp 2)) 79 9 (.string x2) (Fc.here (p35.cs [(4, 0, 8)])) ?_
     refine AnyG.pu 14 (.move (.tmp 14)) 80 3 (.i x14) (Fc.here (p35.cs [(4, 0, 8)])) ?_
     refine AnyG.slS (i := 15) 9 (.tmp 79) (some (.tmp 80)) none 81 9 x2 x14 (x2.size : Int) (by kernel_rfl) (by kernel_rfl) (Fc.here (p35.cs [(4, 0, 8)])) (by kernel_rfl) (by kernel_rfl) (Bnd.at_ .i64 (by kernel_rfl)) Bnd.no g88 g89 (Int.le_refl _) ?_
     obtain ⟨S36, z36, p36, f94⟩ := p35.freezeRd 5 rfl (u18z.ext ((z33.trans z34).trans z35)) (by decide)
     refine AnyG.refz z36 ?_
     refine bind_some' h fun y95 e96 h => ?_
     refine Op_.call (kc 15 [78, 81] #[28, 9]) 82 4 15 #[(ag (.i u18j.Kind :: U4 u18j.Set [.slice (Gp u18r) u18j.L.length u18t, .i u18j.Min, .i u18j.Max])), .string (ss x2 x14 (x2.size : Int))] (AnyG.cs (i := 16) (by kernel_rfl) (by kernel_rfl)) (by kernel_rfl) (W.z58 u18j (ss x2 x14 (x2.size : Int)) y95 e96 (Gp u18r) u18j.L.length u18t p36 u18y f94 rfl) ?_
     rintro _ w37 ⟨S37, rfl, z37, p37⟩
     refine AnyG.last [] (Fc S37 w37 []) (by decide) ?_
     refine AnyG.pu 17 (.pick (.tmp 77) (.tmp 82) (.const (.bool false))) 83 4 (.bool y95) (Fc.here trivial) ?_
     refine AnyG.pu 18 (.pick (.tmp 67) (.const (.bool true)) (.tmp 83)) 84 4 (.bool y95) (Fc.here trivial) ?_
     refine AnyG.pu 19 (.assign (.tmp 84)) 13 4 (.bool y95) (Fc.here trivial) ?_
     refine AnyG.done (by kernel_rfl) ?_ _
     exact Goes.jp 117 [(2, .string x2), (3, (pt gx3 0)), (4, (pt gx4 0)), (11, (pt u18q 0)), (12, .bool x12), (13, .bool y95), (14, .i x14)] (u197 _ _ h _ _ (((((hx.trans z33).trans z34).trans z35).trans z36).trans z37) gx3 u18k x3v.L.length u98 u18l u18l.length gx4 u18n x4v.L.length ubb u18o u18p u18q u18r u18j.L.length u18t u18u u18u.length p37 u9j (u9k.ext ((((z33.trans z34).trans z35).trans z36).trans z37)) rfl ube (ubf.ext ((((z33.trans z34).trans z35).trans z36).trans z37)) rfl u18y (u18z.ext ((((z33.trans z34).trans z35).trans z36).trans z37)) rfl)
    ·
     have u199 : y91 = false := by simpa using h93
     rw [u199]
     refine AnyG.s1 12 78 (Fc.here (p35.cs [(4, 0, 8)])) ?_
     refine AnyG.s1 13 79 (Fc.here (p35.cs [(4, 0, 8)])) ?_
     refine AnyG.s1 14 80 (Fc.here (p35.cs [(4, 0, 8)])) ?_
     refine AnyG.s1 15 81 (Fc.here (p35.cs [(4, 0, 8)])) ?_
     refine AnyG.skipL1 (i := 16) 82 (by kernel_rfl) (by kernel_rfl) (.inl (by decide)) ?_
     refine AnyG.pu 17 (.pick (.tmp 77) (.tmp 82) (.const (.bool false))) 83 4 (.bool false) (Fc.here (p35.cs [(4, 0, 8)])) ?_
     refine AnyG.pu 18 (.pick (.tmp 67) (.const (.bool true)) (.tmp 83)) 84 4 (.bool false) (Fc.here (p35.cs [(4, 0, 8)])) ?_
     refine AnyG.pu 19 (.assign (.tmp 84)) 13 4 (.bool false) (Fc.here (p35.cs [(4, 0, 8)])) ?_
     refine AnyG.done (by kernel_rfl) ?_ _
     exact Goes.jp 117 [(2, .string x2), (3, (pt gx3 0)), (4, (pt gx4 0)), (11, (pt u18q 0)), (12, .bool x12), (13, .bool false), (14, .i x14)] (u197 _ _ h _ _ (((hx.trans z33).trans z34).trans z35) gx3 u18k x3v.L.length u98 u18l u18l.length gx4 u18n x4v.L.length ubb u18o u18p u18q u18r u18j.L.length u18t u18u u18v p35 u9j (u9k.ext ((z33.trans z34).trans z35)) rfl ube (ubf.ext ((z33.trans z34).trans z35)) rfl u18y (u18z.ext ((z33.trans z34).trans z35)) rfl)
   ·
    rw [decide_eq_false h87]
    refine AnyG.s1 5 71 (Fc.here (p33.cs [(0, 0, 8), (4, 0, 8)])) ?_
    refine AnyG.s1 6 72 (Fc.here (p33.cs [(0, 0, 8), (4, 0, 8)])) ?_
    refine AnyG.s1 7 73 (Fc.here (p33.cs [(0, 0, 8), (4, 0, 8)])) ?_
    refine AnyG.s1 8 74 (Fc.here (p33.cs [(0, 0, 8), (4, 0, 8)])) ?_
    refine AnyG.skipL1 (i := 9) 75 (by kernel_rfl) (by kernel_rfl) (.inl (by decide)) ?_
    refine AnyG.pu 10 (.pick (.tmp 70) (.tmp 75) (.const (.bool false))) 76 4 (.bool false) (Fc.here (p33.cs [(0, 0, 8), (4, 0, 8)])) ?_
    refine AnyG.pu 11 (.move (.tmp 76)) 77 4 (.bool false) (Fc.here (p33.cs [(0, 0, 8), (4, 0, 8)])) ?_
    refine AnyG.s1 12 78 (Fc.here (p33.cs [(0, 0, 8), (4, 0, 8)])) ?_
    refine AnyG.s1 13 79 (Fc.here (p33.cs [(0, 0, 8), (4, 0, 8)])) ?_
    refine AnyG.s1 14 80 (Fc.here (p33.cs [(0, 0, 8), (4, 0, 8)])) ?_
    refine AnyG.s1 15 81 (Fc.here (p33.cs [(0, 0, 8), (4, 0, 8)])) ?_
    refine AnyG.skipL1 (i := 16) 82 (by kernel_rfl) (by kernel_rfl) (.inl (by decide)) ?_
    refine AnyG.pu 17 (.pick (.tmp 77) (.tmp 82) (.const (.bool false))) 83 4 (.bool false) (Fc.here (p33.cs [(0, 0, 8), (4, 0, 8)])) ?_
    refine AnyG.pu 18 (.pick (.tmp 67) (.const (.bool true)) (.tmp 83)) 84 4 (.bool false) (Fc.here (p33.cs [(0, 0, 8), (4, 0, 8)])) ?_
    refine AnyG.pu 19 (.assign (.tmp 84)) 13 4 (.bool false) (Fc.here (p33.cs [(0, 0, 8), (4, 0, 8)])) ?_
    refine AnyG.done (by kernel_rfl) ?_ _
    exact Goes.jp 117 [(2, .string x2), (3, (pt gx3 0)), (4, (pt gx4 0)), (11, (pt u18q 0)), (12, .bool x12), (13, .bool false), (14, .i x14)] (u197 _ _ h _ _ (hx.trans z33) gx3 u18k x3v.L.length u98 u18l u18m gx4 u18n x4v.L.length ubb u18o u18p u18q u18r u18j.L.length u18t u18u u18v p33 u9j (u9k.ext z33) rfl ube (ubf.ext z33) rfl u18y (u18z.ext z33) rfl)
 ·
  intro u19a u19b ⟨x2, x3v, x4v, u18j, x12, x13, x14⟩ r h S1 w1 hx gx3 u18k u97 u98 u18l u18m gx4 u18n uba ubb u18o u18p u18q u18r u18s u18t u18u u18v p1 u9j u9k u9l ube ubf ubg u18y u18z u190 junk
  try dsimp only at h
  subst u9l
  subst ubg
  subst u190
  refine Goes.rn 7 [(49, .i x14), (50, .i (wr .i64 (x14 + 1))), (14, .i (wr .i64 (x14 + 1)))] J10j ?_
  exact Goes.jp 117 [(2, .string x2), (3, (pt gx3 0)), (4, (pt gx4 0)), (11, (pt u18q 0)), (12, .bool x12), (13, .bool x13), (14, .i (wr .i64 (x14 + 1)))] (u19b _ _ h _ _ hx gx3 u18k x3v.L.length u98 u18l u18m gx4 u18n x4v.L.length ubb u18o u18p u18q u18r u18j.L.length u18t u18u u18v p1 u9j u9k rfl ube ubf rfl u18y u18z rfl)

theorem W.z5a {nz wz S0 w0 Lr} : ∀ a r, M.tidepolelaw12_SimJoins_l1 a = some r → (L.z5a nz wz S0 w0 Lr) a r := (W.z5d).1

theorem W.z5b {nz wz S0 w0 Lr} : ∀ a r, M.tidepolelaw12_SimJoins_l2 a = some r → (L.z5b nz wz S0 w0 Lr) a r := (W.z5d).2.1

theorem W.z5c {nz wz S0 w0 Lr} : ∀ a r, M.tidepolelaw12_SimJoins_l3 a = some r → (L.z5c nz wz S0 w0 Lr) a r := (W.z5d).2.2

def Qsj := sub [1, 1, 1, 1, 1, 1] B5
def J10s : List Item := [.code Qsj]
def Qsk := sub [1, 1, 1, 1, 1, 0, 1] B5
def J10t : List Item := .code Qsk :: J10s
def Qsl := sub [1, 1, 1, 1, 1, 0, 1, 0, 1] B5
def J10u : List Item := .code Qsl :: J10s
def Qsm := sub [1, 1, 1, 1, 1, 1, 1] B5
def J10v : List Item := [.code Qsm]
def Qsn := sub [1, 1, 1, 1, 1, 1, 0] B5
def J10w : List Item := .inRegion (opsOf Qsn) [0, 1, 2, 3, 4] :: J10v
def J10x : List Item := .inRegion (opsOf Qsn) [3, 4] :: J10v
def Qso := sub [1, 1, 1, 1, 1, 1, 1, 1, 0, 1, 0] B5
def J10y : List Item := .code Qso :: J10h

def L.z5e : ByteArray × T27 × T27 × Bool → Bool → Prop := fun ⟨x2, x3v, x4v, x39⟩ r => ∀ S1 w1, Ext S0 w0 S1 w1 → ∀ gx3 u18k u97 u98 u18l u18m gx4 u18n uba ubb u18o u18p (_ : Hp nz wz S1 w1 ((some gx3, .row 28 (.i x3v.Kind :: U4 x3v.Set [.slice (Gp u18k) u97 u98, .i x3v.Min, .i x3v.Max]) 8 0) :: (u18k, .row 28 u18l (u98 * kT27.size) u18m) :: (some gx4, .row 28 (.i x4v.Kind :: U4 x4v.Set [.slice (Gp u18n) uba ubb, .i x4v.Min, .i x4v.Max]) 8 0) :: (u18n, .row 28 u18o (ubb * kT27.size) u18p) :: Lr)) (_ : x3v.Set.length = 4) (_ : Els kT27 S1 w1 u18l x3v.L) (_ : x3v.L.length = u97) (_ : x4v.Set.length = 4) (_ : Els kT27 S1 w1 u18o x4v.L) (_ : x4v.L.length = uba) (junk : Nat → Value),
 Goes Try.prog (base 5) J10t ⟨lfr 117 [(2, .string x2), (3, (pt gx3 0)), (4, (pt gx4 0)), (39, .bool x39)] junk, []⟩ w1 (Done Try.prog 5 (Rets (Post.z59 nz wz S0 w0 Lr r)))

theorem W.z5e {nz wz S0 w0 Lr} : ∀ a r, M.tidepolelaw12_SimJoins_l0 a = some r → L.z5e nz wz S0 w0 Lr a r := by
 intro ⟨x2, x3v, x4v, x39⟩ r h S1 w1 hx gx3 u18k u97 u98 u18l u18m gx4 u18n uba ubb u18o u18p p1 u9j u9k u9l ube ubf ubg junk
 rw [M.tidepolelaw12_SimJoins_l0] at h
 try dsimp only at h
 subst u9l
 subst ubg
 refine ite_some h (fun h23 h => ?_) (fun h23 h => ?_)
 ·
  rw [h23]
  refine Goes.rn 5 [(6, .bool true)] J10u ?_
  obtain rfl := Option.some.inj h
  have p1 := (((p1.dp 0).dp 0).dp 0).dp 0
  exact Goes.rt Try.f5 (.bool true) ⟨S1, rfl, hx, p1⟩
 ·
  have u91 : x39 = false := by simpa using h23
  rw [u91]
  refine Goes.rn 4 [] J10w ?_
  refine Goes.ldN 28 (.tmp 3) 40 28 ⟨gx3, 0, none⟩ (.i x3v.Kind :: U4 x3v.Set [.slice (Gp u18k) x3v.L.length u98, .i x3v.Min, .i x3v.Max]) (p1.pa 0 0) ?_
  obtain ⟨S9, z9, p9, f24⟩ := p1.freezeRd 1 rfl u9k (by decide)
  have f26 : Els kT27 S9 w1 ((.i x3v.Kind :: U4 x3v.Set [.slice (Gp u18k) x3v.L.length u98, .i x3v.Min, .i x3v.Max]) : List Value) [x3v] := by exact (Els.cons (K := kT27) (vs := (.i x3v.Kind :: U4 x3v.Set [.slice (Gp u18k) x3v.L.length u98, .i x3v.Min, .i x3v.Max])) (x := x3v) (kT27_close ⟨[.i x3v.Kind], (U4 x3v.Set [.slice (Gp u18k) x3v.L.length u98, .i x3v.Min, .i x3v.Max]), rfl, rfl, ⟨(U4 x3v.Set []), [.slice (Gp u18k) x3v.L.length u98, .i x3v.Min, .i x3v.Max], rfl, ⟨u9j, els_mk4 u9j⟩, ⟨[.slice (Gp u18k) x3v.L.length u98], [.i x3v.Min, .i x3v.Max], rfl, ⟨_, _, rfl, f24⟩, ⟨[.i x3v.Min], [.i x3v.Max], rfl, rfl, rfl⟩⟩⟩⟩) Els.nil)
  refine Op_.made (.buildSlice 26 1 #[(0, (.tmp 40))]) 41 26 (fun b => .slice (Gp (some b)) 1 1) 28 ((.i x3v.Kind :: U4 x3v.Set [.slice (Gp u18k) x3v.L.length u98, .i x3v.Min, .i x3v.Max]) : List Value) p9 Goes.v (by kernel_rfl) ?_
  intro b25 w10 z10 p10
  have p10 : Hp nz wz S9 w10 (((some b25), .row 28 ((.i x3v.Kind :: U4 x3v.Set [.slice (Gp u18k) x3v.L.length u98, .i x3v.Min, .i x3v.Max]) : List Value) (1 * kT27.size) 0) :: (some gx3, .row 28 (.i x3v.Kind :: U4 x3v.Set [.slice (Gp u18k) x3v.L.length u98, .i x3v.Min, .i x3v.Max]) 8 0) :: (u18k, .row 28 u18l (u98 * kT27.size) u18l.length) :: (some gx4, .row 28 (.i x4v.Kind :: U4 x4v.Set [.slice (Gp u18n) x4v.L.length ubb, .i x4v.Min, .i x4v.Max]) 8 0) :: (u18n, .row 28 u18o (ubb * kT27.size) u18p) :: Lr) := p10
  refine Goes.rn 1 [(42, .agg #[.i 4, .u 0, .u 0, .u 0, .u 0, .slice (Gp (some b25)) 1 1, .i 0, .i (-1)])] J10x ?_
  refine Op_.alloc 28 11 0 (.agg #[.i 0, .u 0, .u 0, .u 0, .u 0, .slice none 0 0, .i 0, .i 0]) [.i 0, .u 0, .u 0, .u 0, .u 0, .slice none 0 0, .i 0, .i 0] p10 Goes.v (by kernel_rfl) (by kernel_rfl) ?_
  intro b28 w11 z11 p11
  refine Op_.st 28 (.tmp 11) (.tmp 42) 0 0 b28 0 (.agg #[.i 4, .u 0, .u 0, .u 0, .u 0, .slice (Gp (some b25)) 1 1, .i 0, .i (-1)]) [.i 4, .u 0, .u 0, .u 0, .u 0, .slice (Gp (some b25)) 1 1, .i 0, .i (-1)] p11 rfl Goes.s (by kernel_rfl) (by kernel_rfl) (by kernel_rfl) (by kernel_rfl) (Nat.zero_le _) (by simp only [List.length_cons, List.length_nil]; omega) (by simp [Value.oneCell']) ?_
  intro w12 z12 p12
  have p12 : Hp nz wz S9 w12 ((some b28, .row 28 [.i 4, .u 0, .u 0, .u 0, .u 0, .slice (Gp (some b25)) 1 1, .i 0, .i (-1)] 8 0) :: ((some b25), .row 28 ((.i x3v.Kind :: U4 x3v.Set [.slice (Gp u18k) x3v.L.length u98, .i x3v.Min, .i x3v.Max]) : List Value) (1 * kT27.size) 0) :: (some gx3, .row 28 (.i x3v.Kind :: U4 x3v.Set [.slice (Gp u18k) x3v.L.length u98, .i x3v.Min, .i x3v.Max]) 8 0) :: (u18k, .row 28 u18l (u98 * kT27.size) u18l.length) :: (some gx4, .row 28 (.i x4v.Kind :: U4 x4v.Set [.slice (Gp u18n) x4v.L.length ubb, .i x4v.Min, .i x4v.Max]) 8 0) :: (u18n, .row 28 u18o (ubb * kT27.size) u18p) :: Lr) := p12
  refine Goes.rn 14 [(43, .string x2), (44, .bool (x2.toList == (⟨#[]⟩ : ByteArray).toList)), (12, .bool false), (13, .bool (x2.toList == (⟨#[]⟩ : ByteArray).toList)), (14, .i 0)] J10y ?_
  refine Goes.rn 1 [] J10j ?_
  have p12 := (((((p12.fr 1).fr 1).fr 5).fr 5).fr 5).fr 5
  exact Goes.jp 117 [(2, .string x2), (3, (pt gx3 0)), (4, (pt gx4 0)), (11, (pt b28 0)), (12, .bool false), (13, .bool (x2.toList == (⟨#[]⟩ : ByteArray).toList)), (14, .i 0)] (W.z5a _ _ h _ _ ((((hx.trans z9).trans z10).trans z11).trans z12) gx3 u18k x3v.L.length u98 u18l u18l.length gx4 u18n x4v.L.length ubb u18o u18p b28 (some b25) 1 1 ((.i x3v.Kind :: U4 x3v.Set [.slice (Gp u18k) x3v.L.length u98, .i x3v.Min, .i x3v.Max]) : List Value) 0 p12 u9j (u9k.ext (((z9.trans z10).trans z11).trans z12)) rfl ube (ubf.ext (((z9.trans z10).trans z11).trans z12)) rfl rfl (f26.ext ((z10.trans z11).trans z12)) rfl)

def Qsp := sub [1] B5
def J10z : List Item := [.code Qsp]
def Qsq := sub [0] B5
def J110 : List Item := .inRegion (opsOf Qsq) [0, 1, 2] :: J10z
def Qsr := sub [1, 1] B5
def J111 : List Item := [.code Qsr]
def Qss := sub [1, 0, 1] B5
def J112 : List Item := .code Qss :: J111
def Qst := sub [1, 0, 0] B5
def J113 : List Item := .inRegion (opsOf Qst) [0, 1] :: J112
def Qsu := sub [1, 1, 1] B5
def J114 : List Item := [.code Qsu]
def Qsv := sub [1, 1, 0] B5
def J115 : List Item := .inRegion (opsOf Qsv) [4, 5] :: J114
def Qsw := sub [1, 1, 1, 1] B5
def J116 : List Item := [.code Qsw]
def Qsx := sub [1, 1, 1, 0] B5
def J117 : List Item := .inRegion (opsOf Qsx) [0, 1, 2, 3, 4, 5, 6, 7, 8] :: J116
def J118 : List Item := .inRegion (opsOf Qsx) [6, 7, 8] :: J116
def Qsy := sub [1, 1, 1, 1, 1] B5
def J119 : List Item := [.code Qsy]
def Qsz := sub [1, 1, 1, 1, 0] B5
def J11a : List Item := .inRegion (opsOf Qsz) [0, 1, 2, 3, 4, 5, 6, 7, 8] :: J119
def J11b : List Item := .inRegion (opsOf Qsz) [6, 7, 8] :: J119
def Qt0 := sub [1, 1, 1, 1, 1, 0, 0] B5
def J11c : List Item := .inRegion (opsOf Qt0) [3, 4, 5] :: J10t
def Qt1 := sub [1, 0, 1, 0, 1] B5
def J11d : List Item := .code Qt1 :: J111

theorem W.z59 (x0 : T27) (x1 : T27) (x2 : ByteArray) (r : Bool) (h : M.tidepolelaw12_SimJoins x0 x1 x2 = some r) {nz wz S0 w0 Lr} (u92 u93 u94 uak ual uam) (p0 : Hp nz wz S0 w0 (Lr)) (u9e : x0.Set.length = 4) (u9f : Rd kT27 S0 w0 u92 u94 x0.L) (u9g : x0.L.length = u93) (uah : x1.Set.length = 4) (uan : Rd kT27 S0 w0 uak uam x1.L) (uao : x1.L.length = ual) :
  Calls Try.prog 5 #[(ag (.i x0.Kind :: U4 x0.Set [.slice u92 u93 u94, .i x0.Min, .i x0.Max])), (ag (.i x1.Kind :: U4 x1.Set [.slice uak ual uam, .i x1.Min, .i x1.Max])), .string x2] w0 (Rets (Post.z59 nz wz S0 w0 Lr r)) := by
 subst u9g
 subst uao
 refine calls_of_goes (fn := Try.f5) (c := B5) (by kernel_rfl) (by kernel_rfl) 114 (by kernel_rfl) ?_
 refine Goes.jp 117 [(0, (ag (.i x0.Kind :: U4 x0.Set [.slice u92 x0.L.length u94, .i x0.Min, .i x0.Max]))), (1, (ag (.i x1.Kind :: U4 x1.Set [.slice uak x1.L.length uam, .i x1.Min, .i x1.Max]))), (2, .string x2)] (fun junk => ?_)
 delta M.tidepolelaw12_SimJoins at h
 refine Goes.rn 2 [] J110 ?_
 refine Op_.box 28 (.tmp 0) 3 0 (ag (.i x0.Kind :: U4 x0.Set [.slice u92 x0.L.length u94, .i x0.Min, .i x0.Max])) (.i x0.Kind :: U4 x0.Set [.slice u92 x0.L.length u94, .i x0.Min, .i x0.Max]) p0 Goes.v (by kernel_rfl) (by kernel_rfl) ?_
 intro b1 w2 z2 p2
 refine Op_.box 28 (.tmp 1) 4 0 (ag (.i x1.Kind :: U4 x1.Set [.slice uak x1.L.length uam, .i x1.Min, .i x1.Max])) (.i x1.Kind :: U4 x1.Set [.slice uak x1.L.length uam, .i x1.Min, .i x1.Max]) p2 Goes.v (by kernel_rfl) (by kernel_rfl) ?_
 intro b3 w3 z3 p3
 refine Goes.rn 5 [(6, .bool false)] J113 ?_
 refine bind_some' h fun y5 e6 h => ?_
 refine Goes.cal (kc 11 [] #[]) 15 4 11 _ (W.z4k y5 e6  p3 ) ?_
 rintro _ w4 ⟨S4, rfl, z4, p4⟩
 refine Goes.rn 2 [(16, .bool (!y5))] J112 ?_
 refine ite_some h (fun h7 h => ?_) (fun h7 h => ?_)
 ·
  rw [h7]
  refine Goes.rn 8 [(17, .string x2), (18, .string x2), (19, .i (x2.size : Int)), (20, .i (imn (x2.size : Int) 12))] J115 ?_
  refine guard_some' h fun g8 h => ?_
  refine guard_some' h fun g9 h => ?_
  refine Op_.slS_n 9 (.tmp 17) none (some (.tmp 20)) 21 9 x2 0 (imn (x2.size : Int) 12) (ss x2 0 (imn (x2.size : Int) 12)) rfl Goes.v (by kernel_rfl) (by kernel_rfl) Bnd.no (Bnd.at_ .i64 (by kernel_rfl)) (by decide : (0 : Int) ≤ 0) g8 g9 ?_
  refine Goes.rn 4 [(2, .string (ss x2 0 (imn (x2.size : Int) 12)))] J117 ?_
  refine Goes.ldN 28 (.tmp 3) 23 28 ⟨b1, 0, none⟩ (.i x0.Kind :: U4 x0.Set [.slice u92 x0.L.length u94, .i x0.Min, .i x0.Max]) (p4.pa 1 0) ?_
  refine bind_some' h fun y10 e11 h => ?_
  refine Goes.cal (kc 12 [23] #[28]) 24 36 12 _ (W.z4p x0 y10 e11 u92 x0.L.length u94 p4 u9e (u9f.ext ((z2.trans z3).trans z4)) rfl) ?_
  rintro _ w5 ⟨S5, u19c, u19d, u19e, u19f, u19g, u19h, u19i, u19j, u19k, rfl, z5, p5, u19l, u19m, rfl, ubr, rfl⟩
  refine Goes.rn 4 [(22, .tuple #[(ag (.i y10.1.Kind :: U4 y10.1.Set [.slice (Gp u19c) y10.1.L.length u19e, .i y10.1.Min, .i y10.1.Max])), .slice (Gp u19h) y10.2.1.length u19j, .bool y10.2.2]), (25, (ag (.i y10.1.Kind :: U4 y10.1.Set [.slice (Gp u19c) y10.1.L.length u19e, .i y10.1.Min, .i y10.1.Max]))), (26, .slice (Gp u19h) y10.2.1.length u19j), (27, .bool y10.2.2)] J118 ?_
  refine Op_.st 28 (.tmp 3) (.tmp 25) 0 3 b1 0 (ag (.i y10.1.Kind :: U4 y10.1.Set [.slice (Gp u19c) y10.1.L.length u19e, .i y10.1.Min, .i y10.1.Max])) (.i y10.1.Kind :: U4 y10.1.Set [.slice (Gp u19c) y10.1.L.length u19e, .i y10.1.Min, .i y10.1.Max]) p5 rfl Goes.s (by kernel_rfl) (by kernel_rfl) (by kernel_rfl) (by kernel_rfl) (Nat.zero_le _) (by simp only [List.length_cons, List.length_nil]; omega) (by simp [Value.oneCell']) ?_
  intro w6 z6 p6
  have p6 : Hp nz wz S5 w6 ((u19c, .row 28 u19f (u19e * kT27.size) u19g) :: (u19h, .row 89 u19k (u19j * kT88.size) 0) :: (some b3, .row 28 (.i x1.Kind :: U4 x1.Set [.slice uak x1.L.length uam, .i x1.Min, .i x1.Max]) 8 0) :: (some b1, .row 28 (.i y10.1.Kind :: U4 y10.1.Set [.slice (Gp u19c) y10.1.L.length u19e, .i y10.1.Min, .i y10.1.Max]) 8 0) :: Lr) := p6
  refine Goes.rn 5 [(7, .slice (Gp u19h) y10.2.1.length u19j), (8, .bool y10.2.2)] J11a ?_
  refine Goes.ldN 28 (.tmp 4) 29 28 ⟨b3, 0, none⟩ (.i x1.Kind :: U4 x1.Set [.slice uak x1.L.length uam, .i x1.Min, .i x1.Max]) (p6.pa 2 0) ?_
  refine bind_some' h fun y14 e15 h => ?_
  refine Goes.cal (kc 12 [29] #[28]) 30 36 12 _ (W.z4p x1 y14 e15 uak x1.L.length uam p6 uah (uan.ext ((((z2.trans z3).trans z4).trans z5).trans z6)) rfl) ?_
  rintro _ w7 ⟨S7, u19n, u19o, u19p, u19q, u19r, u19s, u19t, u19u, u19v, rfl, z7, p7, u19w, u19x, rfl, u19y, rfl⟩
  have p7 := p7.dp 3
  refine Goes.rn 4 [(28, .tuple #[(ag (.i y14.1.Kind :: U4 y14.1.Set [.slice (Gp u19n) y14.1.L.length u19p, .i y14.1.Min, .i y14.1.Max])), .slice (Gp u19s) y14.2.1.length u19u, .bool y14.2.2]), (31, (ag (.i y14.1.Kind :: U4 y14.1.Set [.slice (Gp u19n) y14.1.L.length u19p, .i y14.1.Min, .i y14.1.Max]))), (32, .slice (Gp u19s) y14.2.1.length u19u), (33, .bool y14.2.2)] J11b ?_
  refine Op_.st 28 (.tmp 4) (.tmp 31) 0 3 b3 0 (ag (.i y14.1.Kind :: U4 y14.1.Set [.slice (Gp u19n) y14.1.L.length u19p, .i y14.1.Min, .i y14.1.Max])) (.i y14.1.Kind :: U4 y14.1.Set [.slice (Gp u19n) y14.1.L.length u19p, .i y14.1.Min, .i y14.1.Max]) p7 rfl Goes.s (by kernel_rfl) (by kernel_rfl) (by kernel_rfl) (by kernel_rfl) (Nat.zero_le _) (by simp only [List.length_cons, List.length_nil]; omega) (by simp [Value.oneCell']) ?_
  intro w8 z8 p8
  have p8 : Hp nz wz S7 w8 ((u19n, .row 28 u19q (u19p * kT27.size) u19r) :: (u19s, .row 89 u19v (u19u * kT88.size) 0) :: (u19c, .row 28 u19f (u19e * kT27.size) u19g) :: (some b3, .row 28 (.i y14.1.Kind :: U4 y14.1.Set [.slice (Gp u19n) y14.1.L.length u19p, .i y14.1.Min, .i y14.1.Max]) 8 0) :: (some b1, .row 28 (.i y10.1.Kind :: U4 y10.1.Set [.slice (Gp u19c) y10.1.L.length u19e, .i y10.1.Min, .i y10.1.Max]) 8 0) :: Lr) := p8
  refine Goes.rn 9 [(9, .slice (Gp u19s) y14.2.1.length u19u), (10, .bool y14.2.2), (34, .bool y10.2.2), (35, .bool (!y10.2.2)), (36, .bool (!y10.2.2))] J11c ?_
  refine ite_some h (fun h18 h => ?_) (fun h18 h => ?_)
  ·
   rw [h18]
   refine Goes.rn 4 [(37, .bool y14.2.2), (38, .bool (!y14.2.2)), (39, .bool (!y14.2.2))] J10t ?_
   have p8 := p8.dp 1
   have p8 := (((p8.fr 0).fr 2).fr 2).fr 3
   exact Goes.jp 117 [(2, .string (ss x2 0 (imn (x2.size : Int) 12))), (3, (pt b1 0)), (4, (pt b3 0)), (39, .bool (!y14.2.2))] (W.z5e _ _ h _ _ ((((((((Ext.refl S0 w0).trans z2).trans z3).trans z4).trans z5).trans z6).trans z7).trans z8) b1 u19c y10.1.L.length u19e u19f u19g b3 u19n y14.1.L.length u19p u19q u19r p8 u19l (u19m.ext ((z6.trans z7).trans z8)) rfl u19w (u19x.ext z8) rfl)
  ·
   have u5c : y10.2.2 = false := by simpa using h18
   rw [u5c]
   refine Goes.rn 4 [(37, undef), (38, undef), (39, .bool true)] J10t ?_
   have p8 := p8.dp 1
   have p8 := (((p8.fr 0).fr 2).fr 2).fr 3
   exact Goes.jp 117 [(2, .string (ss x2 0 (imn (x2.size : Int) 12))), (3, (pt b1 0)), (4, (pt b3 0)), (39, .bool true)] (W.z5e _ _ h _ _ ((((((((Ext.refl S0 w0).trans z2).trans z3).trans z4).trans z5).trans z6).trans z7).trans z8) b1 u19c y10.1.L.length u19e u19f u19g b3 u19n y14.1.L.length u19p u19q u19r p8 u19l (u19m.ext ((z6.trans z7).trans z8)) rfl u19w (u19x.ext z8) rfl)
 ·
  have h7' : y5 = false := by simpa using h7
  rw [h7']
  refine Goes.rn 5 [(6, .bool false)] J11d ?_
  obtain rfl := Option.some.inj h
  have p4 := (p4.dp 0).dp 0
  exact Goes.rt Try.f5 (.bool false) ⟨S4, rfl, ((((Ext.refl S0 w0).trans z2).trans z3).trans z4), p4⟩

end

end Go.Gx
