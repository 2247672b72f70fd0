/-
 Regions whose order is open: the operations that read. Generic: names no program.
-/
import Derived.Test.YtbclkjbkebebeaaGreatG7
namespace Go.Gx
open Go.RowKit
def Cells (w : World) : List (Addr × Value) → Prop
 | [] => True
 | x :: r => w.cell? x.1 = some x.2 ∧ Cells w r
def Fc (S : Fz) (w : World) (cells : List (Addr × Value)) (w' : World) : Prop := (∃ S', Ext S w S' w') ∧ Cells w' cells
theorem Cells.at_ {w : World} : ∀ {l : List (Addr × Value)} (n : Nat) {a : Addr} {v : Value}, Cells w l → l[n]? = some (a, v) → w.cell? a = some v
 | [], _, _, _, _, h => by simp at h
 | x :: r, 0, _, _, hc, h => by simp at h; subst h; exact hc.1
 | x :: r, n + 1, _, _, hc, h => Cells.at_ n hc.2 (by simpa using h)
theorem Cs.fc {S : Fz} {w w' : World} {cells : List (Addr × Value)} {ad : Addr} {vs : List Value} (h : Cs S w ad vs) (hF : Fc S w cells w') (j : Nat) (v : Value) (hj : vs[j]? = some v) : w'.cell? (ad.add j) = some v := by
 obtain ⟨⟨S', hx⟩, _⟩ := hF
 exact (h.ext hx).cell j v hj
section
variable {P : Program} {b : Frame} {k : List Item} {w : World} {D : List Frame → Machine → Prop} {ops : Array Oper} {i : Nat} {fr : Array Value} {ds : List Deferred}
variable {F F' : World → Prop} {s : List Nat} {fuel : Nat} {listed : Array Bool} {a : Act} {S : Fz} {cells : List (Addr × Value)} {α : Type} {K : Kd α}
theorem AnyS.mono (h : ∀ w, F' w → F w) : ∀ (fuel : Nat) (listed : Array Bool) (a : Act) (w : World), AnyS P .any ops (QG P b k D) F' s fuel listed a w → AnyS P .any ops (QG P b k D) F s fuel listed a w
 | 0, _, _, _, g => g
 | fuel + 1, _, _, _, g => ⟨g.1, fun i hi => wpOp_mono (fun a' w' h' => h'.imp id fun h'' => ⟨h w' h''.1, AnyS.mono h fuel _ a' w' h''.2⟩) (g.2 i hi)⟩
theorem AnyG.next {S1 : Fz} {w1 : World} (hx : Ext S w S1 w1) (hc : Cells w1 cells) (g : AnyG P b k D ops (Fc S1 w1 cells) s fuel listed a w1) : AnyC P b k D ops (Fc S w cells) s fuel i listed a w1 :=
 fun hcl => .inr ⟨⟨⟨S1, hx⟩, hc⟩, AnyS.mono (fun _ ⟨⟨S', hx'⟩, hc'⟩ => ⟨⟨S', hx.trans hx'⟩, hc'⟩) _ _ _ _ (g hcl)⟩
theorem AnyG.refz {S1 : Fz} (hx : Ext S w S1 w) (g : AnyG P b k D ops (Fc S1 w cells) s fuel listed a w) : AnyG P b k D ops (Fc S w cells) s fuel listed a w :=
 fun hcl => AnyS.mono (fun _ ⟨⟨S', hx'⟩, hc'⟩ => ⟨⟨S', hx.trans hx'⟩, hc'⟩) _ _ _ _ (g hcl)
theorem AnyG.last {w1 : World} (s' : List Nat) (F' : World → Prop) (hi : i ∈ s) (g : AnyG P b k D ops F' s' fuel listed a w1) : AnyC P b k D ops F s fuel i listed a w1 := fun hcl => .inl ⟨hi, (g hcl).any⟩
theorem Fc.here (hc : Cells w cells) : Fc S w cells w := ⟨⟨S, Ext.refl _ _⟩, hc⟩
theorem AnyG.ixR [Inhabited α] (t : TypeId) (x ix : Operand) (d : Tmp) (ty : TypeId) (e : TypeId) (kk : IntKind) (j : Int) {A : Option Addr} {c : Nat} {xs : List α} (hr : Rd K S w A c xs) (h : opAtW ops i fr = some (.indexAddr t x ix, some d, ty)) (htk : takeB .any ops listed s i = true) (hF : F w)
  (hx : Act.eval ⟨fr, ds⟩ x = .slice A xs.length c) (hj : Act.eval ⟨fr, ds⟩ ix = .int kk j) (ht : elemB P t = some e) (hs : sizeB P e = some K.size) (h0 : 0 ≤ j) (h1 : j < xs.length)
  (g : ∀ ad vs, Cs S w ad vs → K.rep S w vs (gi xs j) → AnyG P b k D ops F s fuel (listed.setIfInBounds i true) ⟨upd fr [(d, .pointer (some ad))], ds⟩ w) : AnyG P b k D ops F s (fuel + 1) listed ⟨fr, ds⟩ w := by
 have hlt : j.toNat < xs.length := by omega
 cases A with
 | none => have := hr.1; have := hr.2.1 rfl; omega
 | some a =>
  obtain ⟨cs, he, hc⟩ := hr.2.2 a rfl
  obtain ⟨us, vs, ws, e1, hl, hv⟩ := he.at_ j.toNat hlt
  rw [e1] at hc
  have hcc := (Cs.add hc).left
  rw [hl] at hcc
  refine .val _ _ _ _ h htk (fun w' _ => ?_) hF (g _ vs hcc (by rw [gi_at xs hlt]; exact hv))
  simp [execOp, mkO, hx, hj, run_indexAt w' ht hs h0 h1]
theorem AnyG.slR (t : TypeId) (x : Operand) (lo hi : Option Operand) (d : Tmp) (ty : TypeId) (e : TypeId) (j1 j2 : Int) {A : Option Addr} {c : Nat} {xs : List α} (hr : Rd K S w A c xs) (h : opAtW ops i fr = some (.slice t x lo hi none, some d, ty)) (htk : takeB .any ops listed s i = true) (hF : F w)
  (hx : Act.eval ⟨fr, ds⟩ x = .slice A xs.length c) (ht : elemB P t = some e) (hs : sizeB P e = some K.size) (hlo : Bnd (Act.eval ⟨fr, ds⟩) lo j1 0) (hhi : Bnd (Act.eval ⟨fr, ds⟩) hi j2 xs.length)
  (h0 : 0 ≤ j1) (h1 : j1 ≤ j2) (h2 : j2 ≤ xs.length)
  (g : ∀ A' c', Rd K S w A' c' (sl xs j1 j2) → AnyG P b k D ops F s fuel (listed.setIfInBounds i true) ⟨upd fr [(d, .slice A' (sl xs j1 j2).length c')], ds⟩ w) : AnyG P b k D ops F s (fuel + 1) listed ⟨fr, ds⟩ w := by
 obtain ⟨l, rfl⟩ := Int.eq_ofNat_of_zero_le h0
 obtain ⟨m, rfl⟩ := Int.eq_ofNat_of_zero_le (show 0 ≤ j2 by omega)
 have hc := hr.1
 have := g _ _ (hr.cut l m (by omega) (by omega))
 have hlen : ((xs.take m).drop l).length = m - l := by simp; omega
 refine .val _ _ _ _ h htk (fun w' _ => ?_) hF this
 have hrun := run_sliceAt (P := P) (A := A) (n := xs.length) (c := c) (l := l) (m := m) w' ht hs hlo hhi (by omega) (by omega)
 simp [execOp, mkO, hx, hrun, sl, hlen]
theorem AnyG.ld1 (t : TypeId) (x : Operand) (d : Tmp) (ty : TypeId) (ad : Addr) (v : Value) (h : opAtW ops i fr = some (.load t x, some d, ty)) (htk : takeB .any ops listed s i = true) (hF : F w) (hx : Act.eval ⟨fr, ds⟩ x = .pointer (some ad)) (ht : aggB P t = some false)
  (hc : ∀ w', F w' → w'.cell? ad = some v) (g : AnyG P b k D ops F s fuel (listed.setIfInBounds i true) ⟨upd fr [(d, v)], ds⟩ w) : AnyG P b k D ops F s (fuel + 1) listed ⟨fr, ds⟩ w := by
 refine .val _ _ _ _ h htk (fun w' hF' => ?_) hF g
 simp [execOp, mkO, hx, Instr.loadAt, Instr.sureAddr, run_load1 ht (hc w' hF')]
theorem AnyG.ldN (t : TypeId) (x : Operand) (d : Tmp) (ty : TypeId) (ad : Addr) (vs : List Value) (h : opAtW ops i fr = some (.load t x, some d, ty)) (htk : takeB .any ops listed s i = true) (hF : F w) (hx : Act.eval ⟨fr, ds⟩ x = .pointer (some ad)) (ht : aggB P t = some true) (hs : sizeB P t = some vs.length)
  (hc : ∀ w', F w' → ∀ j v, vs[j]? = some v → w'.cell? (ad.add j) = some v) (g : AnyG P b k D ops F s fuel (listed.setIfInBounds i true) ⟨upd fr [(d, .agg vs.toArray)], ds⟩ w) : AnyG P b k D ops F s (fuel + 1) listed ⟨fr, ds⟩ w := by
 refine .val _ _ _ _ h htk (fun w' hF' => ?_) hF g
 simp [execOp, mkO, hx, Instr.loadAt, Instr.sureAddr, run_loadN vs ht hs (hc w' hF')]
theorem AnyG.ixS (t : TypeId) (x ix : Operand) (d : Tmp) (ty : TypeId) (kk : IntKind) (u : ByteArray) (j : Int) (h : opAtW ops i fr = some (.index t x ix, some d, ty)) (htk : takeB .any ops listed s i = true) (hF : F w) (hx : Act.eval ⟨fr, ds⟩ x = .string u) (hj : Act.eval ⟨fr, ds⟩ ix = .int kk j) (ht : strB P t = true) (h0 : 0 ≤ j) (h1 : j < (u.size : Int))
  (g : AnyG P b k D ops F s fuel (listed.setIfInBounds i true) ⟨upd fr [(d, .int .u8 (bt u j))], ds⟩ w) : AnyG P b k D ops F s (fuel + 1) listed ⟨fr, ds⟩ w := by
 refine .val _ _ _ _ h htk (fun w' _ => ?_) hF g
 have hlt : j.toNat < u.size := by omega
 simp [execOp, mkO, hx, hj, Instr.index, asIntOf, run_underlying' w' (strB_spec ht), h0, bt, hlt]
theorem AnyG.slS (t : TypeId) (x : Operand) (lo hi : Option Operand) (d : Tmp) (ty : TypeId) (u : ByteArray) (j1 j2 : Int) (h : opAtW ops i fr = some (.slice t x lo hi none, some d, ty)) (htk : takeB .any ops listed s i = true) (hF : F w) (hx : Act.eval ⟨fr, ds⟩ x = .string u) (ht : strB P t = true)
  (hlo : Bnd (Act.eval ⟨fr, ds⟩) lo j1 0) (hhi : Bnd (Act.eval ⟨fr, ds⟩) hi j2 u.size) (h0 : 0 ≤ j1) (h1 : j1 ≤ j2) (h2 : j2 ≤ (u.size : Int))
  (g : AnyG P b k D ops F s fuel (listed.setIfInBounds i true) ⟨upd fr [(d, .string (Gx.ss u j1 j2))], ds⟩ w) : AnyG P b k D ops F s (fuel + 1) listed ⟨fr, ds⟩ w := by
 exact .val _ _ _ _ h htk (fun w' _ => run_slS t x lo hi d ty u j1 j2 hx ht hlo hhi h0 h1 h2 w') hF g
end
end Go.Gx
