/-
 Calls of functions that have no body: what the model says of them. Generic: names no program.
-/
import Derived.Test.YtbclkjbkebebeaaGreatGC
import Derived.Laws.Externs
set_option linter.unusedVariables false
namespace Go.Gx
open Go.RowKit
section
variable {P : Program} {w : World} {fr : Array Value} {ds : List Deferred} {X : Prop} {Y : Array Value → World → Prop}
theorem Op_.ext (c : Call) (d : Tmp) (ty : TypeId) (f : FuncId) (args : Array Value) (fn : Func) (e : Array Value → Sem Value) (v : Value) (h : VStep P (.call c) d ty fr ds w X Y)
  (hr : pureRun P (resolve (Act.eval ⟨fr, ds⟩) c ty) = some { target := .fn (.func f) #[], args := args }) (hf : P.funcs[f]? = some fn) (hname : (fn.name == "runtime.NumGoroutine") = false)
  (hb : fn.body.isNone = true) (hn : Extern.findNext fn = none) (he : Extern.find fn = some e) (hv : (e args).run P w = .ok v w) (g : Y (upd fr [(d, v)]) w) : X := by
 refine h _ _ ?_ g
 simp only [execOp, mkO, Sem.run_bind, pureRun_run w hr, Result.andThen, invoke, Array.append_empty]
 rw [run_callFunc_extern hf hname hb hn he, hv]
 rfl
end
/-! ### Rows of one's own that are read in a region whose order is open -/
def rowCells (g : Nat) (cs : List Value) : List (Addr × Value) := cs.mapIdx fun j v => (⟨g, j, none⟩, v)
theorem Cells.mk {w : World} : ∀ {l : List (Addr × Value)}, (∀ x ∈ l, w.cell? x.1 = some x.2) → Cells w l
 | [], _ => trivial
 | x :: r, h => ⟨h x (.head _), Cells.mk fun y hy => h y (.tail _ hy)⟩
theorem Cells.app {w : World} : ∀ {a b : List (Addr × Value)}, Cells w a → Cells w b → Cells w (a ++ b)
 | [], _, _, h => h
 | _ :: _, _, ha, h => ⟨ha.1, Cells.app ha.2 h⟩
theorem Cells.left {w : World} : ∀ {a b : List (Addr × Value)}, Cells w (a ++ b) → Cells w a
 | [], _, _ => trivial
 | _ :: _, _, h => ⟨h.1, Cells.left h.2⟩
theorem Cells.right {w : World} : ∀ {a b : List (Addr × Value)}, Cells w (a ++ b) → Cells w b
 | [], _, h => h
 | _ :: _, _, h => Cells.right h.2
theorem Cells.row {w : World} {g : Nat} {cs : List Value} (h : ∀ j v, cs[j]? = some v → w.cell? ⟨g, j, none⟩ = some v) : Cells w (rowCells g cs) := by
 refine Cells.mk fun x hx => ?_
 obtain ⟨j, hj, rfl⟩ := List.mem_mapIdx.1 hx
 exact h j _ (List.getElem?_eq_getElem hj)
def rowCellsO : Option Nat → List Value → List (Addr × Value)
 | some g, cs => rowCells g cs
 | none, _ => []
theorem Cells.rowO {S : Fz} {w : World} {g : Option Nat} {t : TypeId} {cs : List Value} {cap k : Nat} (h : (Blk.row t cs cap k).At S w g) : Cells w (rowCellsO g cs) := by
 cases g with
 | none => trivial
 | some g => exact Cells.row h.cell
theorem Cells.rowAt {w : World} {g : Nat} {cs : List Value} (h : Cells w (rowCells g cs)) {j : Nat} {v : Value} (hj : cs[j]? = some v) : w.cell? ⟨g, j, none⟩ = some v := by
 refine Cells.at_ j h ?_
 simp only [rowCells, List.getElem?_mapIdx, hj, Option.map_some]
/-! ### Taken first in a region whose order is open -/
section
variable {P : Program} {b : Frame} {k : List Item} {w : World} {D : List Frame → Machine → Prop} {ops : Array Oper} {i : Nat} {fr : Array Value} {ds : List Deferred} {F : World → Prop} {s : List Nat} {fuel : Nat} {listed : Array Bool}
variable {N : Nat} {w0 : World} {S : Fz} {L : List Ent} {α : Type} {K : Kd α}
theorem AnyG.binshl (t : TypeId) (x y : Operand) (t2 : TypeId) (d : Tmp) (ty : TypeId) (k1 k2 : IntKind) (u v : Int) (h : opAtW ops i fr = some (.binOp .shl t x y t2, some d, ty)) (htk : takeB .any ops listed s i = true) (hF : F w)
  (hx : Act.eval ⟨fr, ds⟩ x = .int k1 u) (hy : Act.eval ⟨fr, ds⟩ y = .int k2 v) (h1 : 0 ≤ v)
  (g : AnyG P b k D ops F s fuel (listed.setIfInBounds i true) ⟨upd fr [(d, .int k1 (ishl k1 u v))], ds⟩ w) : AnyG P b k D ops F s (fuel + 1) listed ⟨fr, ds⟩ w := by
 refine .val _ _ _ _ h htk (fun w' _ => ?_) hF g
 have h2 : ¬ v < 0 := by omega
 simp [execOp, mkO, hx, hy, eqGuard, binOp, Op.shift, h2, ishl]
theorem AnyG.ixO_n [Inhabited α] (t : TypeId) (x ix : Operand) (d : Tmp) (ty : TypeId) (e : TypeId) (kk : IntKind) (j : Int) (m : Nat) (n c : Nat) {G : Option Nat} {cap kz : Nat} {xs : List α} {cs : List Value} (z : α) (hn : xs.length = n) (hz : gi xs j = z) (hp : Hp N w0 S w L)
  (hL : L[m]? = some (G, .row e cs cap kz)) (he : Els K S w cs xs) (h : opAtW ops i fr = some (.indexAddr t x ix, some d, ty)) (htk : takeB .any ops listed s i = true) (hF : F w)
  (hx : Act.eval ⟨fr, ds⟩ x = .slice (Gp G) n c) (hj : Act.eval ⟨fr, ds⟩ ix = .int kk j) (ht : elemB P t = some e) (hs : sizeB P e = some K.size) (hsz : 0 < K.size) (h0 : 0 ≤ j) (h1 : j < (n : Int))
  (g : ∀ bl vs, G = some bl → K.rep S w vs z → (∀ q v, vs[q]? = some v → cs[j.toNat * K.size + q]? = some v) → (∀ q v, vs[q]? = some v → w.cell? (Addr.add ⟨bl, j.toNat * K.size, none⟩ q) = some v) →
   AnyG P b k D ops F s fuel (listed.setIfInBounds i true) ⟨upd fr [(d, .pointer (some ⟨bl, j.toNat * K.size, none⟩))], ds⟩ w) : AnyG P b k D ops F s (fuel + 1) listed ⟨fr, ds⟩ w := by
 subst hn hz
 have hlt : j.toNat < xs.length := by omega
 have hat := hp.mem m hL
 cases G with
 | none =>
  exfalso
  have h2 := he.length
  rw [hat.1] at h2
  have : 0 < xs.length * K.size := Nat.mul_pos (by omega) hsz
  simp at h2
  omega
 | some bl =>
  obtain ⟨us, vs, ws, e1, hl, hv⟩ := he.at_ j.toNat hlt
  refine .val _ _ _ _ h htk (fun w' _ => ?_) hF (g bl vs rfl (by rw [gi_at xs hlt]; exact hv) ?_ ?_)
  ·simp only [Gp, Option.map_some] at hx
   simp only [execOp, mkO, hx, hj, run_indexAt w' ht hs h0 h1, Sem.run_bind, Result.andThen_ok, Sem.run_pure]
   congr 4
   unfold Addr.add
   split <;> simp_all
  ·intro q v hq
   rw [e1, ← hl, List.getElem?_append_right (by omega), Nat.add_sub_cancel_left, List.getElem?_append_left (List.getElem?_eq_some_iff.1 hq).1]
   exact hq
  ·intro q v hq
   have hcell := hat.cell (j.toNat * K.size + q) v (by
    rw [e1, ← hl, List.getElem?_append_right (by omega), Nat.add_sub_cancel_left, List.getElem?_append_left (List.getElem?_eq_some_iff.1 hq).1]
    exact hq)
   have : Addr.add ⟨bl, j.toNat * K.size, none⟩ q = ⟨bl, j.toNat * K.size + q, none⟩ := by unfold Addr.add; split <;> simp_all
   rw [this]; exact hcell
end
end Go.Gx
