/-
 Texts, divisions, shifts, arrays. Generic: names no program.
-/
import Derived.Test.YtbclkjbkebebeaaGreatG5
import Derived.Laws.BytesString
import Derived.Laws.IdiomStrings
namespace Go.Gx
open Go.RowKit
section
variable {P : Program} {X : Prop} {Y : Array Value → World → Prop} {b : Frame} {k : List Item} {w : World} {D : List Frame → Machine → Prop} {ops : Array Oper} {i : Nat} {rest : List Nat} {fr : Array Value} {ds : List Deferred}
variable {N : Nat} {w0 : World} {S : Fz} {L : List Ent} {α : Type} {K : Kd α}
def intB (P : Program) (t : TypeId) : Option IntKind :=
 match P.underlying t with
 | some (.int k) => some k
 | _ => none
def strB (P : Program) (t : TypeId) : Bool :=
 match P.underlying t with
 | some .string => true
 | _ => false
theorem intB_spec {t : TypeId} {k : IntKind} (h : intB P t = some k) : P.underlying t = some (.int k) := by
 unfold intB at h
 split at h
 ·rename_i hu; cases h; exact hu
 ·cases h
theorem strB_spec {t : TypeId} (h : strB P t = true) : P.underlying t = some .string := by
 unfold strB at h
 split at h
 ·assumption
 ·cases h
theorem els_bytes {cs : List Value} {xs : List Int} {kk : IntKind} (h : Els (kInt kk) S w cs xs) : cs = xs.map (Value.int kk) := by
 induction h with
 | nil => rfl
 | cons h _ ih => obtain rfl := h; rw [ih]; rfl
theorem foldl_push (xs : List Int) : ∀ (r : ByteArray), xs.foldl (fun r n => r.push (UInt8.ofNat n.toNat)) r = ⟨r.data ++ (xs.map fun x => x.toNat.toUInt8).toArray⟩ := by
 induction xs with
 | nil => intro r; simp
 | cons x xs ih => intro r; simp only [List.foldl_cons]; rw [ih]; simp [ByteArray.push]
theorem Op_.b2s (src dst : TypeId) (x : Operand) (d : Tmp) (ty e : TypeId) {A : Option Addr} {c : Nat} {xs : List Int} (hr : Rd (kInt .u8) S w A c xs) (h : VStep P (.convert src dst x) d ty fr ds w X Y) (hx : Act.eval ⟨fr, ds⟩ x = .slice A xs.length c)
  (hs : elemB P src = some e) (he : intB P e = some .u8) (hd : strB P dst = true) (g : Y (upd fr [(d, .string (Gx.b2s xs))]) w) : X := by
 refine h _ _ ?_ g
 have h1 := elemB_spec hs
 have h2 := intB_spec he
 have h3 := strB_spec hd
 cases A with
 | none =>
  have hl := hr.1
  rw [hr.2.1 rfl] at hl
  have : xs = [] := List.eq_nil_of_length_eq_zero (by omega)
  subst this
  simp only [execOp, mkO, hx]
  simp only [convert, Sem.run_bind, run_underlying' w h1, run_underlying' w h3, run_underlying' w h2, Result.andThen_ok, Conv.bytesToString, Sem.run_pure]
  rfl
 | some a =>
  obtain ⟨cs, hel, hc⟩ := hr.2.2 a rfl
  have hcs := els_bytes hel
  have hload := run_loadCells_list (P := P) w a cs (fun j v hj => hc.cell j v hj)
  have hlen : cs.length = xs.length := by rw [hcs]; simp
  rw [hlen, hcs] at hload
  have hrun := run_bytesToString (P := P) w a xs.length c xs hload
  simp only [execOp, mkO, hx]
  simp only [convert, Sem.run_bind, run_underlying' w h1, run_underlying' w h3, run_underlying' w h2, Result.andThen_ok, hrun, Sem.run_pure]
  rw [foldl_push]
  simp [Gx.b2s]
theorem Op_.s2b (src dst : TypeId) (x : Operand) (d : Tmp) (ty e : TypeId) (s : ByteArray) (hp : Hp N w0 S w L) (h : VStep P (.convert src dst x) d ty fr ds w X Y) (hx : Act.eval ⟨fr, ds⟩ x = .string s) (hs : strB P src = true) (he : elemB P dst = some e) (hk : intB P e = some .u8)
  (g : ∀ S' w' A c, Ext S w S' w' → Hp N w0 S' w' L → Rd (kInt .u8) S' w' A c (Gx.s2b s) → Y (upd fr [(d, .slice A (Gx.s2b s).length c)]) w') : X := by
 have hr := run_bytes_of_string (P := P) w src dst e s (strB_spec hs) (elemB_spec he) (intB_spec hk)
 have hcap := grownCap_ge w s.size 0 e
 generalize grownCap w s.size 0 e = cap at hr hcap
 generalize hrow : bytesRow s cap = row at hr
 have hrl : row.toList = (Gx.s2b s).map (Value.int .u8) ++ List.replicate (cap - s.size) (.int .u8 0) := by
  rw [← hrow]
  simp [bytesRow, Gx.s2b]
 have hlen : (Gx.s2b s).length = s.size := by simp only [Gx.s2b, List.length_map, Array.length_toList]; rfl
 have hcellN : ∀ j v, ((Gx.s2b s).map (Value.int .u8))[j]? = some v → (w.drew.alloc (.cells row e (row.size, row.size + 1))).cell? ⟨w.heap.size, j, none⟩ = some v := by
  intro j v hj
  have hjl := (List.getElem?_eq_some_iff.1 hj).1
  have e1 : row.toList[j]? = some v := by rw [hrl, List.getElem?_append_left hjl]; exact hj
  simp only [World.cell?]
  rw [show (w.drew.alloc (.cells row e (row.size, row.size + 1))).heap[w.heap.size]? = some (.cells row e (row.size, row.size + 1)) from heap_new w.drew _]
  simpa using e1
 have hgo := g (fzSet S w.heap.size s.size) (w.drew.alloc (.cells row e (row.size, row.size + 1))) (some ⟨w.heap.size, 0, none⟩) cap ?_ ?_ ?_
 ·rw [hlen] at hgo
  refine h _ _ ?_ hgo
  simp only [execOp, mkO, hx, Sem.run_bind, hr, Result.andThen_ok, Sem.run_pure]
 ·refine ⟨fun b => by rw [fzSet_app]; split <;> omega, fun b i v hi hv => ?_, fun _ => List.prefix_refl _⟩
  have := (Ext.draw.trans (Ext.alloc S w.drew (.cells row e (row.size, row.size + 1)))).cell b i v hi hv
  exact this
 ·have h1 := hp.draw
  refine ⟨h1.below.alloc h1.le _, by have := h1.le; simp at this ⊢; omega, fun b hb => ?_, h1.nd, h1.np, h1.ge, fun x hx => ?_⟩
  ·simp at hb
   rw [fzSet_app, if_neg (by omega)]
   exact h1.fz b (by simp; omega)
  ·refine (h1.at_ x hx).kept fun b hb => ?_
   have hlt : b < w.heap.size := (h1.at_ _ hx).idsLt hb
   refine ⟨Below.heap_alloc w.drew _ b hlt, ?_⟩
   rw [fzSet_app, if_neg (by omega)]
   exact Nat.le_refl _
 ·refine ⟨by omega, (fun e => by cases e), fun a ha => ?_⟩
  cases ha
  refine ⟨(Gx.s2b s).map (Value.int .u8), ?_, fun _ => ⟨rfl, fun j v hj => ⟨?_, ?_⟩⟩⟩
  ·generalize Gx.s2b s = xs
   induction xs with
   | nil => exact .nil
   | cons x xs ih => exact Els.cons (K := kInt .u8) (vs := [.int .u8 x]) rfl ih
  ·have hjl := (List.getElem?_eq_some_iff.1 hj).1
   simp at hjl
   simp only [fzSet_app, if_pos]
   omega
  ·rw [Nat.zero_add]
   exact hcellN j v hj
theorem Op_.ixS (t : TypeId) (x ix : Operand) (d : Tmp) (ty : TypeId) (kk : IntKind) (s : ByteArray) (j : Int) (h : VStep P (.index t x ix) d ty fr ds w X Y) (hx : Act.eval ⟨fr, ds⟩ x = .string s) (hj : Act.eval ⟨fr, ds⟩ ix = .int kk j) (ht : strB P t = true) (h0 : 0 ≤ j) (h1 : j < (s.size : Int))
  (g : Y (upd fr [(d, .int .u8 (bt s j))]) w) : X := by
 refine h _ _ ?_ g
 have hlt : j.toNat < s.size := by omega
 simp [execOp, mkO, hx, hj, Instr.index, asIntOf, run_underlying' w (strB_spec ht), h0, bt, hlt]
theorem run_slS (t : TypeId) (x : Operand) (lo hi : Option Operand) (d : Tmp) (ty : TypeId) (s : ByteArray) (j1 j2 : Int) (hx : Act.eval ⟨fr, ds⟩ x = .string s) (ht : strB P t = true)
  (hlo : Bnd (Act.eval ⟨fr, ds⟩) lo j1 0) (hhi : Bnd (Act.eval ⟨fr, ds⟩) hi j2 s.size) (h0 : 0 ≤ j1) (h1 : j1 ≤ j2) (h2 : j2 ≤ (s.size : Int)) (w : World) :
  (execOp (Act.eval ⟨fr, ds⟩) (mkO (.slice t x lo hi none) (some d) ty)).run P w = .ok (.value (.string (Gx.ss s j1 j2))) w := by
 obtain ⟨l, rfl⟩ := Int.eq_ofNat_of_zero_le h0
 obtain ⟨m, rfl⟩ := Int.eq_ofNat_of_zero_le (show 0 ≤ j2 by omega)
 have hl : l ≤ m := by omega
 have hm : m ≤ s.size := by omega
 have hu := strB_spec ht
 rcases hlo with ⟨rfl, e0⟩ | ⟨y, ky, rfl, ey⟩ <;> rcases hhi with ⟨rfl, e1⟩ | ⟨z, kz, rfl, ez⟩
 ·have : l = 0 := by omega
  have : m = s.size := by omega
  subst l m
  simp [execOp, mkO, hx, Instr.sliceAt, Instr.slice, Instr.sliceBounds, run_underlying' w hu, Gx.ss]
 ·have : l = 0 := by omega
  subst l
  simp [execOp, mkO, hx, Instr.sliceAt, Instr.slice, Instr.sliceBounds, Instr.sliceBound, asIntOf, run_underlying' w hu, ez, hm, Gx.ss]
 ·have : m = s.size := by omega
  subst m
  simp [execOp, mkO, hx, Instr.sliceAt, Instr.slice, Instr.sliceBounds, Instr.sliceBound, asIntOf, run_underlying' w hu, ey, hl, Gx.ss]
 ·simp [execOp, mkO, hx, Instr.sliceAt, Instr.slice, Instr.sliceBounds, Instr.sliceBound, asIntOf, run_underlying' w hu, ey, ez, hl, hm, Gx.ss]
theorem Op_.slS (t : TypeId) (x : Operand) (lo hi : Option Operand) (d : Tmp) (ty : TypeId) (s : ByteArray) (j1 j2 : Int) (h : VStep P (.slice t x lo hi none) d ty fr ds w X Y) (hx : Act.eval ⟨fr, ds⟩ x = .string s) (ht : strB P t = true)
  (hlo : Bnd (Act.eval ⟨fr, ds⟩) lo j1 0) (hhi : Bnd (Act.eval ⟨fr, ds⟩) hi j2 s.size) (h0 : 0 ≤ j1) (h1 : j1 ≤ j2) (h2 : j2 ≤ (s.size : Int))
  (g : Y (upd fr [(d, .string (Gx.ss s j1 j2))]) w) : X :=
 h _ _ (run_slS t x lo hi d ty s j1 j2 hx ht hlo hhi h0 h1 h2 w) g
theorem Op_.binshl (t : TypeId) (x y : Operand) (t2 : TypeId) (d : Tmp) (ty : TypeId) (k1 k2 : IntKind) (u v : Int) (h : VStep P (.binOp .shl t x y t2) d ty fr ds w X Y) (hx : Act.eval ⟨fr, ds⟩ x = .int k1 u) (hy : Act.eval ⟨fr, ds⟩ y = .int k2 v) (h1 : 0 ≤ v)
  (g : Y (upd fr [(d, .int k1 (ishl k1 u v))]) w) : X := by
 refine h _ _ ?_ g
 have h2 : ¬ v < 0 := by omega
 simp [execOp, mkO, hx, hy, eqGuard, binOp, Op.shift, h2, ishl]
end
end Go.Gx
