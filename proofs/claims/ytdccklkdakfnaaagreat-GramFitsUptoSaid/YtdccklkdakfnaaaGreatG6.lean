/-
 Texts, divisions, shifts, arrays. Generic: names no program.
-/
import Derived.Test.YtdccklkdakfnaaaGreatG5
import Derived.Laws.BytesString
import Derived.Laws.IdiomStrings
namespace Go.Gx
open Go.RowKit
section
variable {P : Program} {X : Prop} {Y : Array Value → World → Prop} {b : Frame} {k : List Item} {w : World} {D : List Frame → Machine → Prop} {ops : Array Oper} {i : Nat} {rest : List Nat} {fr : Array Value} {ds : List Deferred}
variable {N : Nat} {w0 : World} {S : Fz} {L : List Ent} {α : Type} {K : Kd α}
def intB (P : Program) (t : TypeId) : Option IntKind :=
 match P.underlying t with
 | some (.int k) => some k
 | _ => none
def strB (P : Program) (t : TypeId) : Bool :=
 match P.underlying t with
 | some .string => true
 | _ => false
theorem intB_spec {t : TypeId} {k : IntKind} (h : intB P t = some k) : P.underlying t = some (.int k) := by
 unfold intB at h
 split at h
 ·rename_i hu; cases h; exact hu
 ·cases h
theorem strB_spec {t : TypeId} (h : strB P t = true) : P.underlying t = some .string := by
 unfold strB at h
 split at h
 ·assumption
 ·cases h
theorem els_bytes {cs : List Value} {xs : List Int} {kk : IntKind} (h : Els (kInt kk) S w cs xs) : cs = xs.map (Value.int kk) := by
 induction h with
 | nil => rfl
 | cons h _ ih => obtain rfl := h; rw [ih]; rfl
theorem foldl_push (xs : List Int) : ∀ (r : ByteArray), xs.foldl (fun r n => r.push (UInt8.ofNat n.toNat)) r = ⟨r.data ++ (xs.map fun x => x.toNat.toUInt8).toArray⟩ := by
 induction xs with
 | nil => intro r; simp
 | cons x xs ih => intro r; simp only [List.foldl_cons]; rw [ih]; simp [ByteArray.push]
theorem Op_.b2s (src dst : TypeId) (x : Operand) (d : Tmp) (ty e : TypeId) {A : Option Addr} {c : Nat} {xs : List Int} (hr : Rd (kInt .u8) S w A c xs) (h : VStep P (.convert src dst x) d ty fr ds w X Y) (hx : Act.eval ⟨fr, ds⟩ x = .slice A xs.length c)
  (hs : elemB P src = some e) (he : intB P e = some .u8) (hd : strB P dst = true) (g : Y (upd fr [(d, .string (Gx.b2s xs))]) w) : X := by
 refine h _ _ ?_ g
 have h1 := elemB_spec hs
 have h2 := intB_spec he
 have h3 := strB_spec hd
 cases A with
 | none =>
  have hl := hr.1
  rw [hr.2.1 rfl] at hl
  have : xs = [] := List.eq_nil_of_length_eq_zero (by omega)
  subst this
  simp only [execOp, mkO, hx]
  simp only [convert, Sem.run_bind, run_underlying' w h1, run_underlying' w h3, run_underlying' w h2, Result.andThen_ok, Conv.bytesToString, Sem.run_pure]
  rfl
 | some a =>
  obtain ⟨cs, hel, hc⟩ := hr.2.2 a rfl
  have hcs := els_bytes hel
  have hload := run_loadCells_list (P := P) w a cs (fun j v hj => hc.cell j v hj)
  have hlen : cs.length = xs.length := by rw [hcs]; simp
  rw [hlen, hcs] at hload
  have hrun := run_bytesToString (P := P) w a xs.length c xs hload
  simp only [execOp, mkO, hx]
  simp only [convert, Sem.run_bind, run_underlying' w h1, run_underlying' w h3, run_underlying' w h2, Result.andThen_ok, hrun, Sem.run_pure]
  rw [foldl_push]
  simp [Gx.b2s]
theorem Op_.ixS (t : TypeId) (x ix : Operand) (d : Tmp) (ty : TypeId) (kk : IntKind) (s : ByteArray) (j : Int) (h : VStep P (.index t x ix) d ty fr ds w X Y) (hx : Act.eval ⟨fr, ds⟩ x = .string s) (hj : Act.eval ⟨fr, ds⟩ ix = .int kk j) (ht : strB P t = true) (h0 : 0 ≤ j) (h1 : j < (s.size : Int))
  (g : Y (upd fr [(d, .int .u8 (bt s j))]) w) : X := by
 refine h _ _ ?_ g
 have hlt : j.toNat < s.size := by omega
 simp [execOp, mkO, hx, hj, Instr.index, asIntOf, run_underlying' w (strB_spec ht), h0, bt, hlt]
theorem run_slS (t : TypeId) (x : Operand) (lo hi : Option Operand) (d : Tmp) (ty : TypeId) (s : ByteArray) (j1 j2 : Int) (hx : Act.eval ⟨fr, ds⟩ x = .string s) (ht : strB P t = true)
  (hlo : Bnd (Act.eval ⟨fr, ds⟩) lo j1 0) (hhi : Bnd (Act.eval ⟨fr, ds⟩) hi j2 s.size) (h0 : 0 ≤ j1) (h1 : j1 ≤ j2) (h2 : j2 ≤ (s.size : Int)) (w : World) :
  (execOp (Act.eval ⟨fr, ds⟩) (mkO (.slice t x lo hi none) (some d) ty)).run P w = .ok (.value (.string (Gx.ss s j1 j2))) w := by
 obtain ⟨l, rfl⟩ := Int.eq_ofNat_of_zero_le h0
 obtain ⟨m, rfl⟩ := Int.eq_ofNat_of_zero_le (show 0 ≤ j2 by omega)
 have hl : l ≤ m := by omega
 have hm : m ≤ s.size := by omega
 have hu := strB_spec ht
 rcases hlo with ⟨rfl, e0⟩ | ⟨y, ky, rfl, ey⟩ <;> rcases hhi with ⟨rfl, e1⟩ | ⟨z, kz, rfl, ez⟩
 ·have : l = 0 := by omega
  have : m = s.size := by omega
  subst l m
  simp [execOp, mkO, hx, Instr.sliceAt, Instr.slice, Instr.sliceBounds, run_underlying' w hu, Gx.ss]
 ·have : l = 0 := by omega
  subst l
  simp [execOp, mkO, hx, Instr.sliceAt, Instr.slice, Instr.sliceBounds, Instr.sliceBound, asIntOf, run_underlying' w hu, ez, hm, Gx.ss]
 ·have : m = s.size := by omega
  subst m
  simp [execOp, mkO, hx, Instr.sliceAt, Instr.slice, Instr.sliceBounds, Instr.sliceBound, asIntOf, run_underlying' w hu, ey, hl, Gx.ss]
 ·simp [execOp, mkO, hx, Instr.sliceAt, Instr.slice, Instr.sliceBounds, Instr.sliceBound, asIntOf, run_underlying' w hu, ey, ez, hl, hm, Gx.ss]
theorem Op_.slS (t : TypeId) (x : Operand) (lo hi : Option Operand) (d : Tmp) (ty : TypeId) (s : ByteArray) (j1 j2 : Int) (h : VStep P (.slice t x lo hi none) d ty fr ds w X Y) (hx : Act.eval ⟨fr, ds⟩ x = .string s) (ht : strB P t = true)
  (hlo : Bnd (Act.eval ⟨fr, ds⟩) lo j1 0) (hhi : Bnd (Act.eval ⟨fr, ds⟩) hi j2 s.size) (h0 : 0 ≤ j1) (h1 : j1 ≤ j2) (h2 : j2 ≤ (s.size : Int))
  (g : Y (upd fr [(d, .string (Gx.ss s j1 j2))]) w) : X :=
 h _ _ (run_slS t x lo hi d ty s j1 j2 hx ht hlo hhi h0 h1 h2 w) g
theorem Op_.cat (t : TypeId) (x y : Operand) (t2 : TypeId) (d : Tmp) (ty : TypeId) (s u : ByteArray) (h : VStep P (.binOp .add t x y t2) d ty fr ds w X Y) (hx : Act.eval ⟨fr, ds⟩ x = .string s) (hy : Act.eval ⟨fr, ds⟩ y = .string u) (h1 : (s.size : Int) + (u.size : Int) ≤ 1099511627776)
  (g : Y (upd fr [(d, .string (s ++ u))]) w) : X := by
 refine h _ _ ?_ g
 have : ¬ ((s.size + u.size : Nat) : Int) > IntKind.i64.max := by
  have : IntKind.i64.max = 9223372036854775807 := by decide
  rw [this]; omega
 simp [execOp, mkO, hx, hy, eqGuard, binOp, Op.stringOp]
 omega
def arrB (P : Program) (t : TypeId) : Option (Nat × TypeId) :=
 match P.underlying t with
 | some (.array n e) => some (n, e)
 | _ => none
theorem arrB_spec {t e : TypeId} {n : Nat} (h : arrB P t = some (n, e)) : P.underlying t = some (.array n e) := by
 unfold arrB at h
 split at h
 ·rename_i hu; cases h; exact hu
 ·cases h
theorem Op_.ixA [Inhabited α] (t : TypeId) (x ix : Operand) (d : Tmp) (ty : TypeId) (e : TypeId) (n : Nat) (kk : IntKind) (j : Int) (m : Nat) {g : Nat} {t' : TypeId} {cap kz : Nat} {xs : List α} {cs : List Value} (hp : Hp N w0 S w L)
  (hL : L[m]? = some (some g, .row t' cs cap kz)) (he : Els K S w cs xs) (hn : xs.length = n) (h : VStep P (.indexAddr t x ix) d ty fr ds w X Y) (hx : Act.eval ⟨fr, ds⟩ x = .pointer (some ⟨g, 0, none⟩)) (hj : Act.eval ⟨fr, ds⟩ ix = .int kk j)
  (ht : arrB P t = some (n, e)) (hs : sizeB P e = some K.size) (h0 : 0 ≤ j) (h1 : j < (n : Int))
  (g' : ∀ vs, K.rep S w vs (gi xs j) → (∀ q v, vs[q]? = some v → w.cell? (Addr.add ⟨g, j.toNat * K.size, none⟩ q) = some v) → Y (upd fr [(d, .pointer (some ⟨g, j.toNat * K.size, none⟩))]) w) : X := by
 have hlt : j.toNat < xs.length := by omega
 have hat := hp.mem m hL
 obtain ⟨us, vs, ws, e1, hl, hv⟩ := he.at_ j.toNat hlt
 refine h _ _ ?_ (g' vs (by rw [gi_at xs hlt]; exact hv) ?_)
 ·have hu := arrB_spec ht
  have hadd : Addr.add ⟨g, 0, none⟩ (j.toNat * K.size) = ⟨g, j.toNat * K.size, none⟩ := by unfold Addr.add; split <;> simp_all
  simp [execOp, mkO, hx, hj, Instr.indexAt, asIntOf, run_underlying' w hu, Instr.sureAddr, h0, h1, run_sizeOf w hs, hadd]
 ·intro q v hq
  have hcell := hat.cell (j.toNat * K.size + q) v (by
   rw [e1, ← hl, List.getElem?_append_right (by omega), Nat.add_sub_cancel_left, List.getElem?_append_left (List.getElem?_eq_some_iff.1 hq).1]
   exact hq)
  have : Addr.add ⟨g, j.toNat * K.size, none⟩ q = ⟨g, j.toNat * K.size + q, none⟩ := by unfold Addr.add; split <;> simp_all
  rw [this]; exact hcell
theorem Op_.binshl (t : TypeId) (x y : Operand) (t2 : TypeId) (d : Tmp) (ty : TypeId) (k1 k2 : IntKind) (u v : Int) (h : VStep P (.binOp .shl t x y t2) d ty fr ds w X Y) (hx : Act.eval ⟨fr, ds⟩ x = .int k1 u) (hy : Act.eval ⟨fr, ds⟩ y = .int k2 v) (h1 : 0 ≤ v)
  (g : Y (upd fr [(d, .int k1 (ishl k1 u v))]) w) : X := by
 refine h _ _ ?_ g
 have h2 : ¬ v < 0 := by omega
 simp [execOp, mkO, hx, hy, eqGuard, binOp, Op.shift, h2, ishl]
theorem Op_.binshr (t : TypeId) (x y : Operand) (t2 : TypeId) (d : Tmp) (ty : TypeId) (k1 k2 : IntKind) (u v : Int) (h : VStep P (.binOp .shr t x y t2) d ty fr ds w X Y) (hx : Act.eval ⟨fr, ds⟩ x = .int k1 u) (hy : Act.eval ⟨fr, ds⟩ y = .int k2 v) (h1 : 0 ≤ v)
  (g : Y (upd fr [(d, .int k1 (ishr k1 u v))]) w) : X := by
 refine h _ _ ?_ g
 have h2 : ¬ v < 0 := by omega
 simp [execOp, mkO, hx, hy, eqGuard, binOp, Op.shift, h2, ishr]
end
end Go.Gx
