/-
  Texts, divisions, shifts, arrays. Generic: names no program.
-/
import Derived.Test.YtemokppdnkiejaaGreatG5
import Derived.Laws.BytesString
import Derived.Laws.IdiomStrings
namespace Go.Gx
open Go.RowKit
section
variable {P : Program} {X : Prop} {Y : Array Value → World → Prop} {b : Frame} {k : List Item} {w : World} {D : List Frame → Machine → Prop} {ops : Array Oper} {i : Nat} {rest : List Nat} {fr : Array Value} {ds : List Deferred}
variable {N : Nat} {w0 : World} {S : Fz} {L : List Ent} {α : Type} {K : Kd α}
def intB (P : Program) (t : TypeId) : Option IntKind :=
  match P.underlying t with
  | some (.int k) => some k
  | _ => none
def strB (P : Program) (t : TypeId) : Bool :=
  match P.underlying t with
  | some .string => true
  | _ => false
theorem intB_spec {t : TypeId} {k : IntKind} (h : intB P t = some k) : P.underlying t = some (.int k) := by
  unfold intB at h
  split at h
  · rename_i hu; cases h; exact hu
  · cases h
theorem strB_spec {t : TypeId} (h : strB P t = true) : P.underlying t = some .string := by
  unfold strB at h
  split at h
  · assumption
  · cases h
theorem els_bytes {cs : List Value} {xs : List Int} {kk : IntKind} (h : Els (kInt kk) S w cs xs) : cs = xs.map (Value.int kk) := by
  induction h with
  | nil => rfl
  | cons h _ ih => obtain rfl := h; rw [ih]; rfl
theorem Op_.ixS (t : TypeId) (x ix : Operand) (d : Tmp) (ty : TypeId) (kk : IntKind) (s : ByteArray) (j : Int) (h : VStep P (.index t x ix) d ty fr ds w X Y) (hx : Act.eval ⟨fr, ds⟩ x = .string s) (hj : Act.eval ⟨fr, ds⟩ ix = .int kk j) (ht : strB P t = true) (h0 : 0 ≤ j) (h1 : j < (s.size : Int))
    (g : Y (upd fr [(d, .int .u8 (bt s j))]) w) : X := by
  refine h _ _ ?_ g
  have hlt : j.toNat < s.size := by omega
  simp [execOp, mkO, hx, hj, Instr.index, asIntOf, run_underlying' w (strB_spec ht), h0, bt, hlt]
def arrB (P : Program) (t : TypeId) : Option (Nat × TypeId) :=
  match P.underlying t with
  | some (.array n e) => some (n, e)
  | _ => none
theorem arrB_spec {t e : TypeId} {n : Nat} (h : arrB P t = some (n, e)) : P.underlying t = some (.array n e) := by
  unfold arrB at h
  split at h
  · rename_i hu; cases h; exact hu
  · cases h
theorem Op_.ixA [Inhabited α] (t : TypeId) (x ix : Operand) (d : Tmp) (ty : TypeId) (e : TypeId) (n : Nat) (kk : IntKind) (j : Int) (m : Nat) {g : Nat} {t' : TypeId} {cap kz : Nat} {xs : List α} {cs : List Value} (hp : Hp N w0 S w L)
    (hL : L[m]? = some (some g, .row t' cs cap kz)) (he : Els K S w cs xs) (hn : xs.length = n) (h : VStep P (.indexAddr t x ix) d ty fr ds w X Y) (hx : Act.eval ⟨fr, ds⟩ x = .pointer (some ⟨g, 0, none⟩)) (hj : Act.eval ⟨fr, ds⟩ ix = .int kk j)
    (ht : arrB P t = some (n, e)) (hs : sizeB P e = some K.size) (h0 : 0 ≤ j) (h1 : j < (n : Int))
    (g' : ∀ vs, K.rep S w vs (gi xs j) → (∀ q v, vs[q]? = some v → w.cell? (Addr.add ⟨g, j.toNat * K.size, none⟩ q) = some v) → Y (upd fr [(d, .pointer (some ⟨g, j.toNat * K.size, none⟩))]) w) : X := by
  have hlt : j.toNat < xs.length := by omega
  have hat := hp.mem m hL
  obtain ⟨us, vs, ws, e1, hl, hv⟩ := he.at_ j.toNat hlt
  refine h _ _ ?_ (g' vs (by rw [gi_at xs hlt]; exact hv) ?_)
  · have hu := arrB_spec ht
    have hadd : Addr.add ⟨g, 0, none⟩ (j.toNat * K.size) = ⟨g, j.toNat * K.size, none⟩ := by unfold Addr.add; split <;> simp_all
    simp [execOp, mkO, hx, hj, Instr.indexAt, asIntOf, run_underlying' w hu, Instr.sureAddr, h0, h1, run_sizeOf w hs, hadd]
  · intro q v hq
    have hcell := hat.cell (j.toNat * K.size + q) v (by
      rw [e1, ← hl, List.getElem?_append_right (by omega), Nat.add_sub_cancel_left, List.getElem?_append_left (List.getElem?_eq_some_iff.1 hq).1]
      exact hq)
    have : Addr.add ⟨g, j.toNat * K.size, none⟩ q = ⟨g, j.toNat * K.size + q, none⟩ := by unfold Addr.add; split <;> simp_all
    rw [this]; exact hcell
theorem Op_.binshl (t : TypeId) (x y : Operand) (t2 : TypeId) (d : Tmp) (ty : TypeId) (k1 k2 : IntKind) (u v : Int) (h : VStep P (.binOp .shl t x y t2) d ty fr ds w X Y) (hx : Act.eval ⟨fr, ds⟩ x = .int k1 u) (hy : Act.eval ⟨fr, ds⟩ y = .int k2 v) (h1 : 0 ≤ v)
    (g : Y (upd fr [(d, .int k1 (ishl k1 u v))]) w) : X := by
  refine h _ _ ?_ g
  have h2 : ¬ v < 0 := by omega
  simp [execOp, mkO, hx, hy, eqGuard, binOp, Op.shift, h2, ishl]
theorem Op_.binshr (t : TypeId) (x y : Operand) (t2 : TypeId) (d : Tmp) (ty : TypeId) (k1 k2 : IntKind) (u v : Int) (h : VStep P (.binOp .shr t x y t2) d ty fr ds w X Y) (hx : Act.eval ⟨fr, ds⟩ x = .int k1 u) (hy : Act.eval ⟨fr, ds⟩ y = .int k2 v) (h1 : 0 ≤ v)
    (g : Y (upd fr [(d, .int k1 (ishr k1 u v))]) w) : X := by
  refine h _ _ ?_ g
  have h2 : ¬ v < 0 := by omega
  simp [execOp, mkO, hx, hy, eqGuard, binOp, Op.shift, h2, ishr]
end
end Go.Gx
