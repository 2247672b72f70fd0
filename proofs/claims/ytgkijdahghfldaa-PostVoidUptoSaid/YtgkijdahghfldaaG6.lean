/-
  Texts, divisions, shifts, arrays. Generic: names no program.
-/
import Derived.Test.YtgkijdahghfldaaG5
import Derived.Laws.BytesString
import Derived.Laws.IdiomStrings
namespace Go.Gx
open Go.RowKit
section
variable {P : Program} {X : Prop} {Y : Array Value → World → Prop} {b : Frame} {k : List Item} {w : World} {D : List Frame → Machine → Prop} {ops : Array Oper} {i : Nat} {rest : List Nat} {fr : Array Value} {ds : List Deferred}
variable {N : Nat} {w0 : World} {S : Fz} {L : List Ent} {α : Type} {K : Kd α}
def strB (P : Program) (t : TypeId) : Bool :=
  match P.underlying t with
  | some .string => true
  | _ => false
theorem strB_spec {t : TypeId} (h : strB P t = true) : P.underlying t = some .string := by
  unfold strB at h
  split at h
  · assumption
  · cases h
theorem Op_.binrem (t : TypeId) (x y : Operand) (t2 : TypeId) (d : Tmp) (ty : TypeId) (k1 : IntKind) (u v : Int) (h : VStep P (.binOp .rem t x y t2) d ty fr ds w X Y) (hx : Act.eval ⟨fr, ds⟩ x = .int k1 u) (hy : Act.eval ⟨fr, ds⟩ y = .int k1 v) (h1 : v ≠ 0)
    (g : Y (upd fr [(d, .int k1 (irem k1 u v))]) w) : X := by
  refine h _ _ ?_ g
  simp [execOp, mkO, hx, hy, eqGuard, binOp, Op.intDiv, h1, irem]
end
end Go.Gx
