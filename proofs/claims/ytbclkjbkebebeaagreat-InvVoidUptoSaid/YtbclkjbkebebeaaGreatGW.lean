/-
 Words of the pure functions. Generic: names no program.
-/
import GoSem.Core.View
import GoSem.Op.String
namespace Go.Gx
instance : LawfulBEq ByteArray where
 eq_of_beq {a b} h := by
  cases a; cases b
  exact congrArg _ (eq_of_beq (α := Array UInt8) h)
 rfl {a} := by cases a; exact beq_self_eq_true (α := Array UInt8) _
def wr (k : IntKind) (x : Int) : Int := k.wrap x
def iand (k : IntKind) (x y : Int) : Int := k.wrap ((BitVec.ofInt k.bits x &&& BitVec.ofInt k.bits y).toNat : Int)
def ior (k : IntKind) (x y : Int) : Int := k.wrap ((BitVec.ofInt k.bits x ||| BitVec.ofInt k.bits y).toNat : Int)
def ixor (k : IntKind) (x y : Int) : Int := k.wrap ((BitVec.ofInt k.bits x ^^^ BitVec.ofInt k.bits y).toNat : Int)
def ishl (k : IntKind) (x y : Int) : Int := k.wrap (x * 2 ^ (min y.toNat k.bits))
def ishr (k : IntKind) (x y : Int) : Int := x.fdiv (2 ^ (min y.toNat k.bits))
def iquo (k : IntKind) (x y : Int) : Int := k.wrap (x.tdiv y)
def gi {α : Type} [Inhabited α] (xs : List α) (j : Int) : α := xs.getD j.toNat default
def sl {α : Type} (xs : List α) (l m : Int) : List α := (xs.take m.toNat).drop l.toNat
def si {α : Type} (xs : List α) (j : Int) (x : α) : List α := xs.set j.toNat x
def bt (s : ByteArray) (i : Int) : Int := if h : i.toNat < s.size then ((s[i.toNat]'h).toNat : Int) else 0
def ss (s : ByteArray) (l m : Int) : ByteArray := s.extract l.toNat m.toNat
def b2s (xs : List Int) : ByteArray := ⟨(xs.map fun x => x.toNat.toUInt8).toArray⟩
def s2b (s : ByteArray) : List Int := s.data.toList.map fun b => (b.toNat : Int)
instance inhSum {α β : Type} [Inhabited α] : Inhabited (α ⊕ β) := ⟨.inl default⟩
def gn {α : Type} [Inhabited α] (xs : List α) (i : Nat) : α := xs.getD i default
def sn {α : Type} (xs : List α) (i : Nat) (x : α) : List α := xs.set i x
def mget {κ ν : Type} [BEq κ] : List (κ × ν) → κ → Option ν
 | [], _ => none
 | e :: m, k => if k == e.1 then some e.2 else mget m k
def mset {κ ν : Type} [BEq κ] : List (κ × ν) → κ → ν → List (κ × ν)
 | [], k, v => [(k, v)]
 | e :: m, k, v => if k == e.1 then (k, v) :: m else e :: mset m k v
def mdel {κ ν : Type} [BEq κ] : List (κ × ν) → κ → List (κ × ν)
 | [], _ => []
 | e :: m, k => if k == e.1 then m else e :: mdel m k
def cmpR {α : Type} [DecidableEq α] : α → List α → List α
 | _, [] => []
 | p, y :: ys => if y = p then cmpR p ys else y :: cmpR y ys
def cmpL {α : Type} [DecidableEq α] : List α → List α
 | [] => []
 | x :: xs => x :: cmpR x xs
def srtS (xs : List ByteArray) : List ByteArray := ((xs.map (·.data.toList)).mergeSort (fun x y => decide (x ≤ y))).map fun l => ⟨l.toArray⟩
def srtI (xs : List Int) : List Int := xs.mergeSort (fun x y => decide (x ≤ y))
end Go.Gx
