/-
 Closures that lie in data. Generic: names no program.
-/
import Derived.Test.YtdccklkdakfnaaaGreatGD
set_option linter.unusedVariables false
namespace Go.Gx
open Go.RowKit
theorem Addr_add_add (a : Addr) (o q : Nat) : Addr.add (Addr.add a o) q = Addr.add a (o + q) := by
 unfold Addr.add
 by_cases h1 : o = 0
 ·subst h1; simp
 ·by_cases h2 : q = 0
  ·subst h2; simp
  ·simp [h1, h2, Nat.add_assoc]
theorem hc_part {w : World} {a : Addr} {us vs ws : List Value} (h : ∀ q v, (us ++ (vs ++ ws))[q]? = some v → w.cell? (Addr.add a q) = some v) (q : Nat) (v : Value) (hq : vs[q]? = some v) : w.cell? (Addr.add (Addr.add a us.length) q) = some v := by
 rw [Addr_add_add]
 refine h _ _ ?_
 rw [List.getElem?_append_right (by omega), Nat.add_sub_cancel_left, List.getElem?_append_left (List.getElem?_eq_some_iff.1 hq).1]
 exact hq
def Rp1 {α : Type} (K : Kd α) (S : Fz) (w : World) (v : Value) (d : α) : Prop := K.rep S w [v] d
section
variable {α β : Type} {K : Kd α} {S : Fz} {w : World}
theorem Rp1.ext {S' : Fz} {w' : World} {v : Value} {d : α} (h : Rp1 K S w v d) (hx : Ext S w S' w') : Rp1 K S' w' v d := K.ext hx h
theorem Rp1.one1 {v : Value} {d : α} (h : Rp1 K S w v d) : v.oneCell' = true := K.one h v (by simp)
theorem PtO.one1 {v : Value} {d : Option α} (h : PtO K S w v d) : v.oneCell' = true := (kPtr K).one h v (by simp)
end
end Go.Gx
