/-
  Closures that lie in data. Generic: names no program.
-/
import Derived.Test.YtbclkjbkebebeaaGreatGD
set_option linter.unusedVariables false
namespace Go.Gx
open Go.RowKit
def Rp1 {α : Type} (K : Kd α) (S : Fz) (w : World) (v : Value) (d : α) : Prop := K.rep S w [v] d
section
variable {α β : Type} {K : Kd α} {S : Fz} {w : World}
theorem Rp1.ext {S' : Fz} {w' : World} {v : Value} {d : α} (h : Rp1 K S w v d) (hx : Ext S w S' w') : Rp1 K S' w' v d := K.ext hx h
theorem Rp1.one1 {v : Value} {d : α} (h : Rp1 K S w v d) : v.oneCell' = true := K.one h v (by simp)
theorem PtO.one1 {v : Value} {d : Option α} (h : PtO K S w v d) : v.oneCell' = true := (kPtr K).one h v (by simp)
end
end Go.Gx
