/-
  Tables that a row tells: from the row's condition to what the walks ask; a world that holds them. Generic: names no program.
-/
import Derived.Test.YtemokppdnkiejaaDoorGG
import Derived.Test.YtemokppdnkiejaaDoorGR
import Derived.Deep.DeepHandedRow
import Derived.Lib.LaidTab
set_option linter.unusedVariables false
namespace Go.Gx
open Go.RowKit
theorem laidVars_at {P : Program} {W : World} : ∀ {l : List (String × DataW Unit)} {ps : List MemPlace}, DataW.LaidVars P W l ps → ∀ (i : Nat) (n : String) (d : DataW Unit), l[i]? = some (n, d) →
    ∃ g t cs fuel p, P.globalNamed n = some g ∧ (P.globals[g]?).map (·.type) = some t ∧ W.var? P n = some cs ∧ DataW.trod (fun _ => ()) P W 0 (fun _ => true) false fuel t cs.toList = some (d, p)
  | [], _, _, i, n, d, hi => by cases hi
  | (n', d') :: r, ps, h, 0, n, d, hi => by
    obtain ⟨g, t, cs, fuel, p, q, h1, h2, h3, h4, _⟩ := h
    cases hi
    exact ⟨g, t, cs, fuel, p, h1, h2, h3, h4⟩
  | (n', d') :: r, ps, h, i + 1, n, d, hi => by
    obtain ⟨g, t, cs, fuel, p, q, h1, h2, h3, h4, h5, _⟩ := h
    exact laidVars_at h5 i n d hi
theorem Tab.laid {P : Program} {W : World} {l : List (String × DataW Unit)} (i : Nat) (g : Nat) (t e : TypeId) (n : Nat) {k : IntKind} {zs : List Int} (hL : laidMetH P l W) (hh : (l.filter fun x => x.2.handleName?.isSome) = []) (hi : (l[i]?).map (·.2) = some (Lib.tabData k zs)) (hg : ((l[i]?).bind fun x => P.globalNamed x.1) = some g)
    (hty : (P.globals[g]?).map (·.type) = some t) (ht : P.underlying t = some (.array n e)) (he : P.underlying e = some (.int k)) (hce : P.cellsOf e = 1) (hct : P.cellsOf t = n) : Tab W.heap.size W g k zs := by
  unfold laidMetH at hL
  rw [hh] at hL
  obtain ⟨ps, hv, _⟩ := hL
  cases hx : l[i]? with
  | none => rw [hx] at hi; cases hi
  | some x =>
    obtain ⟨name, d⟩ := x
    rw [hx] at hi hg
    simp only [Option.map_some, Option.some.injEq] at hi
    subst hi
    simp only [Option.bind_some] at hg
    obtain ⟨g', t', cs, fuel, p, hg', ht', hvar, hd⟩ := laidVars_at hv i name _ hx
    obtain rfl := Option.some.inj (hg.symm.trans hg')
    obtain rfl := Option.some.inj (hty.symm.trans ht')
    refine Tab.of hg ?_
    unfold Lib.TabIs
    rw [hvar, ← Lib.cells_of_tab ht he hce hct hd]
def withTabs (w : World) (l : List (Nat × List Value)) : World :=
  { w with heap := l.foldl (fun h x => h.modify x.1 fun
      | .cells _ t f => .cells x.2.toArray t f
      | o => o) w.heap }
end Go.Gx
