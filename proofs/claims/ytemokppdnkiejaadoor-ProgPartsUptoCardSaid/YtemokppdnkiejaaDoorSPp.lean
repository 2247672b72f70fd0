/-
  The program of two patterns, one behind the other: the walk and the law joined. Arguments: any two patterns within the statement's bound.
-/
import Derived.Test.YtemokppdnkiejaaDoorPPpC
import Derived.Test.YtemokppdnkiejaaDoorXPp
namespace Go.Proofs.YtemokppdnkiejaaDoor
open Go.Gx
theorem fit_of : ∀ (e : Nat) (y : T27), okT27 y → Fit e y
  | 0, _, _ => trivial
  | e + 1, y, h => by
    have h1 := h 1
    refine ⟨SetQ.any _, ?_, fun x hx => fit_of e x (fun n => ?_)⟩
    · have h2 : y.L.length ≤ maxLen := h1.2.2.1.1
      have e1 : maxLen ≤ 9223372036854775807 := by decide
      omega
    · exact (h (n + 1)).2.2.1.2 x hx
theorem progParts : Rows.ProgPartsUptoCardSaid := progParts_card fun x0 x1 o0 o1 _ => parts_law x0 x1 (fun e => fit_of e x0 o0) (fun e => fit_of e x1 o1)
end Go.Proofs.YtemokppdnkiejaaDoor
#print axioms Go.Proofs.YtemokppdnkiejaaDoor.progParts
