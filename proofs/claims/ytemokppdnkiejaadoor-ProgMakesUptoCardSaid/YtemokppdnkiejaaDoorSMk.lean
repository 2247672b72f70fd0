/-
  Any pattern's program is what the document says, or it is refused: the walk and the law joined. Arguments: any pattern within the statement's bound.
-/
import Derived.Test.YtemokppdnkiejaaDoorPMkV
import Derived.Test.YtemokppdnkiejaaDoorXMk
namespace Go.Proofs.YtemokppdnkiejaaDoor
open Go.Gx
theorem fit_of : ∀ (e : Nat) (y : T27), okT27 y → Fit e y
  | 0, _, _ => trivial
  | e + 1, y, h => by
    have h1 := h 1
    refine ⟨SetQ.any _, ?_, fun x hx => fit_of e x (fun n => ?_)⟩
    · have h2 : y.L.length ≤ maxLen := h1.2.2.1.1
      have e1 : maxLen ≤ 9223372036854775807 := by decide
      omega
    · exact (h (n + 1)).2.2.1.2 x hx
theorem progMakes : Rows.ProgMakesUptoCardSaid := progMakes_card fun x0 o0 _ => makes_law x0 (fun e => fit_of e x0 o0)
end Go.Proofs.YtemokppdnkiejaaDoor
#print axioms Go.Proofs.YtemokppdnkiejaaDoor.progMakes
