/-
  Any instructions are judged and told as the document says: the walk and the law joined. Arguments: any instructions within the statement's bound.
-/
import Derived.Test.YtemokppdnkiejaaDoorPPrT
import Derived.Test.YtemokppdnkiejaaDoorXPr
namespace Go.Proofs.YtemokppdnkiejaaDoor
open Go.Gx
theorem setR_of {l : List Int} (h : okArr 4 (okInt .u64) l) : SetR l := by
  refine ⟨h.1, fun x hx => ?_⟩
  have := h.2 x hx
  simp only [okInt, Lit.wf, IntKind.min, IntKind.max, IntKind.signed, IntKind.bits] at this
  simp at this
  omega
theorem progTells : Rows.ProgTellsUptoCardSaid := progTells_card fun x0 o0 _ => tells_law x0 fun x hx => setR_of (o0 x hx).2.1
end Go.Proofs.YtemokppdnkiejaaDoor
#print axioms Go.Proofs.YtemokppdnkiejaaDoor.progTells
