/-
 Any text's grams, any pattern's query, whether any query may be, and its text, is as the document says, or refused: the walk and the law joined. Arguments: any text, pattern and query within the statement's bound.
-/
import Derived.Test.YtdccklkdakfnaaaGreatXGt
import Derived.Test.YtdccklkdakfnaaaGreatPPa
import Derived.Test.YtdccklkdakfnaaaGreatFGt
set_option linter.unusedVariables false
namespace Go.Proofs.YtdccklkdakfnaaaGreat
open Go.Gx Go.Proofs
theorem setOk_of {l : List Int} (h : okArr 4 (okInt .u64) l) : SetOk l := by
 refine ⟨h.1, fun x hx => ?_⟩
 have := h.2 x hx
 simp only [okInt, Lit.wf, IntKind.min, IntKind.max, IntKind.signed, IntKind.bits] at this
 simp at this
 omega
theorem fit_of : ∀ (e : Nat) (y : T26), okT26 y → Fit e y
 | 0, _, _ => trivial
 | e + 1, y, h => by
  have h1 := h 1
  refine ⟨setOk_of h1.2.1, ?_, fun x hx => fit_of e x (fun n => ?_)⟩
  ·have h2 : y.L.length ≤ maxLen := h1.2.2.1.1
   have e1 : maxLen ≤ 9223372036854775807 := by decide
   omega
  ·exact (h (n + 1)).2.2.1.2 x hx
theorem fq_of : ∀ (e : Nat) (y : T29), okT29 y → FQ e y
 | 0, _, _ => trivial
 | e + 1, y, h => by
  have h1 := h 1
  refine ⟨?_, fun x hx => fq_of e x (fun n => ?_)⟩
  ·have h2 : y.L.length ≤ maxLen := h1.2.2.1
   have e1 : maxLen ≤ 9223372036854775807 := by decide
   omega
  ·exact (h (n + 1)).2.2.2 x hx
theorem gramTells : Rows.GramTellsUptoSaid := gramTells_said fun x0 x1 x2 o0 o1 o2 _ => tells_law tidepolelaw14_works_eval x0 x1 x2 (fun e => fit_of e x1 o1) (fun e => fq_of e x2 o2)
end Go.Proofs.YtdccklkdakfnaaaGreat
#print axioms Go.Proofs.YtdccklkdakfnaaaGreat.gramTells
