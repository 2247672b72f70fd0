/-
 A text that a pattern means fits the pattern's query, if that may be: the walk and the law joined. Arguments: any pattern and text within the statement's bound.
-/
import Derived.Test.YtdccklkdakfnaaaGreatXGs
import Derived.Test.YtdccklkdakfnaaaGreatPPa
import Derived.Test.YtdccklkdakfnaaaGreatFGs
set_option linter.unusedVariables false
namespace Go.Proofs.YtdccklkdakfnaaaGreat
open Go.Gx Go.Proofs
theorem setOk_of {l : List Int} (h : okArr 4 (okInt .u64) l) : SetOk l := by
 refine ⟨h.1, fun x hx => ?_⟩
 have := h.2 x hx
 simp only [okInt, Lit.wf, IntKind.min, IntKind.max, IntKind.signed, IntKind.bits] at this
 simp at this
 omega
theorem fit_of : ∀ (e : Nat) (y : T26), okT26 y → Fit e y
 | 0, _, _ => trivial
 | e + 1, y, h => by
  have h1 := h 1
  refine ⟨setOk_of h1.2.1, ?_, fun x hx => fit_of e x (fun n => ?_)⟩
  ·have h2 : y.L.length ≤ maxLen := h1.2.2.1.1
   have e1 : maxLen ≤ 9223372036854775807 := by decide
   omega
  ·exact (h (n + 1)).2.2.1.2 x hx
theorem gramSound : Rows.GramSoundUptoSaid := gramSound_said fun x0 x1 o0 o1 _ => gsound_law tidepolelaw14_works_eval x0 x1 (fun e => fit_of e x0 o0)
end Go.Proofs.YtdccklkdakfnaaaGreat
#print axioms Go.Proofs.YtdccklkdakfnaaaGreat.gramSound
