/-
  The program of a pattern accepts a text just if the pattern means it: the walk and the law joined. Arguments: any pattern and any text within the statement's bound.
-/
import Derived.Test.YtemokppdnkiejaaPSimH
import Derived.Test.YtemokppdnkiejaaXSim
namespace Go.Proofs.Ytemokppdnkiejaa
open Go.Gx
theorem setOk_of {l : List Int} (h : okArr 4 (okInt .u64) l) : SetOk l := by
  refine ⟨h.1, fun x hx => ?_⟩
  have := h.2 x hx
  simp only [okInt, Lit.wf, IntKind.min, IntKind.max, IntKind.signed, IntKind.bits] at this
  simp at this
  omega
theorem fit_of : ∀ (e : Nat) (y : T27), okT27 y → Fit e y
  | 0, _, _ => trivial
  | e + 1, y, h => by
    have h1 := h 1
    refine ⟨setOk_of h1.2.1, ?_, fun x hx => fit_of e x (fun n => ?_)⟩
    · have h2 : y.L.length ≤ maxLen := h1.2.2.1.1
      have e1 : maxLen ≤ 9223372036854775807 := by decide
      omega
    · exact (h (n + 1)).2.2.1.2 x hx
theorem simMeans : Rows.SimMeansUptoSaid := simMeans_said fun x0 x1 o0 _ _ => means_law x0 x1 fun e => fit_of e x0 o0
theorem simJoins : Rows.SimJoinsUptoSaid := simJoins_said fun x0 x1 x2 o0 o1 _ _ => joins_law x0 x1 x2 (fun e => fit_of e x0 o0) (fun e => fit_of e x1 o1)
end Go.Proofs.Ytemokppdnkiejaa
#print axioms Go.Proofs.Ytemokppdnkiejaa.simMeans
#print axioms Go.Proofs.Ytemokppdnkiejaa.simJoins
