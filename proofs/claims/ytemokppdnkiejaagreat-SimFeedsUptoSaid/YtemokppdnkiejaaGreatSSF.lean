/-
  A runner that reads bytes, begins again, and is asked between, stands where the document says: the walk and the law joined. Arguments: any instructions, bytes and truths within the statement's bound.
-/
import Derived.Test.YtemokppdnkiejaaGreatPSFW
import Derived.Test.YtemokppdnkiejaaGreatXSF
namespace Go.Proofs.YtemokppdnkiejaaGreat
open Go.Gx
theorem setok_of {l : List Int} (h : okArr 4 (okInt .u64) l) : SetOk l := by
  refine ⟨h.1, fun x hx => ?_⟩
  have := h.2 x hx
  simp only [okInt, Lit.wf, IntKind.min, IntKind.max, IntKind.signed, IntKind.bits] at this
  simp at this
  omega
theorem bk_any {α : Type} (xs : List α) : xs.length ≤ bkSl (fun _ => 1) xs := by
  unfold bkSl
  induction xs with
  | nil => simp
  | cons x xs ih => simp only [List.map_cons, List.sum_cons, List.length_cons] at ih ⊢; omega
theorem simFeeds : Rows.SimFeedsUptoSaid := simFeeds_said fun x0 x1 x2 o0 o1 o2 hb => by
  have a1 := bk_any x1
  have a2 := bk_any x2
  refine feeds_law x0 (fun x hx => setok_of (o0 x hx).2.1) x1 (fun b hb' => ?_) (by omega) x2 (by omega)
  have := o1 b hb'
  simp only [okInt, Lit.wf, IntKind.min, IntKind.max, IntKind.signed, IntKind.bits] at this
  simp at this
  omega
end Go.Proofs.YtemokppdnkiejaaGreat
#print axioms Go.Proofs.YtemokppdnkiejaaGreat.simFeeds
