/-
  No cell of these rows narrows 'for every input' (looked for: loops, veiled, ifaces, maps, wideKeys, modest, calm, conditions, laid).
  DERIVED. THE GIVEN ROWS OF THIS SEAT. 5 by the template 'for every input the law returns true; each argument reads behind the call as it read before'; 0 by the template 'total and deterministic' (their statements: YtgkijdahghfldaaTotals.lean).
  GIVEN WITH THE SEED: the statements are not yours to turn. If you find one false, say at which input.
  Laid BY PROGRAM, IN A SANDBOX (cutbox-rows.mjs): the forced cells as the released guide's own fill.sh prints them over the translation 434f8fb9d75fb24c… (all of the seat's roots in one cut). By AI agents, Wed Nov 11 2026. No macro, syntax, notation, axiom, sorry.
-/
import Derived.Test.YtgkijdahghfldaaChecked
import GoSem.Claim
import GoSem.ClaimJoined
import GoSem.ClaimMapViews
import Derived.JoinedTies
import Derived.KernelRfl
namespace Go.Proofs.Ytgkijdahghfldaa
/- THE CELL 'sum', in the pinned program and in every row, IS THE sha256 OF THE DUMP (.gsa) THAT YtgkijdahghfldaaProg.lean LOADS. Nothing in Lean hashes anything: it is a label: what it is worth is what the hold of that sum in a sandbox is worth. -/
noncomputable def Try.pinned : Pinned := { name := "ytgkijdahghfldaa", sum := "434f8fb9d75fb24c186175be27611ea8ef3e96f5c7471dbb8a35ac1eec9b11c3", checked := Try.checked }
namespace Rows
def none {H : Type} : Left H := { results := [], args := [] }

/-- 'tidepolelaw13.PostSets': WHATEVER THE INPUT: true; the input reads as it did. -/
def postSetsSpec : ChangeSpec := { name := "postSets", fn := fun _ => fun
  | [d1, d2, d3] => { results := [.lit (.bool true)], args := [d1, d2, d3] }
  | _ => none }
def postSetsRow : OpenClaim := { program := "ytgkijdahghfldaa", sum := "434f8fb9d75fb24c186175be27611ea8ef3e96f5c7471dbb8a35ac1eec9b11c3", func := "tidepole/tidepolelaw13.PostSets", spec := "postSets", unfollowed := true, recurses := true, apart := false }
def PostSetsSaid : Prop := postSetsRow.holds Try.pinned (OpenSpec.ofChange postSetsSpec)

/-- ITS FALSE NEIGHBOUR: 'it returns false'. Refute it at one input. -/
def postSetsWrong : ChangeSpec := { name := "postSets", fn := fun _ => fun
  | [d1, d2, d3] => { results := [.lit (.bool false)], args := [d1, d2, d3] }
  | _ => none }
def PostSetsWrongFalsely : Prop := postSetsRow.holds Try.pinned (OpenSpec.ofChange postSetsWrong)

/-- 'tidepolelaw13.PostGoes': WHATEVER THE INPUT: true; the input reads as it did. -/
def postGoesSpec : ChangeSpec := { name := "postGoes", fn := fun _ => fun
  | [d1, d2] => { results := [.lit (.bool true)], args := [d1, d2] }
  | _ => none }
def postGoesRow : OpenClaim := { program := "ytgkijdahghfldaa", sum := "434f8fb9d75fb24c186175be27611ea8ef3e96f5c7471dbb8a35ac1eec9b11c3", func := "tidepole/tidepolelaw13.PostGoes", spec := "postGoes", unfollowed := true, recurses := true, apart := false }
def PostGoesSaid : Prop := postGoesRow.holds Try.pinned (OpenSpec.ofChange postGoesSpec)

/-- ITS FALSE NEIGHBOUR: 'it returns false'. Refute it at one input. -/
def postGoesWrong : ChangeSpec := { name := "postGoes", fn := fun _ => fun
  | [d1, d2] => { results := [.lit (.bool false)], args := [d1, d2] }
  | _ => none }
def PostGoesWrongFalsely : Prop := postGoesRow.holds Try.pinned (OpenSpec.ofChange postGoesWrong)

/-- 'tidepolelaw13.PostLists': WHATEVER THE INPUT: true; the input reads as it did. -/
def postListsSpec : ChangeSpec := { name := "postLists", fn := fun _ => fun
  | [d1, d2, d3, d4] => { results := [.lit (.bool true)], args := [d1, d2, d3, d4] }
  | _ => none }
def postListsRow : OpenClaim := { program := "ytgkijdahghfldaa", sum := "434f8fb9d75fb24c186175be27611ea8ef3e96f5c7471dbb8a35ac1eec9b11c3", func := "tidepole/tidepolelaw13.PostLists", spec := "postLists", unfollowed := true, recurses := true, apart := false }
def PostListsSaid : Prop := postListsRow.holds Try.pinned (OpenSpec.ofChange postListsSpec)

/-- ITS FALSE NEIGHBOUR: 'it returns false'. Refute it at one input. -/
def postListsWrong : ChangeSpec := { name := "postLists", fn := fun _ => fun
  | [d1, d2, d3, d4] => { results := [.lit (.bool false)], args := [d1, d2, d3, d4] }
  | _ => none }
def PostListsWrongFalsely : Prop := postListsRow.holds Try.pinned (OpenSpec.ofChange postListsWrong)

/-- 'tidepolelaw13.PostIndexes': WHATEVER THE INPUT: true; the input reads as it did. -/
def postIndexesSpec : ChangeSpec := { name := "postIndexes", fn := fun _ => fun
  | [d1, d2] => { results := [.lit (.bool true)], args := [d1, d2] }
  | _ => none }
def postIndexesRow : OpenClaim := { program := "ytgkijdahghfldaa", sum := "434f8fb9d75fb24c186175be27611ea8ef3e96f5c7471dbb8a35ac1eec9b11c3", func := "tidepole/tidepolelaw13.PostIndexes", spec := "postIndexes", unfollowed := true, recurses := true, apart := false }
def PostIndexesSaid : Prop := postIndexesRow.holds Try.pinned (OpenSpec.ofChange postIndexesSpec)

/-- ITS FALSE NEIGHBOUR: 'it returns false'. Refute it at one input. -/
def postIndexesWrong : ChangeSpec := { name := "postIndexes", fn := fun _ => fun
  | [d1, d2] => { results := [.lit (.bool false)], args := [d1, d2] }
  | _ => none }
def PostIndexesWrongFalsely : Prop := postIndexesRow.holds Try.pinned (OpenSpec.ofChange postIndexesWrong)

/-- 'tidepolelaw13.PostVoid': WHATEVER THE INPUT: true; the input reads as it did. -/
def postVoidSpec : ChangeSpec := { name := "postVoid", fn := fun _ => fun
  | [d1, d2] => { results := [.lit (.bool true)], args := [d1, d2] }
  | _ => none }
def postVoidRow : OpenClaim := { program := "ytgkijdahghfldaa", sum := "434f8fb9d75fb24c186175be27611ea8ef3e96f5c7471dbb8a35ac1eec9b11c3", func := "tidepole/tidepolelaw13.PostVoid", spec := "postVoid", unfollowed := true, recurses := true, apart := false }
def PostVoidSaid : Prop := postVoidRow.holds Try.pinned (OpenSpec.ofChange postVoidSpec)

/-- ITS FALSE NEIGHBOUR: 'it returns false'. Refute it at one input. -/
def postVoidWrong : ChangeSpec := { name := "postVoid", fn := fun _ => fun
  | [d1, d2] => { results := [.lit (.bool false)], args := [d1, d2] }
  | _ => none }
def PostVoidWrongFalsely : Prop := postVoidRow.holds Try.pinned (OpenSpec.ofChange postVoidWrong)

/- THE SECOND FORM. 'bulk': how many values and letters a reading holds, each counted each time it is reached (what is shared counts as often as it is met; a slice's spare places count too). A statement '..UptoSaid' is the law's where the arguments, and the package variables that the reading takes, are together of bulk at most 1048576: NARROWER than '..Said'. Prove '..Said' where nothing that the law and all that it calls make is longer than what came in: it says more and counts as full. Else prove '..UptoSaid'. A law counts once. -/
mutual
def uptoBulk {H : Type} : DataW H → Nat
  | .lit (.string bytes) => bytes.length + 1
  | .lit _ => 1
  | .nil => 1
  | .ptr d => uptoBulk d + 1
  | .slice elems spare => uptoBulkAll elems + uptoBulkAll spare + 1
  | .agg parts => uptoBulkAll parts + 1
  | .iface _ d => uptoBulk d + 1
  | .map entries => uptoBulkEntries entries + 1
  | .held _ => 1
def uptoBulkAll {H : Type} : List (DataW H) → Nat
  | [] => 0
  | d :: r => uptoBulk d + uptoBulkAll r
def uptoBulkEntries {H : Type} : List (Lit × DataW H) → Nat
  | [] => 0
  | x :: r => uptoBulkEntry x + uptoBulkEntries r
def uptoBulkEntry {H : Type} : Lit × DataW H → Nat
  | (.string bytes, d) => bytes.length + uptoBulk d + 1
  | (_, d) => uptoBulk d + 1
 end
def uptoSmall : (H : Type) → List (DataW H) → Bool := fun _ ds => decide (uptoBulkAll ds ≤ 1048576)
def OpenSpec.upto (s : _root_.Go.ChangeSpec) : _root_.Go.OpenSpec := { _root_.Go.OpenSpec.ofChange s with cond := some uptoSmall }

/-- 'tidepolelaw13.PostSets', WHERE WHAT IT READS IS OF BULK AT MOST 1048576: true; the input reads as it did. -/
def postSetsUptoRow : OpenClaim := { program := "ytgkijdahghfldaa", sum := "434f8fb9d75fb24c186175be27611ea8ef3e96f5c7471dbb8a35ac1eec9b11c3", func := "tidepole/tidepolelaw13.PostSets", spec := "postSets", unfollowed := true, recurses := true, apart := false, narrowed := true }
def PostSetsUptoSaid : Prop := postSetsUptoRow.holds Try.pinned (OpenSpec.upto postSetsSpec)

/-- 'tidepolelaw13.PostGoes', WHERE WHAT IT READS IS OF BULK AT MOST 1048576: true; the input reads as it did. -/
def postGoesUptoRow : OpenClaim := { program := "ytgkijdahghfldaa", sum := "434f8fb9d75fb24c186175be27611ea8ef3e96f5c7471dbb8a35ac1eec9b11c3", func := "tidepole/tidepolelaw13.PostGoes", spec := "postGoes", unfollowed := true, recurses := true, apart := false, narrowed := true }
def PostGoesUptoSaid : Prop := postGoesUptoRow.holds Try.pinned (OpenSpec.upto postGoesSpec)

/-- 'tidepolelaw13.PostLists', WHERE WHAT IT READS IS OF BULK AT MOST 1048576: true; the input reads as it did. -/
def postListsUptoRow : OpenClaim := { program := "ytgkijdahghfldaa", sum := "434f8fb9d75fb24c186175be27611ea8ef3e96f5c7471dbb8a35ac1eec9b11c3", func := "tidepole/tidepolelaw13.PostLists", spec := "postLists", unfollowed := true, recurses := true, apart := false, narrowed := true }
def PostListsUptoSaid : Prop := postListsUptoRow.holds Try.pinned (OpenSpec.upto postListsSpec)

/-- 'tidepolelaw13.PostIndexes', WHERE WHAT IT READS IS OF BULK AT MOST 1048576: true; the input reads as it did. -/
def postIndexesUptoRow : OpenClaim := { program := "ytgkijdahghfldaa", sum := "434f8fb9d75fb24c186175be27611ea8ef3e96f5c7471dbb8a35ac1eec9b11c3", func := "tidepole/tidepolelaw13.PostIndexes", spec := "postIndexes", unfollowed := true, recurses := true, apart := false, narrowed := true }
def PostIndexesUptoSaid : Prop := postIndexesUptoRow.holds Try.pinned (OpenSpec.upto postIndexesSpec)

/-- 'tidepolelaw13.PostVoid', WHERE WHAT IT READS IS OF BULK AT MOST 1048576: true; the input reads as it did. -/
def postVoidUptoRow : OpenClaim := { program := "ytgkijdahghfldaa", sum := "434f8fb9d75fb24c186175be27611ea8ef3e96f5c7471dbb8a35ac1eec9b11c3", func := "tidepole/tidepolelaw13.PostVoid", spec := "postVoid", unfollowed := true, recurses := true, apart := false, narrowed := true }
def PostVoidUptoSaid : Prop := postVoidUptoRow.holds Try.pinned (OpenSpec.upto postVoidSpec)

end Rows
end Go.Proofs.Ytgkijdahghfldaa
