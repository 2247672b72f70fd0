/-
  NARROWER THAN 'FOR EVERY INPUT', by the rows' own cells (each row's printed sentence says how): SimMeans: loops · SimJoins: loops.
  DERIVED. THE GIVEN ROWS OF THIS SEAT. 4 by the template 'for every input the law returns true; each argument reads behind the call as it read before'; 0 by the template 'total and deterministic' (their statements: YtemokppdnkiejaaTotals.lean).
  GIVEN WITH THE SEED: the statements are not yours to turn. If you find one false, say at which input.
  Laid BY PROGRAM, IN A SANDBOX (cutbox-rows.mjs): the forced cells as the released guide's own fill.sh prints them over the translation 65817e43eeaaafdd… (all of the seat's roots in one cut). By AI agents, Wed Nov 11 2026. No macro, syntax, notation, axiom, sorry.
-/
import Derived.Test.YtemokppdnkiejaaChecked
import GoSem.Claim
import GoSem.ClaimJoined
import GoSem.ClaimMapViews
import Derived.JoinedTies
import Derived.KernelRfl
namespace Go.Proofs.Ytemokppdnkiejaa
/- THE CELL 'sum', in the pinned program and in every row, IS THE sha256 OF THE DUMP (.gsa) THAT YtemokppdnkiejaaProg.lean LOADS. Nothing in Lean hashes anything: it is a label: what it is worth is what the hold of that sum in a sandbox is worth. -/
noncomputable def Try.pinned : Pinned := { name := "ytemokppdnkiejaa", sum := "65817e43eeaaafdddee7665112351ba816a0013de1f808cdccf42f5cfd262dd8", checked := Try.checked }
namespace Rows
def none {H : Type} : Left H := { results := [], args := [] }

/-- 'tidepolelaw10.SyntaxReads': WHATEVER THE INPUT: true; the input reads as it did. -/
def syntaxReadsSpec : ChangeSpec := { name := "syntaxReads", fn := fun _ => fun
  | [d] => { results := [.lit (.bool true)], args := [d] }
  | _ => none }
def syntaxReadsRow : OpenClaim := { program := "ytemokppdnkiejaa", sum := "65817e43eeaaafdddee7665112351ba816a0013de1f808cdccf42f5cfd262dd8", func := "tidepole/tidepolelaw10.SyntaxReads", spec := "syntaxReads", inPlace := ["internal/bytealg.IndexByteString"], unfollowed := true, recurses := true, apart := false }
def SyntaxReadsSaid : Prop := syntaxReadsRow.holds Try.pinned (OpenSpec.ofChange syntaxReadsSpec)

/-- ITS FALSE NEIGHBOUR: 'it returns false'. Refute it at one input. -/
def syntaxReadsWrong : ChangeSpec := { name := "syntaxReads", fn := fun _ => fun
  | [d] => { results := [.lit (.bool false)], args := [d] }
  | _ => none }
def SyntaxReadsWrongFalsely : Prop := syntaxReadsRow.holds Try.pinned (OpenSpec.ofChange syntaxReadsWrong)

/-- 'tidepolelaw12.SimMeans': WHATEVER THE INPUT: true; the input reads as it did. -/
def simMeansSpec : ChangeSpec := { name := "simMeans", fn := fun _ => fun
  | [d1, d2] => { results := [.lit (.bool true)], args := [d1, d2] }
  | _ => none }
def simMeansRow : OpenClaim := { program := "ytemokppdnkiejaa", sum := "65817e43eeaaafdddee7665112351ba816a0013de1f808cdccf42f5cfd262dd8", func := "tidepole/tidepolelaw12.SimMeans", spec := "simMeans", inPlace := ["internal/bytealg.IndexByteString"], unfollowed := true, recurses := true, loops := true, apart := false }
def SimMeansSaid : Prop := simMeansRow.holds Try.pinned (OpenSpec.ofChange simMeansSpec)

/-- ITS FALSE NEIGHBOUR: 'it returns false'. Refute it at one input. -/
def simMeansWrong : ChangeSpec := { name := "simMeans", fn := fun _ => fun
  | [d1, d2] => { results := [.lit (.bool false)], args := [d1, d2] }
  | _ => none }
def SimMeansWrongFalsely : Prop := simMeansRow.holds Try.pinned (OpenSpec.ofChange simMeansWrong)

/-- 'tidepolelaw12.SimJoins': WHATEVER THE INPUT: true; the input reads as it did. -/
def simJoinsSpec : ChangeSpec := { name := "simJoins", fn := fun _ => fun
  | [d1, d2, d3] => { results := [.lit (.bool true)], args := [d1, d2, d3] }
  | _ => none }
def simJoinsRow : OpenClaim := { program := "ytemokppdnkiejaa", sum := "65817e43eeaaafdddee7665112351ba816a0013de1f808cdccf42f5cfd262dd8", func := "tidepole/tidepolelaw12.SimJoins", spec := "simJoins", inPlace := ["internal/bytealg.IndexByteString"], unfollowed := true, recurses := true, loops := true, apart := false }
def SimJoinsSaid : Prop := simJoinsRow.holds Try.pinned (OpenSpec.ofChange simJoinsSpec)

/-- ITS FALSE NEIGHBOUR: 'it returns false'. Refute it at one input. -/
def simJoinsWrong : ChangeSpec := { name := "simJoins", fn := fun _ => fun
  | [d1, d2, d3] => { results := [.lit (.bool false)], args := [d1, d2, d3] }
  | _ => none }
def SimJoinsWrongFalsely : Prop := simJoinsRow.holds Try.pinned (OpenSpec.ofChange simJoinsWrong)

/-- 'tidepolelaw12.SimQuotes': WHATEVER THE INPUT: true; the input reads as it did. -/
def simQuotesSpec : ChangeSpec := { name := "simQuotes", fn := fun _ => fun
  | [d1, d2] => { results := [.lit (.bool true)], args := [d1, d2] }
  | _ => none }
def simQuotesRow : OpenClaim := { program := "ytemokppdnkiejaa", sum := "65817e43eeaaafdddee7665112351ba816a0013de1f808cdccf42f5cfd262dd8", func := "tidepole/tidepolelaw12.SimQuotes", spec := "simQuotes", inPlace := ["internal/bytealg.IndexByteString", "internal/abi.NoEscape"], unfollowed := true, recurses := true, apart := false }
def SimQuotesSaid : Prop := simQuotesRow.holds Try.pinned (OpenSpec.ofChange simQuotesSpec)

/-- ITS FALSE NEIGHBOUR: 'it returns false'. Refute it at one input. -/
def simQuotesWrong : ChangeSpec := { name := "simQuotes", fn := fun _ => fun
  | [d1, d2] => { results := [.lit (.bool false)], args := [d1, d2] }
  | _ => none }
def SimQuotesWrongFalsely : Prop := simQuotesRow.holds Try.pinned (OpenSpec.ofChange simQuotesWrong)

/- THE SECOND FORM. 'bulk': how many values and letters a reading holds, each counted each time it is reached (what is shared counts as often as it is met; a slice's spare places count too). A statement '..UptoSaid' is the law's where the arguments, and the package variables that the reading takes, are together of bulk at most 1048576: NARROWER than '..Said'. Prove '..Said' where nothing that the law and all that it calls make is longer than what came in: it says more and counts as full. Else prove '..UptoSaid'. A law counts once. -/
mutual
def uptoBulk {H : Type} : DataW H → Nat
  | .lit (.string bytes) => bytes.length + 1
  | .lit _ => 1
  | .nil => 1
  | .ptr d => uptoBulk d + 1
  | .slice elems spare => uptoBulkAll elems + uptoBulkAll spare + 1
  | .agg parts => uptoBulkAll parts + 1
  | .iface _ d => uptoBulk d + 1
  | .map entries => uptoBulkEntries entries + 1
  | .held _ => 1
def uptoBulkAll {H : Type} : List (DataW H) → Nat
  | [] => 0
  | d :: r => uptoBulk d + uptoBulkAll r
def uptoBulkEntries {H : Type} : List (Lit × DataW H) → Nat
  | [] => 0
  | x :: r => uptoBulkEntry x + uptoBulkEntries r
def uptoBulkEntry {H : Type} : Lit × DataW H → Nat
  | (.string bytes, d) => bytes.length + uptoBulk d + 1
  | (_, d) => uptoBulk d + 1
 end
def uptoSmall : (H : Type) → List (DataW H) → Bool := fun _ ds => decide (uptoBulkAll ds ≤ 1048576)
def OpenSpec.upto (s : _root_.Go.ChangeSpec) : _root_.Go.OpenSpec := { _root_.Go.OpenSpec.ofChange s with cond := some uptoSmall }

/-- 'tidepolelaw10.SyntaxReads', WHERE WHAT IT READS IS OF BULK AT MOST 1048576: true; the input reads as it did. -/
def syntaxReadsUptoRow : OpenClaim := { program := "ytemokppdnkiejaa", sum := "65817e43eeaaafdddee7665112351ba816a0013de1f808cdccf42f5cfd262dd8", func := "tidepole/tidepolelaw10.SyntaxReads", spec := "syntaxReads", inPlace := ["internal/bytealg.IndexByteString"], unfollowed := true, recurses := true, apart := false, narrowed := true }
def SyntaxReadsUptoSaid : Prop := syntaxReadsUptoRow.holds Try.pinned (OpenSpec.upto syntaxReadsSpec)

/-- 'tidepolelaw12.SimMeans', WHERE WHAT IT READS IS OF BULK AT MOST 1048576: true; the input reads as it did. -/
def simMeansUptoRow : OpenClaim := { program := "ytemokppdnkiejaa", sum := "65817e43eeaaafdddee7665112351ba816a0013de1f808cdccf42f5cfd262dd8", func := "tidepole/tidepolelaw12.SimMeans", spec := "simMeans", inPlace := ["internal/bytealg.IndexByteString"], unfollowed := true, recurses := true, loops := true, apart := false, narrowed := true }
def SimMeansUptoSaid : Prop := simMeansUptoRow.holds Try.pinned (OpenSpec.upto simMeansSpec)

/-- 'tidepolelaw12.SimJoins', WHERE WHAT IT READS IS OF BULK AT MOST 1048576: true; the input reads as it did. -/
def simJoinsUptoRow : OpenClaim := { program := "ytemokppdnkiejaa", sum := "65817e43eeaaafdddee7665112351ba816a0013de1f808cdccf42f5cfd262dd8", func := "tidepole/tidepolelaw12.SimJoins", spec := "simJoins", inPlace := ["internal/bytealg.IndexByteString"], unfollowed := true, recurses := true, loops := true, apart := false, narrowed := true }
def SimJoinsUptoSaid : Prop := simJoinsUptoRow.holds Try.pinned (OpenSpec.upto simJoinsSpec)

/-- 'tidepolelaw12.SimQuotes', WHERE WHAT IT READS IS OF BULK AT MOST 1048576: true; the input reads as it did. -/
def simQuotesUptoRow : OpenClaim := { program := "ytemokppdnkiejaa", sum := "65817e43eeaaafdddee7665112351ba816a0013de1f808cdccf42f5cfd262dd8", func := "tidepole/tidepolelaw12.SimQuotes", spec := "simQuotes", inPlace := ["internal/bytealg.IndexByteString", "internal/abi.NoEscape"], unfollowed := true, recurses := true, apart := false, narrowed := true }
def SimQuotesUptoSaid : Prop := simQuotesUptoRow.holds Try.pinned (OpenSpec.upto simQuotesSpec)

end Rows
end Go.Proofs.Ytemokppdnkiejaa
