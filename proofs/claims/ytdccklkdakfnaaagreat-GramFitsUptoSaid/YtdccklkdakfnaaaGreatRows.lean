/-
  NARROWER THAN 'FOR EVERY INPUT', by the rows' own cells (each row's printed sentence says how): GramTells: loops · GramFits: loops · GramLists: loops · GramSound: loops.
  DERIVED. THE GIVEN ROWS OF THIS SEAT. 8 by the template 'for every input the law returns true; each argument reads behind the call as it read before'; 0 by the template 'total and deterministic' (their statements: YtdccklkdakfnaaaGreatTotals.lean).
  GIVEN WITH THE SEED: the statements are not yours to turn. If you find one false, say at which input.
  Laid BY PROGRAM, IN A SANDBOX (cutbox-rows.mjs): the forced cells as the released guide's own fill.sh prints them over the translation 41ee10144933d817… (all of the seat's roots in one cut). By AI agents, Wed Nov 11 2026. No macro, syntax, notation, axiom, sorry.
-/
import Derived.Test.YtdccklkdakfnaaaGreatChecked
import GoSem.Claim
import GoSem.ClaimJoined
import GoSem.ClaimMapViews
import Derived.JoinedTies
import Derived.KernelRfl
namespace Go.Proofs.YtdccklkdakfnaaaGreat
/- THE CELL 'sum', in the pinned program and in every row, IS THE sha256 OF THE DUMP (.gsa) THAT YtdccklkdakfnaaaGreatProg.lean LOADS. Nothing in Lean hashes anything: it is a label: what it is worth is what the hold of that sum in a sandbox is worth. -/
noncomputable def Tryz.pinned : Pinned := { name := "ytdccklkdakfnaaagreat", sum := "41ee10144933d817e775e356752f585a039678cfbd2e1ce0a5cad5e63466b4d4", checked := Tryz.checked }
namespace Rows
def none {H : Type} : Left H := { results := [], args := [] }

/-- 'tidepolelaw14.GramTells': WHATEVER THE INPUT: true; the input reads as it did. -/
def gramTellsSpec : ChangeSpec := { name := "gramTells", fn := fun _ => fun
  | [d1, d2, d3] => { results := [.lit (.bool true)], args := [d1, d2, d3] }
  | _ => none }
def gramTellsRow : OpenClaim := { program := "ytdccklkdakfnaaagreat", sum := "41ee10144933d817e775e356752f585a039678cfbd2e1ce0a5cad5e63466b4d4", func := "tidepole/tidepolelaw14.GramTells", spec := "gramTells", inPlace := ["internal/abi.NoEscape", "internal/bytealg.MakeNoZero", "internal/bytealg.IndexByteString"], unfollowed := true, recurses := true, loops := true, apart := false }
def GramTellsSaid : Prop := gramTellsRow.holds Tryz.pinned (OpenSpec.ofChange gramTellsSpec)

/-- ITS FALSE NEIGHBOUR: 'it returns false'. Refute it at one input. -/
def gramTellsWrong : ChangeSpec := { name := "gramTells", fn := fun _ => fun
  | [d1, d2, d3] => { results := [.lit (.bool false)], args := [d1, d2, d3] }
  | _ => none }
def GramTellsWrongFalsely : Prop := gramTellsRow.holds Tryz.pinned (OpenSpec.ofChange gramTellsWrong)

/-- 'tidepolelaw14.GramQuotes': WHATEVER THE INPUT: true; the input reads as it did. -/
def gramQuotesSpec : ChangeSpec := { name := "gramQuotes", fn := fun _ => fun
  | [d] => { results := [.lit (.bool true)], args := [d] }
  | _ => none }
def gramQuotesRow : OpenClaim := { program := "ytdccklkdakfnaaagreat", sum := "41ee10144933d817e775e356752f585a039678cfbd2e1ce0a5cad5e63466b4d4", func := "tidepole/tidepolelaw14.GramQuotes", spec := "gramQuotes", inPlace := ["internal/bytealg.IndexByteString", "internal/abi.NoEscape", "internal/bytealg.MakeNoZero"], unfollowed := true, recurses := true, apart := false }
def GramQuotesSaid : Prop := gramQuotesRow.holds Tryz.pinned (OpenSpec.ofChange gramQuotesSpec)

/-- ITS FALSE NEIGHBOUR: 'it returns false'. Refute it at one input. -/
def gramQuotesWrong : ChangeSpec := { name := "gramQuotes", fn := fun _ => fun
  | [d] => { results := [.lit (.bool false)], args := [d] }
  | _ => none }
def GramQuotesWrongFalsely : Prop := gramQuotesRow.holds Tryz.pinned (OpenSpec.ofChange gramQuotesWrong)

/-- 'tidepolelaw14.GramFits': WHATEVER THE INPUT: true; the input reads as it did. -/
def gramFitsSpec : ChangeSpec := { name := "gramFits", fn := fun _ => fun
  | [d1, d2, d3, d4] => { results := [.lit (.bool true)], args := [d1, d2, d3, d4] }
  | _ => none }
def gramFitsRow : OpenClaim := { program := "ytdccklkdakfnaaagreat", sum := "41ee10144933d817e775e356752f585a039678cfbd2e1ce0a5cad5e63466b4d4", func := "tidepole/tidepolelaw14.GramFits", spec := "gramFits", inPlace := ["internal/bytealg.IndexByteString", "internal/abi.NoEscape", "internal/bytealg.MakeNoZero"], unfollowed := true, recurses := true, loops := true, apart := false }
def GramFitsSaid : Prop := gramFitsRow.holds Tryz.pinned (OpenSpec.ofChange gramFitsSpec)

/-- ITS FALSE NEIGHBOUR: 'it returns false'. Refute it at one input. -/
def gramFitsWrong : ChangeSpec := { name := "gramFits", fn := fun _ => fun
  | [d1, d2, d3, d4] => { results := [.lit (.bool false)], args := [d1, d2, d3, d4] }
  | _ => none }
def GramFitsWrongFalsely : Prop := gramFitsRow.holds Tryz.pinned (OpenSpec.ofChange gramFitsWrong)

/-- 'tidepolelaw14.GramLists': WHATEVER THE INPUT: true; the input reads as it did. -/
def gramListsSpec : ChangeSpec := { name := "gramLists", fn := fun _ => fun
  | [d1, d2] => { results := [.lit (.bool true)], args := [d1, d2] }
  | _ => none }
def gramListsRow : OpenClaim := { program := "ytdccklkdakfnaaagreat", sum := "41ee10144933d817e775e356752f585a039678cfbd2e1ce0a5cad5e63466b4d4", func := "tidepole/tidepolelaw14.GramLists", spec := "gramLists", inPlace := ["internal/bytealg.IndexByteString", "internal/abi.NoEscape", "internal/bytealg.MakeNoZero"], unfollowed := true, recurses := true, loops := true, apart := false }
def GramListsSaid : Prop := gramListsRow.holds Tryz.pinned (OpenSpec.ofChange gramListsSpec)

/-- ITS FALSE NEIGHBOUR: 'it returns false'. Refute it at one input. -/
def gramListsWrong : ChangeSpec := { name := "gramLists", fn := fun _ => fun
  | [d1, d2] => { results := [.lit (.bool false)], args := [d1, d2] }
  | _ => none }
def GramListsWrongFalsely : Prop := gramListsRow.holds Tryz.pinned (OpenSpec.ofChange gramListsWrong)

/-- 'tidepolelaw14.GramSound': WHATEVER THE INPUT: true; the input reads as it did. -/
def gramSoundSpec : ChangeSpec := { name := "gramSound", fn := fun _ => fun
  | [d1, d2] => { results := [.lit (.bool true)], args := [d1, d2] }
  | _ => none }
def gramSoundRow : OpenClaim := { program := "ytdccklkdakfnaaagreat", sum := "41ee10144933d817e775e356752f585a039678cfbd2e1ce0a5cad5e63466b4d4", func := "tidepole/tidepolelaw14.GramSound", spec := "gramSound", inPlace := ["internal/bytealg.IndexByteString", "internal/abi.NoEscape", "internal/bytealg.MakeNoZero"], unfollowed := true, recurses := true, loops := true, apart := false }
def GramSoundSaid : Prop := gramSoundRow.holds Tryz.pinned (OpenSpec.ofChange gramSoundSpec)

/-- ITS FALSE NEIGHBOUR: 'it returns false'. Refute it at one input. -/
def gramSoundWrong : ChangeSpec := { name := "gramSound", fn := fun _ => fun
  | [d1, d2] => { results := [.lit (.bool false)], args := [d1, d2] }
  | _ => none }
def GramSoundWrongFalsely : Prop := gramSoundRow.holds Tryz.pinned (OpenSpec.ofChange gramSoundWrong)

/-- 'tidepolelaw26.MatchParts': WHATEVER THE INPUT: true; the input reads as it did. -/
def matchPartsSpec : ChangeSpec := { name := "matchParts", fn := fun _ => fun
  | [d1, d2, d3, d4] => { results := [.lit (.bool true)], args := [d1, d2, d3, d4] }
  | _ => none }
def matchPartsRow : OpenClaim := { program := "ytdccklkdakfnaaagreat", sum := "41ee10144933d817e775e356752f585a039678cfbd2e1ce0a5cad5e63466b4d4", func := "tidepole/tidepolelaw26.MatchParts", spec := "matchParts", inPlace := ["internal/bytealg.IndexByteString"], unfollowed := true, recurses := true, apart := false }
def MatchPartsSaid : Prop := matchPartsRow.holds Tryz.pinned (OpenSpec.ofChange matchPartsSpec)

/-- ITS FALSE NEIGHBOUR: 'it returns false'. Refute it at one input. -/
def matchPartsWrong : ChangeSpec := { name := "matchParts", fn := fun _ => fun
  | [d1, d2, d3, d4] => { results := [.lit (.bool false)], args := [d1, d2, d3, d4] }
  | _ => none }
def MatchPartsWrongFalsely : Prop := matchPartsRow.holds Tryz.pinned (OpenSpec.ofChange matchPartsWrong)

/-- 'tidepolelaw26.MatchNames': WHATEVER THE INPUT: true; the input reads as it did. -/
def matchNamesSpec : ChangeSpec := { name := "matchNames", fn := fun _ => fun
  | [d1, d2] => { results := [.lit (.bool true)], args := [d1, d2] }
  | _ => none }
def matchNamesRow : OpenClaim := { program := "ytdccklkdakfnaaagreat", sum := "41ee10144933d817e775e356752f585a039678cfbd2e1ce0a5cad5e63466b4d4", func := "tidepole/tidepolelaw26.MatchNames", spec := "matchNames", inPlace := ["internal/bytealg.IndexByteString"], unfollowed := true, recurses := true, apart := false }
def MatchNamesSaid : Prop := matchNamesRow.holds Tryz.pinned (OpenSpec.ofChange matchNamesSpec)

/-- ITS FALSE NEIGHBOUR: 'it returns false'. Refute it at one input. -/
def matchNamesWrong : ChangeSpec := { name := "matchNames", fn := fun _ => fun
  | [d1, d2] => { results := [.lit (.bool false)], args := [d1, d2] }
  | _ => none }
def MatchNamesWrongFalsely : Prop := matchNamesRow.holds Tryz.pinned (OpenSpec.ofChange matchNamesWrong)

/-- 'tidepolelaw26.MatchVoid': WHATEVER THE INPUT: true; the input reads as it did. -/
def matchVoidSpec : ChangeSpec := { name := "matchVoid", fn := fun _ => fun
  | [d] => { results := [.lit (.bool true)], args := [d] }
  | _ => none }
def matchVoidRow : OpenClaim := { program := "ytdccklkdakfnaaagreat", sum := "41ee10144933d817e775e356752f585a039678cfbd2e1ce0a5cad5e63466b4d4", func := "tidepole/tidepolelaw26.MatchVoid", spec := "matchVoid", inPlace := ["internal/bytealg.IndexByteString"], unfollowed := true, recurses := true, apart := false }
def MatchVoidSaid : Prop := matchVoidRow.holds Tryz.pinned (OpenSpec.ofChange matchVoidSpec)

/-- ITS FALSE NEIGHBOUR: 'it returns false'. Refute it at one input. -/
def matchVoidWrong : ChangeSpec := { name := "matchVoid", fn := fun _ => fun
  | [d] => { results := [.lit (.bool false)], args := [d] }
  | _ => none }
def MatchVoidWrongFalsely : Prop := matchVoidRow.holds Tryz.pinned (OpenSpec.ofChange matchVoidWrong)

/- THE SECOND FORM. 'bulk': how many values and letters a reading holds, each counted each time it is reached (what is shared counts as often as it is met; a slice's spare places count too). A statement '..UptoSaid' is the law's where the arguments, and the package variables that the reading takes, are together of bulk at most 1048576: NARROWER than '..Said'. Prove '..Said' where nothing that the law and all that it calls make is longer than what came in: it says more and counts as full. Else prove '..UptoSaid'. A law counts once. -/
mutual
def uptoBulk {H : Type} : DataW H → Nat
  | .lit (.string bytes) => bytes.length + 1
  | .lit _ => 1
  | .nil => 1
  | .ptr d => uptoBulk d + 1
  | .slice elems spare => uptoBulkAll elems + uptoBulkAll spare + 1
  | .agg parts => uptoBulkAll parts + 1
  | .iface _ d => uptoBulk d + 1
  | .map entries => uptoBulkEntries entries + 1
  | .held _ => 1
def uptoBulkAll {H : Type} : List (DataW H) → Nat
  | [] => 0
  | d :: r => uptoBulk d + uptoBulkAll r
def uptoBulkEntries {H : Type} : List (Lit × DataW H) → Nat
  | [] => 0
  | x :: r => uptoBulkEntry x + uptoBulkEntries r
def uptoBulkEntry {H : Type} : Lit × DataW H → Nat
  | (.string bytes, d) => bytes.length + uptoBulk d + 1
  | (_, d) => uptoBulk d + 1
 end
def uptoSmall : (H : Type) → List (DataW H) → Bool := fun _ ds => decide (uptoBulkAll ds ≤ 1048576)
def OpenSpec.upto (s : _root_.Go.ChangeSpec) : _root_.Go.OpenSpec := { _root_.Go.OpenSpec.ofChange s with cond := some uptoSmall }

/-- 'tidepolelaw14.GramTells', WHERE WHAT IT READS IS OF BULK AT MOST 1048576: true; the input reads as it did. -/
def gramTellsUptoRow : OpenClaim := { program := "ytdccklkdakfnaaagreat", sum := "41ee10144933d817e775e356752f585a039678cfbd2e1ce0a5cad5e63466b4d4", func := "tidepole/tidepolelaw14.GramTells", spec := "gramTells", inPlace := ["internal/abi.NoEscape", "internal/bytealg.MakeNoZero", "internal/bytealg.IndexByteString"], unfollowed := true, recurses := true, loops := true, apart := false, narrowed := true }
def GramTellsUptoSaid : Prop := gramTellsUptoRow.holds Tryz.pinned (OpenSpec.upto gramTellsSpec)

/-- 'tidepolelaw14.GramQuotes', WHERE WHAT IT READS IS OF BULK AT MOST 1048576: true; the input reads as it did. -/
def gramQuotesUptoRow : OpenClaim := { program := "ytdccklkdakfnaaagreat", sum := "41ee10144933d817e775e356752f585a039678cfbd2e1ce0a5cad5e63466b4d4", func := "tidepole/tidepolelaw14.GramQuotes", spec := "gramQuotes", inPlace := ["internal/bytealg.IndexByteString", "internal/abi.NoEscape", "internal/bytealg.MakeNoZero"], unfollowed := true, recurses := true, apart := false, narrowed := true }
def GramQuotesUptoSaid : Prop := gramQuotesUptoRow.holds Tryz.pinned (OpenSpec.upto gramQuotesSpec)

/-- 'tidepolelaw14.GramFits', WHERE WHAT IT READS IS OF BULK AT MOST 1048576: true; the input reads as it did. -/
def gramFitsUptoRow : OpenClaim := { program := "ytdccklkdakfnaaagreat", sum := "41ee10144933d817e775e356752f585a039678cfbd2e1ce0a5cad5e63466b4d4", func := "tidepole/tidepolelaw14.GramFits", spec := "gramFits", inPlace := ["internal/bytealg.IndexByteString", "internal/abi.NoEscape", "internal/bytealg.MakeNoZero"], unfollowed := true, recurses := true, loops := true, apart := false, narrowed := true }
def GramFitsUptoSaid : Prop := gramFitsUptoRow.holds Tryz.pinned (OpenSpec.upto gramFitsSpec)

/-- 'tidepolelaw14.GramLists', WHERE WHAT IT READS IS OF BULK AT MOST 1048576: true; the input reads as it did. -/
def gramListsUptoRow : OpenClaim := { program := "ytdccklkdakfnaaagreat", sum := "41ee10144933d817e775e356752f585a039678cfbd2e1ce0a5cad5e63466b4d4", func := "tidepole/tidepolelaw14.GramLists", spec := "gramLists", inPlace := ["internal/bytealg.IndexByteString", "internal/abi.NoEscape", "internal/bytealg.MakeNoZero"], unfollowed := true, recurses := true, loops := true, apart := false, narrowed := true }
def GramListsUptoSaid : Prop := gramListsUptoRow.holds Tryz.pinned (OpenSpec.upto gramListsSpec)

/-- 'tidepolelaw14.GramSound', WHERE WHAT IT READS IS OF BULK AT MOST 1048576: true; the input reads as it did. -/
def gramSoundUptoRow : OpenClaim := { program := "ytdccklkdakfnaaagreat", sum := "41ee10144933d817e775e356752f585a039678cfbd2e1ce0a5cad5e63466b4d4", func := "tidepole/tidepolelaw14.GramSound", spec := "gramSound", inPlace := ["internal/bytealg.IndexByteString", "internal/abi.NoEscape", "internal/bytealg.MakeNoZero"], unfollowed := true, recurses := true, loops := true, apart := false, narrowed := true }
def GramSoundUptoSaid : Prop := gramSoundUptoRow.holds Tryz.pinned (OpenSpec.upto gramSoundSpec)

/-- 'tidepolelaw26.MatchParts', WHERE WHAT IT READS IS OF BULK AT MOST 1048576: true; the input reads as it did. -/
def matchPartsUptoRow : OpenClaim := { program := "ytdccklkdakfnaaagreat", sum := "41ee10144933d817e775e356752f585a039678cfbd2e1ce0a5cad5e63466b4d4", func := "tidepole/tidepolelaw26.MatchParts", spec := "matchParts", inPlace := ["internal/bytealg.IndexByteString"], unfollowed := true, recurses := true, apart := false, narrowed := true }
def MatchPartsUptoSaid : Prop := matchPartsUptoRow.holds Tryz.pinned (OpenSpec.upto matchPartsSpec)

/-- 'tidepolelaw26.MatchNames', WHERE WHAT IT READS IS OF BULK AT MOST 1048576: true; the input reads as it did. -/
def matchNamesUptoRow : OpenClaim := { program := "ytdccklkdakfnaaagreat", sum := "41ee10144933d817e775e356752f585a039678cfbd2e1ce0a5cad5e63466b4d4", func := "tidepole/tidepolelaw26.MatchNames", spec := "matchNames", inPlace := ["internal/bytealg.IndexByteString"], unfollowed := true, recurses := true, apart := false, narrowed := true }
def MatchNamesUptoSaid : Prop := matchNamesUptoRow.holds Tryz.pinned (OpenSpec.upto matchNamesSpec)

/-- 'tidepolelaw26.MatchVoid', WHERE WHAT IT READS IS OF BULK AT MOST 1048576: true; the input reads as it did. -/
def matchVoidUptoRow : OpenClaim := { program := "ytdccklkdakfnaaagreat", sum := "41ee10144933d817e775e356752f585a039678cfbd2e1ce0a5cad5e63466b4d4", func := "tidepole/tidepolelaw26.MatchVoid", spec := "matchVoid", inPlace := ["internal/bytealg.IndexByteString"], unfollowed := true, recurses := true, apart := false, narrowed := true }
def MatchVoidUptoSaid : Prop := matchVoidUptoRow.holds Tryz.pinned (OpenSpec.upto matchVoidSpec)

end Rows
end Go.Proofs.YtdccklkdakfnaaaGreat
