/-
  NARROWER THAN 'FOR EVERY INPUT', by the rows' own cells (each row's printed sentence says how): InvFits: loops.
  DERIVED. THE GIVEN ROWS OF THIS SEAT. 10 by the template 'for every input the law returns true; each argument reads behind the call as it read before'; 0 by the template 'total and deterministic' (their statements: YtbclkjbkebebeaaGreatTotals.lean).
  GIVEN WITH THE SEED: the statements are not yours to turn. If you find one false, say at which input.
  Laid BY PROGRAM, IN A SANDBOX (cutbox-rows.mjs): the forced cells as the released guide's own fill.sh prints them over the translation 3917a853adca3d57… (all of the seat's roots in one cut). By AI agents, Wed Nov 11 2026. No macro, syntax, notation, axiom, sorry.
-/
import Derived.Test.YtbclkjbkebebeaaGreatChecked
import GoSem.Claim
import GoSem.ClaimJoined
import GoSem.ClaimMapViews
import Derived.JoinedTies
import Derived.KernelRfl
namespace Go.Proofs.YtbclkjbkebebeaaGreat
/- THE CELL 'sum', in the pinned program and in every row, IS THE sha256 OF THE DUMP (.gsa) THAT YtbclkjbkebebeaaGreatProg.lean LOADS. Nothing in Lean hashes anything: it is a label: what it is worth is what the hold of that sum in a sandbox is worth. -/
noncomputable def Tryz.pinned : Pinned := { name := "ytbclkjbkebebeaagreat", sum := "3917a853adca3d57055d5bbb5201806e94ef200f4a413b26a9f9a96d2e75761e", checked := Tryz.checked }
namespace Rows
def none {H : Type} : Left H := { results := [], args := [] }

/-- 'tidepolelaw16.InvLists': WHATEVER THE INPUT: true; the input reads as it did. -/
def invListsSpec : ChangeSpec := { name := "invLists", fn := fun _ => fun
  | [d1, d2] => { results := [.lit (.bool true)], args := [d1, d2] }
  | _ => none }
def invListsRow : OpenClaim := { program := "ytbclkjbkebebeaagreat", sum := "3917a853adca3d57055d5bbb5201806e94ef200f4a413b26a9f9a96d2e75761e", func := "tidepole/tidepolelaw16.InvLists", spec := "invLists", unfollowed := true, recurses := true, apart := false }
def InvListsSaid : Prop := invListsRow.holds Tryz.pinned (OpenSpec.ofChange invListsSpec)

/-- ITS FALSE NEIGHBOUR: 'it returns false'. Refute it at one input. -/
def invListsWrong : ChangeSpec := { name := "invLists", fn := fun _ => fun
  | [d1, d2] => { results := [.lit (.bool false)], args := [d1, d2] }
  | _ => none }
def InvListsWrongFalsely : Prop := invListsRow.holds Tryz.pinned (OpenSpec.ofChange invListsWrong)

/-- 'tidepolelaw16.InvUndone': WHATEVER THE INPUT: true; the input reads as it did. -/
def invUndoneSpec : ChangeSpec := { name := "invUndone", fn := fun _ => fun
  | [d1, d2, d3, d4] => { results := [.lit (.bool true)], args := [d1, d2, d3, d4] }
  | _ => none }
def invUndoneRow : OpenClaim := { program := "ytbclkjbkebebeaagreat", sum := "3917a853adca3d57055d5bbb5201806e94ef200f4a413b26a9f9a96d2e75761e", func := "tidepole/tidepolelaw16.InvUndone", spec := "invUndone", unfollowed := true, recurses := true, apart := false }
def InvUndoneSaid : Prop := invUndoneRow.holds Tryz.pinned (OpenSpec.ofChange invUndoneSpec)

/-- ITS FALSE NEIGHBOUR: 'it returns false'. Refute it at one input. -/
def invUndoneWrong : ChangeSpec := { name := "invUndone", fn := fun _ => fun
  | [d1, d2, d3, d4] => { results := [.lit (.bool false)], args := [d1, d2, d3, d4] }
  | _ => none }
def InvUndoneWrongFalsely : Prop := invUndoneRow.holds Tryz.pinned (OpenSpec.ofChange invUndoneWrong)

/-- 'tidepolelaw16.InvPlays': WHATEVER THE INPUT: true; the input reads as it did. -/
def invPlaysSpec : ChangeSpec := { name := "invPlays", fn := fun _ => fun
  | [d1, d2] => { results := [.lit (.bool true)], args := [d1, d2] }
  | _ => none }
def invPlaysRow : OpenClaim := { program := "ytbclkjbkebebeaagreat", sum := "3917a853adca3d57055d5bbb5201806e94ef200f4a413b26a9f9a96d2e75761e", func := "tidepole/tidepolelaw16.InvPlays", spec := "invPlays", unfollowed := true, recurses := true, apart := false }
def InvPlaysSaid : Prop := invPlaysRow.holds Tryz.pinned (OpenSpec.ofChange invPlaysSpec)

/-- ITS FALSE NEIGHBOUR: 'it returns false'. Refute it at one input. -/
def invPlaysWrong : ChangeSpec := { name := "invPlays", fn := fun _ => fun
  | [d1, d2] => { results := [.lit (.bool false)], args := [d1, d2] }
  | _ => none }
def InvPlaysWrongFalsely : Prop := invPlaysRow.holds Tryz.pinned (OpenSpec.ofChange invPlaysWrong)

/-- 'tidepolelaw16.InvFits': WHATEVER THE INPUT: true; the input reads as it did. -/
def invFitsSpec : ChangeSpec := { name := "invFits", fn := fun _ => fun
  | [d1, d2, d3, d4] => { results := [.lit (.bool true)], args := [d1, d2, d3, d4] }
  | _ => none }
def invFitsRow : OpenClaim := { program := "ytbclkjbkebebeaagreat", sum := "3917a853adca3d57055d5bbb5201806e94ef200f4a413b26a9f9a96d2e75761e", func := "tidepole/tidepolelaw16.InvFits", spec := "invFits", unfollowed := true, recurses := true, loops := true, apart := false }
def InvFitsSaid : Prop := invFitsRow.holds Tryz.pinned (OpenSpec.ofChange invFitsSpec)

/-- ITS FALSE NEIGHBOUR: 'it returns false'. Refute it at one input. -/
def invFitsWrong : ChangeSpec := { name := "invFits", fn := fun _ => fun
  | [d1, d2, d3, d4] => { results := [.lit (.bool false)], args := [d1, d2, d3, d4] }
  | _ => none }
def InvFitsWrongFalsely : Prop := invFitsRow.holds Tryz.pinned (OpenSpec.ofChange invFitsWrong)

/-- 'tidepolelaw16.InvVoid': WHATEVER THE INPUT: true; the input reads as it did. -/
def invVoidSpec : ChangeSpec := { name := "invVoid", fn := fun _ => fun
  | [d1, d2, d3] => { results := [.lit (.bool true)], args := [d1, d2, d3] }
  | _ => none }
def invVoidRow : OpenClaim := { program := "ytbclkjbkebebeaagreat", sum := "3917a853adca3d57055d5bbb5201806e94ef200f4a413b26a9f9a96d2e75761e", func := "tidepole/tidepolelaw16.InvVoid", spec := "invVoid", unfollowed := true, recurses := true, apart := false }
def InvVoidSaid : Prop := invVoidRow.holds Tryz.pinned (OpenSpec.ofChange invVoidSpec)

/-- ITS FALSE NEIGHBOUR: 'it returns false'. Refute it at one input. -/
def invVoidWrong : ChangeSpec := { name := "invVoid", fn := fun _ => fun
  | [d1, d2, d3] => { results := [.lit (.bool false)], args := [d1, d2, d3] }
  | _ => none }
def InvVoidWrongFalsely : Prop := invVoidRow.holds Tryz.pinned (OpenSpec.ofChange invVoidWrong)

/-- 'tidepolelaw17.PagePuts': WHATEVER THE INPUT: true; the input reads as it did. -/
def pagePutsSpec : ChangeSpec := { name := "pagePuts", fn := fun _ => fun
  | [d] => { results := [.lit (.bool true)], args := [d] }
  | _ => none }
def pagePutsRow : OpenClaim := { program := "ytbclkjbkebebeaagreat", sum := "3917a853adca3d57055d5bbb5201806e94ef200f4a413b26a9f9a96d2e75761e", func := "tidepole/tidepolelaw17.PagePuts", spec := "pagePuts", unfollowed := true, recurses := true, apart := false }
def PagePutsSaid : Prop := pagePutsRow.holds Tryz.pinned (OpenSpec.ofChange pagePutsSpec)

/-- ITS FALSE NEIGHBOUR: 'it returns false'. Refute it at one input. -/
def pagePutsWrong : ChangeSpec := { name := "pagePuts", fn := fun _ => fun
  | [d] => { results := [.lit (.bool false)], args := [d] }
  | _ => none }
def PagePutsWrongFalsely : Prop := pagePutsRow.holds Tryz.pinned (OpenSpec.ofChange pagePutsWrong)

/-- 'tidepolelaw17.PageVoid': WHATEVER THE INPUT: true; the input reads as it did. -/
def pageVoidSpec : ChangeSpec := { name := "pageVoid", fn := fun _ => fun
  | [d1, d2] => { results := [.lit (.bool true)], args := [d1, d2] }
  | _ => none }
def pageVoidRow : OpenClaim := { program := "ytbclkjbkebebeaagreat", sum := "3917a853adca3d57055d5bbb5201806e94ef200f4a413b26a9f9a96d2e75761e", func := "tidepole/tidepolelaw17.PageVoid", spec := "pageVoid", unfollowed := true, recurses := true, apart := false }
def PageVoidSaid : Prop := pageVoidRow.holds Tryz.pinned (OpenSpec.ofChange pageVoidSpec)

/-- ITS FALSE NEIGHBOUR: 'it returns false'. Refute it at one input. -/
def pageVoidWrong : ChangeSpec := { name := "pageVoid", fn := fun _ => fun
  | [d1, d2] => { results := [.lit (.bool false)], args := [d1, d2] }
  | _ => none }
def PageVoidWrongFalsely : Prop := pageVoidRow.holds Tryz.pinned (OpenSpec.ofChange pageVoidWrong)

/-- 'tidepolelaw17.PageOnce': WHATEVER THE INPUT: true; the input reads as it did. -/
def pageOnceSpec : ChangeSpec := { name := "pageOnce", fn := fun _ => fun
  | [d1, d2] => { results := [.lit (.bool true)], args := [d1, d2] }
  | _ => none }
def pageOnceRow : OpenClaim := { program := "ytbclkjbkebebeaagreat", sum := "3917a853adca3d57055d5bbb5201806e94ef200f4a413b26a9f9a96d2e75761e", func := "tidepole/tidepolelaw17.PageOnce", spec := "pageOnce", unfollowed := true, recurses := true, apart := false }
def PageOnceSaid : Prop := pageOnceRow.holds Tryz.pinned (OpenSpec.ofChange pageOnceSpec)

/-- ITS FALSE NEIGHBOUR: 'it returns false'. Refute it at one input. -/
def pageOnceWrong : ChangeSpec := { name := "pageOnce", fn := fun _ => fun
  | [d1, d2] => { results := [.lit (.bool false)], args := [d1, d2] }
  | _ => none }
def PageOnceWrongFalsely : Prop := pageOnceRow.holds Tryz.pinned (OpenSpec.ofChange pageOnceWrong)

/-- 'tidepolelaw17.PageReads': WHATEVER THE INPUT: true; the input reads as it did. -/
def pageReadsSpec : ChangeSpec := { name := "pageReads", fn := fun _ => fun
  | [d1, d2] => { results := [.lit (.bool true)], args := [d1, d2] }
  | _ => none }
def pageReadsRow : OpenClaim := { program := "ytbclkjbkebebeaagreat", sum := "3917a853adca3d57055d5bbb5201806e94ef200f4a413b26a9f9a96d2e75761e", func := "tidepole/tidepolelaw17.PageReads", spec := "pageReads", unfollowed := true, recurses := true, apart := false }
def PageReadsSaid : Prop := pageReadsRow.holds Tryz.pinned (OpenSpec.ofChange pageReadsSpec)

/-- ITS FALSE NEIGHBOUR: 'it returns false'. Refute it at one input. -/
def pageReadsWrong : ChangeSpec := { name := "pageReads", fn := fun _ => fun
  | [d1, d2] => { results := [.lit (.bool false)], args := [d1, d2] }
  | _ => none }
def PageReadsWrongFalsely : Prop := pageReadsRow.holds Tryz.pinned (OpenSpec.ofChange pageReadsWrong)

/-- 'tidepolelaw17.PageBack': WHATEVER THE INPUT: true; the input reads as it did. -/
def pageBackSpec : ChangeSpec := { name := "pageBack", fn := fun _ => fun
  | [d1, d2] => { results := [.lit (.bool true)], args := [d1, d2] }
  | _ => none }
def pageBackRow : OpenClaim := { program := "ytbclkjbkebebeaagreat", sum := "3917a853adca3d57055d5bbb5201806e94ef200f4a413b26a9f9a96d2e75761e", func := "tidepole/tidepolelaw17.PageBack", spec := "pageBack", unfollowed := true, recurses := true, apart := false }
def PageBackSaid : Prop := pageBackRow.holds Tryz.pinned (OpenSpec.ofChange pageBackSpec)

/-- ITS FALSE NEIGHBOUR: 'it returns false'. Refute it at one input. -/
def pageBackWrong : ChangeSpec := { name := "pageBack", fn := fun _ => fun
  | [d1, d2] => { results := [.lit (.bool false)], args := [d1, d2] }
  | _ => none }
def PageBackWrongFalsely : Prop := pageBackRow.holds Tryz.pinned (OpenSpec.ofChange pageBackWrong)

/- THE SECOND FORM. 'bulk': how many values and letters a reading holds, each counted each time it is reached (what is shared counts as often as it is met; a slice's spare places count too). A statement '..UptoSaid' is the law's where the arguments, and the package variables that the reading takes, are together of bulk at most 1048576: NARROWER than '..Said'. Prove '..Said' where nothing that the law and all that it calls make is longer than what came in: it says more and counts as full. Else prove '..UptoSaid'. A law counts once. -/
mutual
def uptoBulk {H : Type} : DataW H → Nat
  | .lit (.string bytes) => bytes.length + 1
  | .lit _ => 1
  | .nil => 1
  | .ptr d => uptoBulk d + 1
  | .slice elems spare => uptoBulkAll elems + uptoBulkAll spare + 1
  | .agg parts => uptoBulkAll parts + 1
  | .iface _ d => uptoBulk d + 1
  | .map entries => uptoBulkEntries entries + 1
  | .held _ => 1
def uptoBulkAll {H : Type} : List (DataW H) → Nat
  | [] => 0
  | d :: r => uptoBulk d + uptoBulkAll r
def uptoBulkEntries {H : Type} : List (Lit × DataW H) → Nat
  | [] => 0
  | x :: r => uptoBulkEntry x + uptoBulkEntries r
def uptoBulkEntry {H : Type} : Lit × DataW H → Nat
  | (.string bytes, d) => bytes.length + uptoBulk d + 1
  | (_, d) => uptoBulk d + 1
 end
def uptoSmall : (H : Type) → List (DataW H) → Bool := fun _ ds => decide (uptoBulkAll ds ≤ 1048576)
def OpenSpec.upto (s : _root_.Go.ChangeSpec) : _root_.Go.OpenSpec := { _root_.Go.OpenSpec.ofChange s with cond := some uptoSmall }

/-- 'tidepolelaw16.InvLists', WHERE WHAT IT READS IS OF BULK AT MOST 1048576: true; the input reads as it did. -/
def invListsUptoRow : OpenClaim := { program := "ytbclkjbkebebeaagreat", sum := "3917a853adca3d57055d5bbb5201806e94ef200f4a413b26a9f9a96d2e75761e", func := "tidepole/tidepolelaw16.InvLists", spec := "invLists", unfollowed := true, recurses := true, apart := false, narrowed := true }
def InvListsUptoSaid : Prop := invListsUptoRow.holds Tryz.pinned (OpenSpec.upto invListsSpec)

/-- 'tidepolelaw16.InvUndone', WHERE WHAT IT READS IS OF BULK AT MOST 1048576: true; the input reads as it did. -/
def invUndoneUptoRow : OpenClaim := { program := "ytbclkjbkebebeaagreat", sum := "3917a853adca3d57055d5bbb5201806e94ef200f4a413b26a9f9a96d2e75761e", func := "tidepole/tidepolelaw16.InvUndone", spec := "invUndone", unfollowed := true, recurses := true, apart := false, narrowed := true }
def InvUndoneUptoSaid : Prop := invUndoneUptoRow.holds Tryz.pinned (OpenSpec.upto invUndoneSpec)

/-- 'tidepolelaw16.InvPlays', WHERE WHAT IT READS IS OF BULK AT MOST 1048576: true; the input reads as it did. -/
def invPlaysUptoRow : OpenClaim := { program := "ytbclkjbkebebeaagreat", sum := "3917a853adca3d57055d5bbb5201806e94ef200f4a413b26a9f9a96d2e75761e", func := "tidepole/tidepolelaw16.InvPlays", spec := "invPlays", unfollowed := true, recurses := true, apart := false, narrowed := true }
def InvPlaysUptoSaid : Prop := invPlaysUptoRow.holds Tryz.pinned (OpenSpec.upto invPlaysSpec)

/-- 'tidepolelaw16.InvFits', WHERE WHAT IT READS IS OF BULK AT MOST 1048576: true; the input reads as it did. -/
def invFitsUptoRow : OpenClaim := { program := "ytbclkjbkebebeaagreat", sum := "3917a853adca3d57055d5bbb5201806e94ef200f4a413b26a9f9a96d2e75761e", func := "tidepole/tidepolelaw16.InvFits", spec := "invFits", unfollowed := true, recurses := true, loops := true, apart := false, narrowed := true }
def InvFitsUptoSaid : Prop := invFitsUptoRow.holds Tryz.pinned (OpenSpec.upto invFitsSpec)

/-- 'tidepolelaw16.InvVoid', WHERE WHAT IT READS IS OF BULK AT MOST 1048576: true; the input reads as it did. -/
def invVoidUptoRow : OpenClaim := { program := "ytbclkjbkebebeaagreat", sum := "3917a853adca3d57055d5bbb5201806e94ef200f4a413b26a9f9a96d2e75761e", func := "tidepole/tidepolelaw16.InvVoid", spec := "invVoid", unfollowed := true, recurses := true, apart := false, narrowed := true }
def InvVoidUptoSaid : Prop := invVoidUptoRow.holds Tryz.pinned (OpenSpec.upto invVoidSpec)

/-- 'tidepolelaw17.PagePuts', WHERE WHAT IT READS IS OF BULK AT MOST 1048576: true; the input reads as it did. -/
def pagePutsUptoRow : OpenClaim := { program := "ytbclkjbkebebeaagreat", sum := "3917a853adca3d57055d5bbb5201806e94ef200f4a413b26a9f9a96d2e75761e", func := "tidepole/tidepolelaw17.PagePuts", spec := "pagePuts", unfollowed := true, recurses := true, apart := false, narrowed := true }
def PagePutsUptoSaid : Prop := pagePutsUptoRow.holds Tryz.pinned (OpenSpec.upto pagePutsSpec)

/-- 'tidepolelaw17.PageVoid', WHERE WHAT IT READS IS OF BULK AT MOST 1048576: true; the input reads as it did. -/
def pageVoidUptoRow : OpenClaim := { program := "ytbclkjbkebebeaagreat", sum := "3917a853adca3d57055d5bbb5201806e94ef200f4a413b26a9f9a96d2e75761e", func := "tidepole/tidepolelaw17.PageVoid", spec := "pageVoid", unfollowed := true, recurses := true, apart := false, narrowed := true }
def PageVoidUptoSaid : Prop := pageVoidUptoRow.holds Tryz.pinned (OpenSpec.upto pageVoidSpec)

/-- 'tidepolelaw17.PageOnce', WHERE WHAT IT READS IS OF BULK AT MOST 1048576: true; the input reads as it did. -/
def pageOnceUptoRow : OpenClaim := { program := "ytbclkjbkebebeaagreat", sum := "3917a853adca3d57055d5bbb5201806e94ef200f4a413b26a9f9a96d2e75761e", func := "tidepole/tidepolelaw17.PageOnce", spec := "pageOnce", unfollowed := true, recurses := true, apart := false, narrowed := true }
def PageOnceUptoSaid : Prop := pageOnceUptoRow.holds Tryz.pinned (OpenSpec.upto pageOnceSpec)

/-- 'tidepolelaw17.PageReads', WHERE WHAT IT READS IS OF BULK AT MOST 1048576: true; the input reads as it did. -/
def pageReadsUptoRow : OpenClaim := { program := "ytbclkjbkebebeaagreat", sum := "3917a853adca3d57055d5bbb5201806e94ef200f4a413b26a9f9a96d2e75761e", func := "tidepole/tidepolelaw17.PageReads", spec := "pageReads", unfollowed := true, recurses := true, apart := false, narrowed := true }
def PageReadsUptoSaid : Prop := pageReadsUptoRow.holds Tryz.pinned (OpenSpec.upto pageReadsSpec)

/-- 'tidepolelaw17.PageBack', WHERE WHAT IT READS IS OF BULK AT MOST 1048576: true; the input reads as it did. -/
def pageBackUptoRow : OpenClaim := { program := "ytbclkjbkebebeaagreat", sum := "3917a853adca3d57055d5bbb5201806e94ef200f4a413b26a9f9a96d2e75761e", func := "tidepole/tidepolelaw17.PageBack", spec := "pageBack", unfollowed := true, recurses := true, apart := false, narrowed := true }
def PageBackUptoSaid : Prop := pageBackUptoRow.holds Tryz.pinned (OpenSpec.upto pageBackSpec)

end Rows
end Go.Proofs.YtbclkjbkebebeaaGreat
