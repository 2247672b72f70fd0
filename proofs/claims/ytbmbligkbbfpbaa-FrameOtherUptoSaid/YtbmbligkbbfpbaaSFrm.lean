/-
  The statements of the frame: the walk and the laws joined.
-/
import Derived.Test.YtbmbligkbbfpbaaPFrm4
import Derived.Test.YtbmbligkbbfpbaaXFrm
namespace Go.Proofs.Ytbmbligkbbfpbaa
open Go.Gx
theorem frameWrites : Rows.FrameWritesUptoSaid := frameWrites_said pureFrameWrites
theorem frameBack : Rows.FrameBackUptoSaid := frameBack_said pureFrameBack
theorem frameFronts : Rows.FrameFrontsUptoSaid := frameFronts_said pureFrameFronts
theorem frameOther : Rows.FrameOtherUptoSaid := frameOther_said pureFrameOther
end Go.Proofs.Ytbmbligkbbfpbaa
