/-
  The statement that a burst of errors is found, joined.
-/
import Derived.Test.YtbmbligkbbfpbaaXCrc
import Derived.Test.YtbmbligkbbfpbaaPCrcF
namespace Go.Proofs.Ytbmbligkbbfpbaa
open Go.Gx
theorem crcFinds : Rows.CrcFindsUptoSaid := crcFinds_said pureCrcFinds
end Go.Proofs.Ytbmbligkbbfpbaa
#print axioms Go.Proofs.Ytbmbligkbbfpbaa.crcFinds
