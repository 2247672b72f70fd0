/-
  The statements about the checksum, joined.
-/
import Derived.Test.YtbmbligkbbfpbaaXCrc
import Derived.Test.YtbmbligkbbfpbaaPCrc
namespace Go.Proofs.Ytbmbligkbbfpbaa
open Go.Gx
theorem crcSums : Rows.CrcSumsUptoSaid := crcSums_said pureCrcSums
theorem crcSeals : Rows.CrcSealsUptoSaid := crcSeals_said pureCrcSeals
theorem crcOpens : Rows.CrcOpensUptoSaid := crcOpens_said pureCrcOpens
end Go.Proofs.Ytbmbligkbbfpbaa
#print axioms Go.Proofs.Ytbmbligkbbfpbaa.crcSums
#print axioms Go.Proofs.Ytbmbligkbbfpbaa.crcSeals
#print axioms Go.Proofs.Ytbmbligkbbfpbaa.crcOpens
