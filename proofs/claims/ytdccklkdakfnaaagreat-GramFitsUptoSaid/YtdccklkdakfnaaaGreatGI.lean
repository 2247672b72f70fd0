/-
  What strconv.Itoa writes, in the words of the walks. Generic: names no program.
-/
import Derived.Test.YtdccklkdakfnaaaGreatGW
import Derived.Lib.ItoaNum
import Derived.Lib.Join
import Derived.Lib.Repeat
namespace Go.Gx
def joinB (xs : List ByteArray) (sep : ByteArray) : ByteArray := ⟨(Lib.join (xs.map (·.data.toList)) sep.data.toList).toArray⟩
end Go.Gx
