/-
  What strconv.Itoa writes, in the words of the walks. Generic: names no program.
-/
import Derived.Test.YtemokppdnkiejaaDoorGW
import Derived.Lib.ItoaNum
import Derived.Lib.Join
import Derived.Lib.Repeat
namespace Go.Gx
def repB (s : ByteArray) (n : Int) : ByteArray := ⟨(Lib.repeatL s.data.toList n.toNat).toArray⟩
end Go.Gx
