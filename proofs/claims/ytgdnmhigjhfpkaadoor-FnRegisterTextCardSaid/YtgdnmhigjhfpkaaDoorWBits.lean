/- Contracts of the functions that ask whether a string is bits. -/
import Derived.Test.YtgdnmhigjhfpkaaDoorWBase
import Derived.Test.YtgdnmhigjhfpkaaDoorWPar
import Derived.Test.YtgdnmhigjhfpkaaDoorPlainStr
namespace Go.Proofs.YtgdnmhigjhfpkaaDoor
open Go.RowKit SS
set_option maxRecDepth 100000

theorem byte_at (s : ByteArray) (k : Nat) (h : k < s.size) : s[k] = s.data.toList[k]'(by simpa using h) := by
  simp [ByteArray.getElem_eq_getElem_data]
theorem size_list (s : ByteArray) : s.data.toList.length = s.size := by simp

end Go.Proofs.YtgdnmhigjhfpkaaDoor
