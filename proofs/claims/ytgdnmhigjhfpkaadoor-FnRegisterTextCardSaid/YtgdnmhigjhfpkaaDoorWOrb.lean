/- Contracts of the functions that follow the states of a register. -/
import Derived.Test.YtgdnmhigjhfpkaaDoorWJump
import Derived.Test.YtgdnmhigjhfpkaaDoorPlainOrb
import Derived.Test.YtgdnmhigjhfpkaaDoorWBaseI
import Derived.Deep.OwnRows
namespace Go.Proofs.YtgdnmhigjhfpkaaDoor
open Go.RowKit SS
set_option maxRecDepth 100000

/-- the zero value of the table of visits -/
def Z256 : Array Value := Array.replicate 256 (.int .i64 0)
theorem Z256_list : Z256 = ((List.replicate 256 (0 : Int)).map (Value.int .i64)).toArray := by rw [List.map_replicate, List.toArray_replicate]; rfl
end Go.Proofs.YtgdnmhigjhfpkaaDoor
