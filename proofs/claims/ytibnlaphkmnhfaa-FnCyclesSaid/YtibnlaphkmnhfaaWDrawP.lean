/- Contracts of further functions that draw the arguments of the laws on registers. -/
import Derived.Test.YtibnlaphkmnhfaaWDrawL
namespace Go.Proofs.Ytibnlaphkmnhfaa
open Go.RowKit SS
set_option maxRecDepth 100000
/-- two numbers come back -/
def SomeII (w : World) (e : Ending) (w' : World) : Prop := ∃ s t : Int, e = .returned (.tuple #[.int .i64 s, .int .i64 t]) ∧ Below w.heap.size w w'
end Go.Proofs.Ytibnlaphkmnhfaa
