/- What the walks of the laws on drawn registers share. -/
import Derived.Test.YtibnlaphkmnhfaaWJump
import Derived.Test.YtibnlaphkmnhfaaWAfter
import Derived.Laws.StructEq
namespace Go.Proofs.Ytibnlaphkmnhfaa
open Go.RowKit SS
set_option maxRecDepth 100000
end Go.Proofs.Ytibnlaphkmnhfaa
