/- What the walks of the laws on drawn registers share. -/
import Derived.Test.YtgmagocpacpafaaWJump
import Derived.Test.YtgmagocpacpafaaWAfter
import Derived.Laws.StructEq
namespace Go.Proofs.Ytgmagocpacpafaa
open Go.RowKit SS
set_option maxRecDepth 100000
end Go.Proofs.Ytgmagocpacpafaa
