/- Contracts of the functions that write the bits of a register. -/
import Derived.Test.YtgdnmhigjhfpkaaDoorWJump
import Derived.Test.YtgdnmhigjhfpkaaDoorWMake
namespace Go.Proofs.YtgdnmhigjhfpkaaDoor
open Go.RowKit SS
set_option maxRecDepth 100000

end Go.Proofs.YtgdnmhigjhfpkaaDoor
