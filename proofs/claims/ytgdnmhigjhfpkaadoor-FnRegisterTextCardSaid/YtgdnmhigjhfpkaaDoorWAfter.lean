/- Facts on worlds behind a call, for every walk. -/
import Derived.Test.YtgdnmhigjhfpkaaDoorWBase
namespace Go.Proofs.YtgdnmhigjhfpkaaDoor
open Go.RowKit
theorem B3.belowS {w w' : World} {b : Nat} {T : TypeId} {x y z : Value} (h : B3 w b T x y z) (hb : Below w.heap.size w w') : B3 w' b T x y z := h.below hb h.facts.2.2.2.2.2.2
theorem afterB {B : Nat} {w w1 w2 : World} (h1 : Below B w w1) (h2 : Below w1.heap.size w1 w2) (hB : B ≤ w1.heap.size) : Below B w w2 := h1.trans (h2.mono hB)
end Go.Proofs.YtgdnmhigjhfpkaaDoor
