/- Contracts of the functions that draw registers and numbers: that a value comes back, and of which kind. -/
import Derived.Test.YtgdnmhigjhfpkaaDoorWRead
import Derived.Test.YtgdnmhigjhfpkaaDoorWJump
namespace Go.Proofs.YtgdnmhigjhfpkaaDoor
open Go.RowKit SS
set_option maxRecDepth 100000
/-- some number of the machine's comes back -/
def SomeI (w : World) (e : Ending) (w' : World) : Prop := ∃ x : Int, e = .returned (.int .i64 x) ∧ -9223372036854775808 ≤ x ∧ x ≤ 9223372036854775807 ∧ Below w.heap.size w w'
/-- some register comes back -/
def SomeR (w : World) (e : Ending) (w' : World) : Prop := ∃ s t x : Int, e = .returned (.agg #[.int .i64 s, .int .i64 t, .int .i64 x]) ∧ Below w.heap.size w w'
theorem BI.lit (w : World) (T : TypeId) (l : List Int) : BI (w.alloc (.cells (l.map (Value.int .i64)).toArray T)) w.heap.size T l := heap_alloc_new w _
theorem Kp.belowB {R B : Nat} {w w' : World} (h : Kp R w w') (hB : B ≤ R) : Below B w w' := h.1.mono hB
theorem mem_5 {x a b c d e : Int} {p : Int → Prop} (h : x ∈ [a, b, c, d, e]) (ha : p a) (hb : p b) (hc : p c) (hd : p d) (he : p e) : p x := by
  simp at h
  rcases h with rfl | rfl | rfl | rfl | rfl <;> assumption
end Go.Proofs.YtgdnmhigjhfpkaaDoor
