/- The walks of the laws that compare shifts of sequences with the reference's. -/
import Derived.Test.YtmlmbinpkmdjjaaWRot
namespace Go.Proofs.Ytmlmbinpkmdjjaa
open Go.RowKit SS
theorem calls_below {P : Program} {f : FuncId} {args : Array Value} {w : World} {v : Value} (h : Calls P f args w fun e w' => e = .returned v ∧ ∃ n, w' = w.drewN n) :
    Calls P f args w fun e w' => e = .returned v ∧ Below w.heap.size w w' :=
  h.mono fun _ _ ⟨he, n, hn⟩ => ⟨he, by rw [hn]; exact below_drews (Below.refl _ _) n⟩
theorem nextB {B : Nat} {w w1 w2 : World} (h1 : Below B w w1) (h2 : Below w1.heap.size w1 w2) (hB : B ≤ w1.heap.size) : Below B w w2 := h1.trans (h2.mono hB)
end Go.Proofs.Ytmlmbinpkmdjjaa
