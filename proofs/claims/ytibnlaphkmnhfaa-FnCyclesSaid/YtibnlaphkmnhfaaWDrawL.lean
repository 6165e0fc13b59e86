/- Contracts of the functions that draw the arguments of the laws on registers. -/
import Derived.Test.YtibnlaphkmnhfaaWDrawR
import Derived.Deep.DeepCutAuto
namespace Go.Proofs.Ytibnlaphkmnhfaa
open Go.RowKit SS
set_option maxRecDepth 100000
/-- some register and some number come back -/
def SomeRI (w : World) (e : Ending) (w' : World) : Prop := ∃ s t x n : Int, e = .returned (.tuple #[.agg #[.int .i64 s, .int .i64 t, .int .i64 x], .int .i64 n]) ∧ Below w.heap.size w w'
/-- some number comes back -/
def SomeN (R B N : Nat) (w : World) (e : Ending) (w' : World) : Prop := ∃ n : Int, e = .returned (.int .i64 n) ∧ Dr w R B N w'
theorem vr_odd {s t x : Nat} (h : VR s t x) : VR s (t / 2 * 2 + 1) x := by
  obtain ⟨h1, h2, h3, h4, h5⟩ := h
  have := pow_pred s (by omega)
  exact ⟨h1, h2, by omega, by omega, h5⟩
theorem vr_tlt {s t x : Nat} (h : VR s t x) : t < 256 ∧ x < 256 := ⟨lt256 h.2.1 h.2.2.2.1, lt256 h.2.1 h.2.2.2.2⟩
end Go.Proofs.Ytibnlaphkmnhfaa
