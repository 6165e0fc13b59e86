/-
  No cell of these rows narrows 'for every input' (looked for: loops, veiled, ifaces, maps, wideKeys, modest, calm, conditions, laid).
  DERIVED. THE GIVEN ROWS OF THIS SEAT. 12 by the template 'for every input the law returns true; each argument reads behind the call as it read before'; 0 by the template 'total and deterministic' (their statements: YtgmagocpacpafaaTotals.lean).
  GIVEN WITH THE SEED: the statements are not yours to turn. If you find one false, say at which input.
  Laid BY PROGRAM, IN A SANDBOX (cutbox-rows.mjs): the forced cells as the released guide's own fill.sh prints them over the translation c7db07c4df197c3e… (all of the seat's roots in one cut). By AI agents, Wed Nov 11 2026. No macro, syntax, notation, axiom, sorry.
-/
import Derived.Test.YtgmagocpacpafaaChecked
import GoSem.Claim
import GoSem.ClaimJoined
import GoSem.ClaimMapViews
import Derived.JoinedTies
import Derived.KernelRfl
namespace Go.Proofs.Ytgmagocpacpafaa
/- THE CELL 'sum', in the pinned program and in every row, IS THE sha256 OF THE DUMP (.gsa) THAT YtgmagocpacpafaaProg.lean LOADS. Nothing in Lean hashes anything: it is a label: what it is worth is what the hold of that sum in a sandbox is worth. -/
noncomputable def Try.pinned : Pinned := { name := "ytgmagocpacpafaa", sum := "c7db07c4df197c3ee09f139ee2c5dbae2c1e5b4113646fb9cba87a8c3ceb8bbe", checked := Try.checked }
namespace Rows
def none {H : Type} : Left H := { results := [], args := [] }

/-- 'laws.FnPeriod': WHATEVER THE INPUT: true; the input reads as it did. -/
def fnPeriodSpec : ChangeSpec := { name := "fnPeriod", fn := fun _ => fun
  | [d] => { results := [.lit (.bool true)], args := [d] }
  | _ => none }
def fnPeriodRow : OpenClaim := { program := "ytgmagocpacpafaa", sum := "c7db07c4df197c3ee09f139ee2c5dbae2c1e5b4113646fb9cba87a8c3ceb8bbe", func := "loop.example/spreadspectrum/laws.FnPeriod", spec := "fnPeriod", apart := false }
def FnPeriodSaid : Prop := fnPeriodRow.holds Try.pinned (OpenSpec.ofChange fnPeriodSpec)

/-- ITS FALSE NEIGHBOUR: 'it returns false'. Refute it at one input. -/
def fnPeriodWrong : ChangeSpec := { name := "fnPeriod", fn := fun _ => fun
  | [d] => { results := [.lit (.bool false)], args := [d] }
  | _ => none }
def FnPeriodWrongFalsely : Prop := fnPeriodRow.holds Try.pinned (OpenSpec.ofChange fnPeriodWrong)

/-- 'laws.FnRegisterFrom': WHATEVER THE INPUT: true; the input reads as it did. -/
def fnRegisterFromSpec : ChangeSpec := { name := "fnRegisterFrom", fn := fun _ => fun
  | [d] => { results := [.lit (.bool true)], args := [d] }
  | _ => none }
def fnRegisterFromRow : OpenClaim := { program := "ytgmagocpacpafaa", sum := "c7db07c4df197c3ee09f139ee2c5dbae2c1e5b4113646fb9cba87a8c3ceb8bbe", func := "loop.example/spreadspectrum/laws.FnRegisterFrom", spec := "fnRegisterFrom", apart := false }
def FnRegisterFromSaid : Prop := fnRegisterFromRow.holds Try.pinned (OpenSpec.ofChange fnRegisterFromSpec)

/-- ITS FALSE NEIGHBOUR: 'it returns false'. Refute it at one input. -/
def fnRegisterFromWrong : ChangeSpec := { name := "fnRegisterFrom", fn := fun _ => fun
  | [d] => { results := [.lit (.bool false)], args := [d] }
  | _ => none }
def FnRegisterFromWrongFalsely : Prop := fnRegisterFromRow.holds Try.pinned (OpenSpec.ofChange fnRegisterFromWrong)

/-- 'laws.FnReverse': WHATEVER THE INPUT: true; the input reads as it did. -/
def fnReverseSpec : ChangeSpec := { name := "fnReverse", fn := fun _ => fun
  | [d1, d2] => { results := [.lit (.bool true)], args := [d1, d2] }
  | _ => none }
def fnReverseRow : OpenClaim := { program := "ytgmagocpacpafaa", sum := "c7db07c4df197c3ee09f139ee2c5dbae2c1e5b4113646fb9cba87a8c3ceb8bbe", func := "loop.example/spreadspectrum/laws.FnReverse", spec := "fnReverse", apart := false }
def FnReverseSaid : Prop := fnReverseRow.holds Try.pinned (OpenSpec.ofChange fnReverseSpec)

/-- ITS FALSE NEIGHBOUR: 'it returns false'. Refute it at one input. -/
def fnReverseWrong : ChangeSpec := { name := "fnReverse", fn := fun _ => fun
  | [d1, d2] => { results := [.lit (.bool false)], args := [d1, d2] }
  | _ => none }
def FnReverseWrongFalsely : Prop := fnReverseRow.holds Try.pinned (OpenSpec.ofChange fnReverseWrong)

/-- 'laws.FnPredict': WHATEVER THE INPUT: true; the input reads as it did. -/
def fnPredictSpec : ChangeSpec := { name := "fnPredict", fn := fun _ => fun
  | [d] => { results := [.lit (.bool true)], args := [d] }
  | _ => none }
def fnPredictRow : OpenClaim := { program := "ytgmagocpacpafaa", sum := "c7db07c4df197c3ee09f139ee2c5dbae2c1e5b4113646fb9cba87a8c3ceb8bbe", func := "loop.example/spreadspectrum/laws.FnPredict", spec := "fnPredict", apart := false }
def FnPredictSaid : Prop := fnPredictRow.holds Try.pinned (OpenSpec.ofChange fnPredictSpec)

/-- ITS FALSE NEIGHBOUR: 'it returns false'. Refute it at one input. -/
def fnPredictWrong : ChangeSpec := { name := "fnPredict", fn := fun _ => fun
  | [d] => { results := [.lit (.bool false)], args := [d] }
  | _ => none }
def FnPredictWrongFalsely : Prop := fnPredictRow.holds Try.pinned (OpenSpec.ofChange fnPredictWrong)

/-- 'laws.FnMaximalBits': WHATEVER THE INPUT: true; the input reads as it did. -/
def fnMaximalBitsSpec : ChangeSpec := { name := "fnMaximalBits", fn := fun _ => fun
  | [d1, d2] => { results := [.lit (.bool true)], args := [d1, d2] }
  | _ => none }
def fnMaximalBitsRow : OpenClaim := { program := "ytgmagocpacpafaa", sum := "c7db07c4df197c3ee09f139ee2c5dbae2c1e5b4113646fb9cba87a8c3ceb8bbe", func := "loop.example/spreadspectrum/laws.FnMaximalBits", spec := "fnMaximalBits", apart := false }
def FnMaximalBitsSaid : Prop := fnMaximalBitsRow.holds Try.pinned (OpenSpec.ofChange fnMaximalBitsSpec)

/-- ITS FALSE NEIGHBOUR: 'it returns false'. Refute it at one input. -/
def fnMaximalBitsWrong : ChangeSpec := { name := "fnMaximalBits", fn := fun _ => fun
  | [d1, d2] => { results := [.lit (.bool false)], args := [d1, d2] }
  | _ => none }
def FnMaximalBitsWrongFalsely : Prop := fnMaximalBitsRow.holds Try.pinned (OpenSpec.ofChange fnMaximalBitsWrong)

/-- 'laws.FnShortest': WHATEVER THE INPUT: true; the input reads as it did. -/
def fnShortestSpec : ChangeSpec := { name := "fnShortest", fn := fun _ => fun
  | [d] => { results := [.lit (.bool true)], args := [d] }
  | _ => none }
def fnShortestRow : OpenClaim := { program := "ytgmagocpacpafaa", sum := "c7db07c4df197c3ee09f139ee2c5dbae2c1e5b4113646fb9cba87a8c3ceb8bbe", func := "loop.example/spreadspectrum/laws.FnShortest", spec := "fnShortest", apart := false }
def FnShortestSaid : Prop := fnShortestRow.holds Try.pinned (OpenSpec.ofChange fnShortestSpec)

/-- ITS FALSE NEIGHBOUR: 'it returns false'. Refute it at one input. -/
def fnShortestWrong : ChangeSpec := { name := "fnShortest", fn := fun _ => fun
  | [d] => { results := [.lit (.bool false)], args := [d] }
  | _ => none }
def FnShortestWrongFalsely : Prop := fnShortestRow.holds Try.pinned (OpenSpec.ofChange fnShortestWrong)

/-- 'laws.FnDecimate': WHATEVER THE INPUT: true; the input reads as it did. -/
def fnDecimateSpec : ChangeSpec := { name := "fnDecimate", fn := fun _ => fun
  | [d1, d2] => { results := [.lit (.bool true)], args := [d1, d2] }
  | _ => none }
def fnDecimateRow : OpenClaim := { program := "ytgmagocpacpafaa", sum := "c7db07c4df197c3ee09f139ee2c5dbae2c1e5b4113646fb9cba87a8c3ceb8bbe", func := "loop.example/spreadspectrum/laws.FnDecimate", spec := "fnDecimate", apart := false }
def FnDecimateSaid : Prop := fnDecimateRow.holds Try.pinned (OpenSpec.ofChange fnDecimateSpec)

/-- ITS FALSE NEIGHBOUR: 'it returns false'. Refute it at one input. -/
def fnDecimateWrong : ChangeSpec := { name := "fnDecimate", fn := fun _ => fun
  | [d1, d2] => { results := [.lit (.bool false)], args := [d1, d2] }
  | _ => none }
def FnDecimateWrongFalsely : Prop := fnDecimateRow.holds Try.pinned (OpenSpec.ofChange fnDecimateWrong)

/-- 'laws.FnShift': WHATEVER THE INPUT: true; the input reads as it did. -/
def fnShiftSpec : ChangeSpec := { name := "fnShift", fn := fun _ => fun
  | [d1, d2] => { results := [.lit (.bool true)], args := [d1, d2] }
  | _ => none }
def fnShiftRow : OpenClaim := { program := "ytgmagocpacpafaa", sum := "c7db07c4df197c3ee09f139ee2c5dbae2c1e5b4113646fb9cba87a8c3ceb8bbe", func := "loop.example/spreadspectrum/laws.FnShift", spec := "fnShift", apart := false }
def FnShiftSaid : Prop := fnShiftRow.holds Try.pinned (OpenSpec.ofChange fnShiftSpec)

/-- ITS FALSE NEIGHBOUR: 'it returns false'. Refute it at one input. -/
def fnShiftWrong : ChangeSpec := { name := "fnShift", fn := fun _ => fun
  | [d1, d2] => { results := [.lit (.bool false)], args := [d1, d2] }
  | _ => none }
def FnShiftWrongFalsely : Prop := fnShiftRow.holds Try.pinned (OpenSpec.ofChange fnShiftWrong)

/-- 'laws.FnRotation': WHATEVER THE INPUT: true; the input reads as it did. -/
def fnRotationSpec : ChangeSpec := { name := "fnRotation", fn := fun _ => fun
  | [d1, d2] => { results := [.lit (.bool true)], args := [d1, d2] }
  | _ => none }
def fnRotationRow : OpenClaim := { program := "ytgmagocpacpafaa", sum := "c7db07c4df197c3ee09f139ee2c5dbae2c1e5b4113646fb9cba87a8c3ceb8bbe", func := "loop.example/spreadspectrum/laws.FnRotation", spec := "fnRotation", apart := false }
def FnRotationSaid : Prop := fnRotationRow.holds Try.pinned (OpenSpec.ofChange fnRotationSpec)

/-- ITS FALSE NEIGHBOUR: 'it returns false'. Refute it at one input. -/
def fnRotationWrong : ChangeSpec := { name := "fnRotation", fn := fun _ => fun
  | [d1, d2] => { results := [.lit (.bool false)], args := [d1, d2] }
  | _ => none }
def FnRotationWrongFalsely : Prop := fnRotationRow.holds Try.pinned (OpenSpec.ofChange fnRotationWrong)

/-- 'laws.FnLeastPeriod': WHATEVER THE INPUT: true; the input reads as it did. -/
def fnLeastPeriodSpec : ChangeSpec := { name := "fnLeastPeriod", fn := fun _ => fun
  | [d] => { results := [.lit (.bool true)], args := [d] }
  | _ => none }
def fnLeastPeriodRow : OpenClaim := { program := "ytgmagocpacpafaa", sum := "c7db07c4df197c3ee09f139ee2c5dbae2c1e5b4113646fb9cba87a8c3ceb8bbe", func := "loop.example/spreadspectrum/laws.FnLeastPeriod", spec := "fnLeastPeriod", apart := false }
def FnLeastPeriodSaid : Prop := fnLeastPeriodRow.holds Try.pinned (OpenSpec.ofChange fnLeastPeriodSpec)

/-- ITS FALSE NEIGHBOUR: 'it returns false'. Refute it at one input. -/
def fnLeastPeriodWrong : ChangeSpec := { name := "fnLeastPeriod", fn := fun _ => fun
  | [d] => { results := [.lit (.bool false)], args := [d] }
  | _ => none }
def FnLeastPeriodWrongFalsely : Prop := fnLeastPeriodRow.holds Try.pinned (OpenSpec.ofChange fnLeastPeriodWrong)

/-- 'laws.FnAperiodic': WHATEVER THE INPUT: true; the input reads as it did. -/
def fnAperiodicSpec : ChangeSpec := { name := "fnAperiodic", fn := fun _ => fun
  | [d] => { results := [.lit (.bool true)], args := [d] }
  | _ => none }
def fnAperiodicRow : OpenClaim := { program := "ytgmagocpacpafaa", sum := "c7db07c4df197c3ee09f139ee2c5dbae2c1e5b4113646fb9cba87a8c3ceb8bbe", func := "loop.example/spreadspectrum/laws.FnAperiodic", spec := "fnAperiodic", apart := false }
def FnAperiodicSaid : Prop := fnAperiodicRow.holds Try.pinned (OpenSpec.ofChange fnAperiodicSpec)

/-- ITS FALSE NEIGHBOUR: 'it returns false'. Refute it at one input. -/
def fnAperiodicWrong : ChangeSpec := { name := "fnAperiodic", fn := fun _ => fun
  | [d] => { results := [.lit (.bool false)], args := [d] }
  | _ => none }
def FnAperiodicWrongFalsely : Prop := fnAperiodicRow.holds Try.pinned (OpenSpec.ofChange fnAperiodicWrong)

/-- 'laws.FnShiftBetween': WHATEVER THE INPUT: true; the input reads as it did. -/
def fnShiftBetweenSpec : ChangeSpec := { name := "fnShiftBetween", fn := fun _ => fun
  | [d] => { results := [.lit (.bool true)], args := [d] }
  | _ => none }
def fnShiftBetweenRow : OpenClaim := { program := "ytgmagocpacpafaa", sum := "c7db07c4df197c3ee09f139ee2c5dbae2c1e5b4113646fb9cba87a8c3ceb8bbe", func := "loop.example/spreadspectrum/laws.FnShiftBetween", spec := "fnShiftBetween", recurses := true, apart := false }
def FnShiftBetweenSaid : Prop := fnShiftBetweenRow.holds Try.pinned (OpenSpec.ofChange fnShiftBetweenSpec)

/-- ITS FALSE NEIGHBOUR: 'it returns false'. Refute it at one input. -/
def fnShiftBetweenWrong : ChangeSpec := { name := "fnShiftBetween", fn := fun _ => fun
  | [d] => { results := [.lit (.bool false)], args := [d] }
  | _ => none }
def FnShiftBetweenWrongFalsely : Prop := fnShiftBetweenRow.holds Try.pinned (OpenSpec.ofChange fnShiftBetweenWrong)

/- THE SECOND FORM. 'bulk': how many values and letters a reading holds, each counted each time it is reached (what is shared counts as often as it is met; a slice's spare places count too). A statement '..UptoSaid' is the law's where the arguments, and the package variables that the reading takes, are together of bulk at most 1048576: NARROWER than '..Said'. Prove '..Said' where nothing that the law and all that it calls make is longer than what came in: it says more and counts as full. Else prove '..UptoSaid'. A law counts once. -/
mutual
def uptoBulk {H : Type} : DataW H → Nat
  | .lit (.string bytes) => bytes.length + 1
  | .lit _ => 1
  | .nil => 1
  | .ptr d => uptoBulk d + 1
  | .slice elems spare => uptoBulkAll elems + uptoBulkAll spare + 1
  | .agg parts => uptoBulkAll parts + 1
  | .iface _ d => uptoBulk d + 1
  | .map entries => uptoBulkEntries entries + 1
  | .held _ => 1
def uptoBulkAll {H : Type} : List (DataW H) → Nat
  | [] => 0
  | d :: r => uptoBulk d + uptoBulkAll r
def uptoBulkEntries {H : Type} : List (Lit × DataW H) → Nat
  | [] => 0
  | x :: r => uptoBulkEntry x + uptoBulkEntries r
def uptoBulkEntry {H : Type} : Lit × DataW H → Nat
  | (.string bytes, d) => bytes.length + uptoBulk d + 1
  | (_, d) => uptoBulk d + 1
 end
def uptoSmall : (H : Type) → List (DataW H) → Bool := fun _ ds => decide (uptoBulkAll ds ≤ 1048576)
def OpenSpec.upto (s : _root_.Go.ChangeSpec) : _root_.Go.OpenSpec := { _root_.Go.OpenSpec.ofChange s with cond := some uptoSmall }

/-- 'laws.FnPeriod', WHERE WHAT IT READS IS OF BULK AT MOST 1048576: true; the input reads as it did. -/
def fnPeriodUptoRow : OpenClaim := { program := "ytgmagocpacpafaa", sum := "c7db07c4df197c3ee09f139ee2c5dbae2c1e5b4113646fb9cba87a8c3ceb8bbe", func := "loop.example/spreadspectrum/laws.FnPeriod", spec := "fnPeriod", apart := false, narrowed := true }
def FnPeriodUptoSaid : Prop := fnPeriodUptoRow.holds Try.pinned (OpenSpec.upto fnPeriodSpec)

/-- 'laws.FnRegisterFrom', WHERE WHAT IT READS IS OF BULK AT MOST 1048576: true; the input reads as it did. -/
def fnRegisterFromUptoRow : OpenClaim := { program := "ytgmagocpacpafaa", sum := "c7db07c4df197c3ee09f139ee2c5dbae2c1e5b4113646fb9cba87a8c3ceb8bbe", func := "loop.example/spreadspectrum/laws.FnRegisterFrom", spec := "fnRegisterFrom", apart := false, narrowed := true }
def FnRegisterFromUptoSaid : Prop := fnRegisterFromUptoRow.holds Try.pinned (OpenSpec.upto fnRegisterFromSpec)

/-- 'laws.FnReverse', WHERE WHAT IT READS IS OF BULK AT MOST 1048576: true; the input reads as it did. -/
def fnReverseUptoRow : OpenClaim := { program := "ytgmagocpacpafaa", sum := "c7db07c4df197c3ee09f139ee2c5dbae2c1e5b4113646fb9cba87a8c3ceb8bbe", func := "loop.example/spreadspectrum/laws.FnReverse", spec := "fnReverse", apart := false, narrowed := true }
def FnReverseUptoSaid : Prop := fnReverseUptoRow.holds Try.pinned (OpenSpec.upto fnReverseSpec)

/-- 'laws.FnPredict', WHERE WHAT IT READS IS OF BULK AT MOST 1048576: true; the input reads as it did. -/
def fnPredictUptoRow : OpenClaim := { program := "ytgmagocpacpafaa", sum := "c7db07c4df197c3ee09f139ee2c5dbae2c1e5b4113646fb9cba87a8c3ceb8bbe", func := "loop.example/spreadspectrum/laws.FnPredict", spec := "fnPredict", apart := false, narrowed := true }
def FnPredictUptoSaid : Prop := fnPredictUptoRow.holds Try.pinned (OpenSpec.upto fnPredictSpec)

/-- 'laws.FnMaximalBits', WHERE WHAT IT READS IS OF BULK AT MOST 1048576: true; the input reads as it did. -/
def fnMaximalBitsUptoRow : OpenClaim := { program := "ytgmagocpacpafaa", sum := "c7db07c4df197c3ee09f139ee2c5dbae2c1e5b4113646fb9cba87a8c3ceb8bbe", func := "loop.example/spreadspectrum/laws.FnMaximalBits", spec := "fnMaximalBits", apart := false, narrowed := true }
def FnMaximalBitsUptoSaid : Prop := fnMaximalBitsUptoRow.holds Try.pinned (OpenSpec.upto fnMaximalBitsSpec)

/-- 'laws.FnShortest', WHERE WHAT IT READS IS OF BULK AT MOST 1048576: true; the input reads as it did. -/
def fnShortestUptoRow : OpenClaim := { program := "ytgmagocpacpafaa", sum := "c7db07c4df197c3ee09f139ee2c5dbae2c1e5b4113646fb9cba87a8c3ceb8bbe", func := "loop.example/spreadspectrum/laws.FnShortest", spec := "fnShortest", apart := false, narrowed := true }
def FnShortestUptoSaid : Prop := fnShortestUptoRow.holds Try.pinned (OpenSpec.upto fnShortestSpec)

/-- 'laws.FnDecimate', WHERE WHAT IT READS IS OF BULK AT MOST 1048576: true; the input reads as it did. -/
def fnDecimateUptoRow : OpenClaim := { program := "ytgmagocpacpafaa", sum := "c7db07c4df197c3ee09f139ee2c5dbae2c1e5b4113646fb9cba87a8c3ceb8bbe", func := "loop.example/spreadspectrum/laws.FnDecimate", spec := "fnDecimate", apart := false, narrowed := true }
def FnDecimateUptoSaid : Prop := fnDecimateUptoRow.holds Try.pinned (OpenSpec.upto fnDecimateSpec)

/-- 'laws.FnShift', WHERE WHAT IT READS IS OF BULK AT MOST 1048576: true; the input reads as it did. -/
def fnShiftUptoRow : OpenClaim := { program := "ytgmagocpacpafaa", sum := "c7db07c4df197c3ee09f139ee2c5dbae2c1e5b4113646fb9cba87a8c3ceb8bbe", func := "loop.example/spreadspectrum/laws.FnShift", spec := "fnShift", apart := false, narrowed := true }
def FnShiftUptoSaid : Prop := fnShiftUptoRow.holds Try.pinned (OpenSpec.upto fnShiftSpec)

/-- 'laws.FnRotation', WHERE WHAT IT READS IS OF BULK AT MOST 1048576: true; the input reads as it did. -/
def fnRotationUptoRow : OpenClaim := { program := "ytgmagocpacpafaa", sum := "c7db07c4df197c3ee09f139ee2c5dbae2c1e5b4113646fb9cba87a8c3ceb8bbe", func := "loop.example/spreadspectrum/laws.FnRotation", spec := "fnRotation", apart := false, narrowed := true }
def FnRotationUptoSaid : Prop := fnRotationUptoRow.holds Try.pinned (OpenSpec.upto fnRotationSpec)

/-- 'laws.FnLeastPeriod', WHERE WHAT IT READS IS OF BULK AT MOST 1048576: true; the input reads as it did. -/
def fnLeastPeriodUptoRow : OpenClaim := { program := "ytgmagocpacpafaa", sum := "c7db07c4df197c3ee09f139ee2c5dbae2c1e5b4113646fb9cba87a8c3ceb8bbe", func := "loop.example/spreadspectrum/laws.FnLeastPeriod", spec := "fnLeastPeriod", apart := false, narrowed := true }
def FnLeastPeriodUptoSaid : Prop := fnLeastPeriodUptoRow.holds Try.pinned (OpenSpec.upto fnLeastPeriodSpec)

/-- 'laws.FnAperiodic', WHERE WHAT IT READS IS OF BULK AT MOST 1048576: true; the input reads as it did. -/
def fnAperiodicUptoRow : OpenClaim := { program := "ytgmagocpacpafaa", sum := "c7db07c4df197c3ee09f139ee2c5dbae2c1e5b4113646fb9cba87a8c3ceb8bbe", func := "loop.example/spreadspectrum/laws.FnAperiodic", spec := "fnAperiodic", apart := false, narrowed := true }
def FnAperiodicUptoSaid : Prop := fnAperiodicUptoRow.holds Try.pinned (OpenSpec.upto fnAperiodicSpec)

/-- 'laws.FnShiftBetween', WHERE WHAT IT READS IS OF BULK AT MOST 1048576: true; the input reads as it did. -/
def fnShiftBetweenUptoRow : OpenClaim := { program := "ytgmagocpacpafaa", sum := "c7db07c4df197c3ee09f139ee2c5dbae2c1e5b4113646fb9cba87a8c3ceb8bbe", func := "loop.example/spreadspectrum/laws.FnShiftBetween", spec := "fnShiftBetween", recurses := true, apart := false, narrowed := true }
def FnShiftBetweenUptoSaid : Prop := fnShiftBetweenUptoRow.holds Try.pinned (OpenSpec.upto fnShiftBetweenSpec)

end Rows
end Go.Proofs.Ytgmagocpacpafaa
