/-
  No cell of these rows narrows 'for every input' (looked for: loops, veiled, ifaces, maps, wideKeys, modest, calm, conditions, laid).
  DERIVED. THE GIVEN ROWS OF THIS SEAT. 12 by the template 'for every input the law returns true; each argument reads behind the call as it read before'; 0 by the template 'total and deterministic' (their statements: YtibnlaphkmnhfaaTotals.lean).
  GIVEN WITH THE SEED: the statements are not yours to turn. If you find one false, say at which input.
  Laid BY PROGRAM, IN A SANDBOX (cutbox-rows.mjs): the forced cells as the released guide's own fill.sh prints them over the translation a9876d9a5576f1c3… (all of the seat's roots in one cut). By AI agents, Wed Nov 11 2026. No macro, syntax, notation, axiom, sorry.
-/
import Derived.Test.YtibnlaphkmnhfaaChecked
import GoSem.Claim
import GoSem.ClaimJoined
import GoSem.ClaimMapViews
import Derived.JoinedTies
import Derived.KernelRfl
namespace Go.Proofs.Ytibnlaphkmnhfaa
/- THE CELL 'sum', in the pinned program and in every row, IS THE sha256 OF THE DUMP (.gsa) THAT YtibnlaphkmnhfaaProg.lean LOADS. Nothing in Lean hashes anything: it is a label: what it is worth is what the hold of that sum in a sandbox is worth. -/
noncomputable def Try.pinned : Pinned := { name := "ytibnlaphkmnhfaa", sum := "a9876d9a5576f1c30d92cc92b12539dada145b3a4c1f73dafe72a23fc7a4b458", checked := Try.checked }
namespace Rows
def none {H : Type} : Left H := { results := [], args := [] }

/-- 'laws.FnAddBits': WHATEVER THE INPUT: true; the input reads as it did. -/
def fnAddBitsSpec : ChangeSpec := { name := "fnAddBits", fn := fun _ => fun
  | [d1, d2] => { results := [.lit (.bool true)], args := [d1, d2] }
  | _ => none }
def fnAddBitsRow : OpenClaim := { program := "ytibnlaphkmnhfaa", sum := "a9876d9a5576f1c30d92cc92b12539dada145b3a4c1f73dafe72a23fc7a4b458", func := "loop.example/spreadspectrum/laws.FnAddBits", spec := "fnAddBits", recurses := true, apart := false }
def FnAddBitsSaid : Prop := fnAddBitsRow.holds Try.pinned (OpenSpec.ofChange fnAddBitsSpec)

/-- ITS FALSE NEIGHBOUR: 'it returns false'. Refute it at one input. -/
def fnAddBitsWrong : ChangeSpec := { name := "fnAddBits", fn := fun _ => fun
  | [d1, d2] => { results := [.lit (.bool false)], args := [d1, d2] }
  | _ => none }
def FnAddBitsWrongFalsely : Prop := fnAddBitsRow.holds Try.pinned (OpenSpec.ofChange fnAddBitsWrong)

/-- 'laws.FnCrossTurned': WHATEVER THE INPUT: true; the input reads as it did. -/
def fnCrossTurnedSpec : ChangeSpec := { name := "fnCrossTurned", fn := fun _ => fun
  | [d1, d2] => { results := [.lit (.bool true)], args := [d1, d2] }
  | _ => none }
def fnCrossTurnedRow : OpenClaim := { program := "ytibnlaphkmnhfaa", sum := "a9876d9a5576f1c30d92cc92b12539dada145b3a4c1f73dafe72a23fc7a4b458", func := "loop.example/spreadspectrum/laws.FnCrossTurned", spec := "fnCrossTurned", recurses := true, apart := false }
def FnCrossTurnedSaid : Prop := fnCrossTurnedRow.holds Try.pinned (OpenSpec.ofChange fnCrossTurnedSpec)

/-- ITS FALSE NEIGHBOUR: 'it returns false'. Refute it at one input. -/
def fnCrossTurnedWrong : ChangeSpec := { name := "fnCrossTurned", fn := fun _ => fun
  | [d1, d2] => { results := [.lit (.bool false)], args := [d1, d2] }
  | _ => none }
def FnCrossTurnedWrongFalsely : Prop := fnCrossTurnedRow.holds Try.pinned (OpenSpec.ofChange fnCrossTurnedWrong)

/-- 'laws.FnCrossTable': WHATEVER THE INPUT: true; the input reads as it did. -/
def fnCrossTableSpec : ChangeSpec := { name := "fnCrossTable", fn := fun _ => fun
  | [d] => { results := [.lit (.bool true)], args := [d] }
  | _ => none }
def fnCrossTableRow : OpenClaim := { program := "ytibnlaphkmnhfaa", sum := "a9876d9a5576f1c30d92cc92b12539dada145b3a4c1f73dafe72a23fc7a4b458", func := "loop.example/spreadspectrum/laws.FnCrossTable", spec := "fnCrossTable", recurses := true, apart := false }
def FnCrossTableSaid : Prop := fnCrossTableRow.holds Try.pinned (OpenSpec.ofChange fnCrossTableSpec)

/-- ITS FALSE NEIGHBOUR: 'it returns false'. Refute it at one input. -/
def fnCrossTableWrong : ChangeSpec := { name := "fnCrossTable", fn := fun _ => fun
  | [d] => { results := [.lit (.bool false)], args := [d] }
  | _ => none }
def FnCrossTableWrongFalsely : Prop := fnCrossTableRow.holds Try.pinned (OpenSpec.ofChange fnCrossTableWrong)

/-- 'laws.FnPeak': WHATEVER THE INPUT: true; the input reads as it did. -/
def fnPeakSpec : ChangeSpec := { name := "fnPeak", fn := fun _ => fun
  | [d1, d2] => { results := [.lit (.bool true)], args := [d1, d2] }
  | _ => none }
def fnPeakRow : OpenClaim := { program := "ytibnlaphkmnhfaa", sum := "a9876d9a5576f1c30d92cc92b12539dada145b3a4c1f73dafe72a23fc7a4b458", func := "loop.example/spreadspectrum/laws.FnPeak", spec := "fnPeak", recurses := true, apart := false }
def FnPeakSaid : Prop := fnPeakRow.holds Try.pinned (OpenSpec.ofChange fnPeakSpec)

/-- ITS FALSE NEIGHBOUR: 'it returns false'. Refute it at one input. -/
def fnPeakWrong : ChangeSpec := { name := "fnPeak", fn := fun _ => fun
  | [d1, d2] => { results := [.lit (.bool false)], args := [d1, d2] }
  | _ => none }
def FnPeakWrongFalsely : Prop := fnPeakRow.holds Try.pinned (OpenSpec.ofChange fnPeakWrong)

/-- 'laws.FnBalance': WHATEVER THE INPUT: true; the input reads as it did. -/
def fnBalanceSpec : ChangeSpec := { name := "fnBalance", fn := fun _ => fun
  | [d] => { results := [.lit (.bool true)], args := [d] }
  | _ => none }
def fnBalanceRow : OpenClaim := { program := "ytibnlaphkmnhfaa", sum := "a9876d9a5576f1c30d92cc92b12539dada145b3a4c1f73dafe72a23fc7a4b458", func := "loop.example/spreadspectrum/laws.FnBalance", spec := "fnBalance", recurses := true, apart := false }
def FnBalanceSaid : Prop := fnBalanceRow.holds Try.pinned (OpenSpec.ofChange fnBalanceSpec)

/-- ITS FALSE NEIGHBOUR: 'it returns false'. Refute it at one input. -/
def fnBalanceWrong : ChangeSpec := { name := "fnBalance", fn := fun _ => fun
  | [d] => { results := [.lit (.bool false)], args := [d] }
  | _ => none }
def FnBalanceWrongFalsely : Prop := fnBalanceRow.holds Try.pinned (OpenSpec.ofChange fnBalanceWrong)

/-- 'laws.FnExactRunLengths': WHATEVER THE INPUT: true; the input reads as it did. -/
def fnExactRunLengthsSpec : ChangeSpec := { name := "fnExactRunLengths", fn := fun _ => fun
  | [d] => { results := [.lit (.bool true)], args := [d] }
  | _ => none }
def fnExactRunLengthsRow : OpenClaim := { program := "ytibnlaphkmnhfaa", sum := "a9876d9a5576f1c30d92cc92b12539dada145b3a4c1f73dafe72a23fc7a4b458", func := "loop.example/spreadspectrum/laws.FnExactRunLengths", spec := "fnExactRunLengths", recurses := true, apart := false }
def FnExactRunLengthsSaid : Prop := fnExactRunLengthsRow.holds Try.pinned (OpenSpec.ofChange fnExactRunLengthsSpec)

/-- ITS FALSE NEIGHBOUR: 'it returns false'. Refute it at one input. -/
def fnExactRunLengthsWrong : ChangeSpec := { name := "fnExactRunLengths", fn := fun _ => fun
  | [d] => { results := [.lit (.bool false)], args := [d] }
  | _ => none }
def FnExactRunLengthsWrongFalsely : Prop := fnExactRunLengthsRow.holds Try.pinned (OpenSpec.ofChange fnExactRunLengthsWrong)

/-- 'laws.FnExactCrossValues': WHATEVER THE INPUT: true; the input reads as it did. -/
def fnExactCrossValuesSpec : ChangeSpec := { name := "fnExactCrossValues", fn := fun _ => fun
  | [d1, d2] => { results := [.lit (.bool true)], args := [d1, d2] }
  | _ => none }
def fnExactCrossValuesRow : OpenClaim := { program := "ytibnlaphkmnhfaa", sum := "a9876d9a5576f1c30d92cc92b12539dada145b3a4c1f73dafe72a23fc7a4b458", func := "loop.example/spreadspectrum/laws.FnExactCrossValues", spec := "fnExactCrossValues", recurses := true, apart := false }
def FnExactCrossValuesSaid : Prop := fnExactCrossValuesRow.holds Try.pinned (OpenSpec.ofChange fnExactCrossValuesSpec)

/-- ITS FALSE NEIGHBOUR: 'it returns false'. Refute it at one input. -/
def fnExactCrossValuesWrong : ChangeSpec := { name := "fnExactCrossValues", fn := fun _ => fun
  | [d1, d2] => { results := [.lit (.bool false)], args := [d1, d2] }
  | _ => none }
def FnExactCrossValuesWrongFalsely : Prop := fnExactCrossValuesRow.holds Try.pinned (OpenSpec.ofChange fnExactCrossValuesWrong)

/-- 'laws.FnExactCycleLengths': WHATEVER THE INPUT: true; the input reads as it did. -/
def fnExactCycleLengthsSpec : ChangeSpec := { name := "fnExactCycleLengths", fn := fun _ => fun
  | [d1, d2] => { results := [.lit (.bool true)], args := [d1, d2] }
  | _ => none }
def fnExactCycleLengthsRow : OpenClaim := { program := "ytibnlaphkmnhfaa", sum := "a9876d9a5576f1c30d92cc92b12539dada145b3a4c1f73dafe72a23fc7a4b458", func := "loop.example/spreadspectrum/laws.FnExactCycleLengths", spec := "fnExactCycleLengths", recurses := true, apart := false }
def FnExactCycleLengthsSaid : Prop := fnExactCycleLengthsRow.holds Try.pinned (OpenSpec.ofChange fnExactCycleLengthsSpec)

/-- ITS FALSE NEIGHBOUR: 'it returns false'. Refute it at one input. -/
def fnExactCycleLengthsWrong : ChangeSpec := { name := "fnExactCycleLengths", fn := fun _ => fun
  | [d1, d2] => { results := [.lit (.bool false)], args := [d1, d2] }
  | _ => none }
def FnExactCycleLengthsWrongFalsely : Prop := fnExactCycleLengthsRow.holds Try.pinned (OpenSpec.ofChange fnExactCycleLengthsWrong)

/-- 'laws.FnMaximal': WHATEVER THE INPUT: true; the input reads as it did. -/
def fnMaximalSpec : ChangeSpec := { name := "fnMaximal", fn := fun _ => fun
  | [d] => { results := [.lit (.bool true)], args := [d] }
  | _ => none }
def fnMaximalRow : OpenClaim := { program := "ytibnlaphkmnhfaa", sum := "a9876d9a5576f1c30d92cc92b12539dada145b3a4c1f73dafe72a23fc7a4b458", func := "loop.example/spreadspectrum/laws.FnMaximal", spec := "fnMaximal", recurses := true, apart := false }
def FnMaximalSaid : Prop := fnMaximalRow.holds Try.pinned (OpenSpec.ofChange fnMaximalSpec)

/-- ITS FALSE NEIGHBOUR: 'it returns false'. Refute it at one input. -/
def fnMaximalWrong : ChangeSpec := { name := "fnMaximal", fn := fun _ => fun
  | [d] => { results := [.lit (.bool false)], args := [d] }
  | _ => none }
def FnMaximalWrongFalsely : Prop := fnMaximalRow.holds Try.pinned (OpenSpec.ofChange fnMaximalWrong)

/-- 'laws.FnCycles': WHATEVER THE INPUT: true; the input reads as it did. -/
def fnCyclesSpec : ChangeSpec := { name := "fnCycles", fn := fun _ => fun
  | [d] => { results := [.lit (.bool true)], args := [d] }
  | _ => none }
def fnCyclesRow : OpenClaim := { program := "ytibnlaphkmnhfaa", sum := "a9876d9a5576f1c30d92cc92b12539dada145b3a4c1f73dafe72a23fc7a4b458", func := "loop.example/spreadspectrum/laws.FnCycles", spec := "fnCycles", recurses := true, apart := false }
def FnCyclesSaid : Prop := fnCyclesRow.holds Try.pinned (OpenSpec.ofChange fnCyclesSpec)

/-- ITS FALSE NEIGHBOUR: 'it returns false'. Refute it at one input. -/
def fnCyclesWrong : ChangeSpec := { name := "fnCycles", fn := fun _ => fun
  | [d] => { results := [.lit (.bool false)], args := [d] }
  | _ => none }
def FnCyclesWrongFalsely : Prop := fnCyclesRow.holds Try.pinned (OpenSpec.ofChange fnCyclesWrong)

/-- 'laws.FnReverseBits': WHATEVER THE INPUT: true; the input reads as it did. -/
def fnReverseBitsSpec : ChangeSpec := { name := "fnReverseBits", fn := fun _ => fun
  | [d1, d2] => { results := [.lit (.bool true)], args := [d1, d2] }
  | _ => none }
def fnReverseBitsRow : OpenClaim := { program := "ytibnlaphkmnhfaa", sum := "a9876d9a5576f1c30d92cc92b12539dada145b3a4c1f73dafe72a23fc7a4b458", func := "loop.example/spreadspectrum/laws.FnReverseBits", spec := "fnReverseBits", recurses := true, apart := false }
def FnReverseBitsSaid : Prop := fnReverseBitsRow.holds Try.pinned (OpenSpec.ofChange fnReverseBitsSpec)

/-- ITS FALSE NEIGHBOUR: 'it returns false'. Refute it at one input. -/
def fnReverseBitsWrong : ChangeSpec := { name := "fnReverseBits", fn := fun _ => fun
  | [d1, d2] => { results := [.lit (.bool false)], args := [d1, d2] }
  | _ => none }
def FnReverseBitsWrongFalsely : Prop := fnReverseBitsRow.holds Try.pinned (OpenSpec.ofChange fnReverseBitsWrong)

/-- 'laws.FnMaximalSequence': WHATEVER THE INPUT: true; the input reads as it did. -/
def fnMaximalSequenceSpec : ChangeSpec := { name := "fnMaximalSequence", fn := fun _ => fun
  | [d1, d2] => { results := [.lit (.bool true)], args := [d1, d2] }
  | _ => none }
def fnMaximalSequenceRow : OpenClaim := { program := "ytibnlaphkmnhfaa", sum := "a9876d9a5576f1c30d92cc92b12539dada145b3a4c1f73dafe72a23fc7a4b458", func := "loop.example/spreadspectrum/laws.FnMaximalSequence", spec := "fnMaximalSequence", recurses := true, apart := false }
def FnMaximalSequenceSaid : Prop := fnMaximalSequenceRow.holds Try.pinned (OpenSpec.ofChange fnMaximalSequenceSpec)

/-- ITS FALSE NEIGHBOUR: 'it returns false'. Refute it at one input. -/
def fnMaximalSequenceWrong : ChangeSpec := { name := "fnMaximalSequence", fn := fun _ => fun
  | [d1, d2] => { results := [.lit (.bool false)], args := [d1, d2] }
  | _ => none }
def FnMaximalSequenceWrongFalsely : Prop := fnMaximalSequenceRow.holds Try.pinned (OpenSpec.ofChange fnMaximalSequenceWrong)

/- THE SECOND FORM. 'bulk': how many values and letters a reading holds, each counted each time it is reached (what is shared counts as often as it is met; a slice's spare places count too). A statement '..UptoSaid' is the law's where the arguments, and the package variables that the reading takes, are together of bulk at most 1048576: NARROWER than '..Said'. Prove '..Said' where nothing that the law and all that it calls make is longer than what came in: it says more and counts as full. Else prove '..UptoSaid'. A law counts once. -/
mutual
def uptoBulk {H : Type} : DataW H → Nat
  | .lit (.string bytes) => bytes.length + 1
  | .lit _ => 1
  | .nil => 1
  | .ptr d => uptoBulk d + 1
  | .slice elems spare => uptoBulkAll elems + uptoBulkAll spare + 1
  | .agg parts => uptoBulkAll parts + 1
  | .iface _ d => uptoBulk d + 1
  | .map entries => uptoBulkEntries entries + 1
  | .held _ => 1
def uptoBulkAll {H : Type} : List (DataW H) → Nat
  | [] => 0
  | d :: r => uptoBulk d + uptoBulkAll r
def uptoBulkEntries {H : Type} : List (Lit × DataW H) → Nat
  | [] => 0
  | x :: r => uptoBulkEntry x + uptoBulkEntries r
def uptoBulkEntry {H : Type} : Lit × DataW H → Nat
  | (.string bytes, d) => bytes.length + uptoBulk d + 1
  | (_, d) => uptoBulk d + 1
 end
def uptoSmall : (H : Type) → List (DataW H) → Bool := fun _ ds => decide (uptoBulkAll ds ≤ 1048576)
def OpenSpec.upto (s : _root_.Go.ChangeSpec) : _root_.Go.OpenSpec := { _root_.Go.OpenSpec.ofChange s with cond := some uptoSmall }

/-- 'laws.FnAddBits', WHERE WHAT IT READS IS OF BULK AT MOST 1048576: true; the input reads as it did. -/
def fnAddBitsUptoRow : OpenClaim := { program := "ytibnlaphkmnhfaa", sum := "a9876d9a5576f1c30d92cc92b12539dada145b3a4c1f73dafe72a23fc7a4b458", func := "loop.example/spreadspectrum/laws.FnAddBits", spec := "fnAddBits", recurses := true, apart := false, narrowed := true }
def FnAddBitsUptoSaid : Prop := fnAddBitsUptoRow.holds Try.pinned (OpenSpec.upto fnAddBitsSpec)

/-- 'laws.FnCrossTurned', WHERE WHAT IT READS IS OF BULK AT MOST 1048576: true; the input reads as it did. -/
def fnCrossTurnedUptoRow : OpenClaim := { program := "ytibnlaphkmnhfaa", sum := "a9876d9a5576f1c30d92cc92b12539dada145b3a4c1f73dafe72a23fc7a4b458", func := "loop.example/spreadspectrum/laws.FnCrossTurned", spec := "fnCrossTurned", recurses := true, apart := false, narrowed := true }
def FnCrossTurnedUptoSaid : Prop := fnCrossTurnedUptoRow.holds Try.pinned (OpenSpec.upto fnCrossTurnedSpec)

/-- 'laws.FnCrossTable', WHERE WHAT IT READS IS OF BULK AT MOST 1048576: true; the input reads as it did. -/
def fnCrossTableUptoRow : OpenClaim := { program := "ytibnlaphkmnhfaa", sum := "a9876d9a5576f1c30d92cc92b12539dada145b3a4c1f73dafe72a23fc7a4b458", func := "loop.example/spreadspectrum/laws.FnCrossTable", spec := "fnCrossTable", recurses := true, apart := false, narrowed := true }
def FnCrossTableUptoSaid : Prop := fnCrossTableUptoRow.holds Try.pinned (OpenSpec.upto fnCrossTableSpec)

/-- 'laws.FnPeak', WHERE WHAT IT READS IS OF BULK AT MOST 1048576: true; the input reads as it did. -/
def fnPeakUptoRow : OpenClaim := { program := "ytibnlaphkmnhfaa", sum := "a9876d9a5576f1c30d92cc92b12539dada145b3a4c1f73dafe72a23fc7a4b458", func := "loop.example/spreadspectrum/laws.FnPeak", spec := "fnPeak", recurses := true, apart := false, narrowed := true }
def FnPeakUptoSaid : Prop := fnPeakUptoRow.holds Try.pinned (OpenSpec.upto fnPeakSpec)

/-- 'laws.FnBalance', WHERE WHAT IT READS IS OF BULK AT MOST 1048576: true; the input reads as it did. -/
def fnBalanceUptoRow : OpenClaim := { program := "ytibnlaphkmnhfaa", sum := "a9876d9a5576f1c30d92cc92b12539dada145b3a4c1f73dafe72a23fc7a4b458", func := "loop.example/spreadspectrum/laws.FnBalance", spec := "fnBalance", recurses := true, apart := false, narrowed := true }
def FnBalanceUptoSaid : Prop := fnBalanceUptoRow.holds Try.pinned (OpenSpec.upto fnBalanceSpec)

/-- 'laws.FnExactRunLengths', WHERE WHAT IT READS IS OF BULK AT MOST 1048576: true; the input reads as it did. -/
def fnExactRunLengthsUptoRow : OpenClaim := { program := "ytibnlaphkmnhfaa", sum := "a9876d9a5576f1c30d92cc92b12539dada145b3a4c1f73dafe72a23fc7a4b458", func := "loop.example/spreadspectrum/laws.FnExactRunLengths", spec := "fnExactRunLengths", recurses := true, apart := false, narrowed := true }
def FnExactRunLengthsUptoSaid : Prop := fnExactRunLengthsUptoRow.holds Try.pinned (OpenSpec.upto fnExactRunLengthsSpec)

/-- 'laws.FnExactCrossValues', WHERE WHAT IT READS IS OF BULK AT MOST 1048576: true; the input reads as it did. -/
def fnExactCrossValuesUptoRow : OpenClaim := { program := "ytibnlaphkmnhfaa", sum := "a9876d9a5576f1c30d92cc92b12539dada145b3a4c1f73dafe72a23fc7a4b458", func := "loop.example/spreadspectrum/laws.FnExactCrossValues", spec := "fnExactCrossValues", recurses := true, apart := false, narrowed := true }
def FnExactCrossValuesUptoSaid : Prop := fnExactCrossValuesUptoRow.holds Try.pinned (OpenSpec.upto fnExactCrossValuesSpec)

/-- 'laws.FnExactCycleLengths', WHERE WHAT IT READS IS OF BULK AT MOST 1048576: true; the input reads as it did. -/
def fnExactCycleLengthsUptoRow : OpenClaim := { program := "ytibnlaphkmnhfaa", sum := "a9876d9a5576f1c30d92cc92b12539dada145b3a4c1f73dafe72a23fc7a4b458", func := "loop.example/spreadspectrum/laws.FnExactCycleLengths", spec := "fnExactCycleLengths", recurses := true, apart := false, narrowed := true }
def FnExactCycleLengthsUptoSaid : Prop := fnExactCycleLengthsUptoRow.holds Try.pinned (OpenSpec.upto fnExactCycleLengthsSpec)

/-- 'laws.FnMaximal', WHERE WHAT IT READS IS OF BULK AT MOST 1048576: true; the input reads as it did. -/
def fnMaximalUptoRow : OpenClaim := { program := "ytibnlaphkmnhfaa", sum := "a9876d9a5576f1c30d92cc92b12539dada145b3a4c1f73dafe72a23fc7a4b458", func := "loop.example/spreadspectrum/laws.FnMaximal", spec := "fnMaximal", recurses := true, apart := false, narrowed := true }
def FnMaximalUptoSaid : Prop := fnMaximalUptoRow.holds Try.pinned (OpenSpec.upto fnMaximalSpec)

/-- 'laws.FnCycles', WHERE WHAT IT READS IS OF BULK AT MOST 1048576: true; the input reads as it did. -/
def fnCyclesUptoRow : OpenClaim := { program := "ytibnlaphkmnhfaa", sum := "a9876d9a5576f1c30d92cc92b12539dada145b3a4c1f73dafe72a23fc7a4b458", func := "loop.example/spreadspectrum/laws.FnCycles", spec := "fnCycles", recurses := true, apart := false, narrowed := true }
def FnCyclesUptoSaid : Prop := fnCyclesUptoRow.holds Try.pinned (OpenSpec.upto fnCyclesSpec)

/-- 'laws.FnReverseBits', WHERE WHAT IT READS IS OF BULK AT MOST 1048576: true; the input reads as it did. -/
def fnReverseBitsUptoRow : OpenClaim := { program := "ytibnlaphkmnhfaa", sum := "a9876d9a5576f1c30d92cc92b12539dada145b3a4c1f73dafe72a23fc7a4b458", func := "loop.example/spreadspectrum/laws.FnReverseBits", spec := "fnReverseBits", recurses := true, apart := false, narrowed := true }
def FnReverseBitsUptoSaid : Prop := fnReverseBitsUptoRow.holds Try.pinned (OpenSpec.upto fnReverseBitsSpec)

/-- 'laws.FnMaximalSequence', WHERE WHAT IT READS IS OF BULK AT MOST 1048576: true; the input reads as it did. -/
def fnMaximalSequenceUptoRow : OpenClaim := { program := "ytibnlaphkmnhfaa", sum := "a9876d9a5576f1c30d92cc92b12539dada145b3a4c1f73dafe72a23fc7a4b458", func := "loop.example/spreadspectrum/laws.FnMaximalSequence", spec := "fnMaximalSequence", recurses := true, apart := false, narrowed := true }
def FnMaximalSequenceUptoSaid : Prop := fnMaximalSequenceUptoRow.holds Try.pinned (OpenSpec.upto fnMaximalSequenceSpec)

end Rows
end Go.Proofs.Ytibnlaphkmnhfaa
