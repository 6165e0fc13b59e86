/-
  No cell of these rows narrows 'for every input' (looked for: loops, veiled, ifaces, maps, wideKeys, modest, calm, conditions, laid).
  DERIVED. THE GIVEN ROWS OF THIS SEAT. 12 by the template 'for every input the law returns true; each argument reads behind the call as it read before'; 0 by the template 'total and deterministic' (their statements: YtlmnipjlngdmhaaTotals.lean).
  GIVEN WITH THE SEED: the statements are not yours to turn. If you find one false, say at which input.
  Laid BY PROGRAM, IN A SANDBOX (cutbox-rows.mjs): the forced cells as the released guide's own fill.sh prints them over the translation 6812c52b6a37635a… (all of the seat's roots in one cut). By AI agents, Wed Nov 11 2026. No macro, syntax, notation, axiom, sorry.
-/
import Derived.Test.YtlmnipjlngdmhaaChecked
import GoSem.Claim
import GoSem.ClaimJoined
import GoSem.ClaimMapViews
import Derived.JoinedTies
import Derived.KernelRfl
namespace Go.Proofs.Ytlmnipjlngdmhaa
/- THE CELL 'sum', in the pinned program and in every row, IS THE sha256 OF THE DUMP (.gsa) THAT YtlmnipjlngdmhaaProg.lean LOADS. Nothing in Lean hashes anything: it is a label: what it is worth is what the hold of that sum in a sandbox is worth. -/
noncomputable def Try.pinned : Pinned := { name := "ytlmnipjlngdmhaa", sum := "6812c52b6a37635a471a7c4150f133e80a673fe68aad24c841501f1557de9150", checked := Try.checked }
namespace Rows
def none {H : Type} : Left H := { results := [], args := [] }

/-- 'laws.FnExactSequenceValid': WHATEVER THE INPUT: true; the input reads as it did. -/
def fnExactSequenceValidSpec : ChangeSpec := { name := "fnExactSequenceValid", fn := fun _ => fun
  | [d] => { results := [.lit (.bool true)], args := [d] }
  | _ => none }
def fnExactSequenceValidRow : OpenClaim := { program := "ytlmnipjlngdmhaa", sum := "6812c52b6a37635a471a7c4150f133e80a673fe68aad24c841501f1557de9150", func := "loop.example/spreadspectrum/laws.FnExactSequenceValid", spec := "fnExactSequenceValid", apart := false }
def FnExactSequenceValidSaid : Prop := fnExactSequenceValidRow.holds Try.pinned (OpenSpec.ofChange fnExactSequenceValidSpec)

/-- ITS FALSE NEIGHBOUR: 'it returns false'. Refute it at one input. -/
def fnExactSequenceValidWrong : ChangeSpec := { name := "fnExactSequenceValid", fn := fun _ => fun
  | [d] => { results := [.lit (.bool false)], args := [d] }
  | _ => none }
def FnExactSequenceValidWrongFalsely : Prop := fnExactSequenceValidRow.holds Try.pinned (OpenSpec.ofChange fnExactSequenceValidWrong)

/-- 'laws.FnExactDecimateBits': WHATEVER THE INPUT: true; the input reads as it did. -/
def fnExactDecimateBitsSpec : ChangeSpec := { name := "fnExactDecimateBits", fn := fun _ => fun
  | [d1, d2] => { results := [.lit (.bool true)], args := [d1, d2] }
  | _ => none }
def fnExactDecimateBitsRow : OpenClaim := { program := "ytlmnipjlngdmhaa", sum := "6812c52b6a37635a471a7c4150f133e80a673fe68aad24c841501f1557de9150", func := "loop.example/spreadspectrum/laws.FnExactDecimateBits", spec := "fnExactDecimateBits", apart := false }
def FnExactDecimateBitsSaid : Prop := fnExactDecimateBitsRow.holds Try.pinned (OpenSpec.ofChange fnExactDecimateBitsSpec)

/-- ITS FALSE NEIGHBOUR: 'it returns false'. Refute it at one input. -/
def fnExactDecimateBitsWrong : ChangeSpec := { name := "fnExactDecimateBits", fn := fun _ => fun
  | [d1, d2] => { results := [.lit (.bool false)], args := [d1, d2] }
  | _ => none }
def FnExactDecimateBitsWrongFalsely : Prop := fnExactDecimateBitsRow.holds Try.pinned (OpenSpec.ofChange fnExactDecimateBitsWrong)

/-- 'laws.FnExactReverseBits': WHATEVER THE INPUT: true; the input reads as it did. -/
def fnExactReverseBitsSpec : ChangeSpec := { name := "fnExactReverseBits", fn := fun _ => fun
  | [d] => { results := [.lit (.bool true)], args := [d] }
  | _ => none }
def fnExactReverseBitsRow : OpenClaim := { program := "ytlmnipjlngdmhaa", sum := "6812c52b6a37635a471a7c4150f133e80a673fe68aad24c841501f1557de9150", func := "loop.example/spreadspectrum/laws.FnExactReverseBits", spec := "fnExactReverseBits", apart := false }
def FnExactReverseBitsSaid : Prop := fnExactReverseBitsRow.holds Try.pinned (OpenSpec.ofChange fnExactReverseBitsSpec)

/-- ITS FALSE NEIGHBOUR: 'it returns false'. Refute it at one input. -/
def fnExactReverseBitsWrong : ChangeSpec := { name := "fnExactReverseBits", fn := fun _ => fun
  | [d] => { results := [.lit (.bool false)], args := [d] }
  | _ => none }
def FnExactReverseBitsWrongFalsely : Prop := fnExactReverseBitsRow.holds Try.pinned (OpenSpec.ofChange fnExactReverseBitsWrong)

/-- 'laws.FnExactFirstRotation': WHATEVER THE INPUT: true; the input reads as it did. -/
def fnExactFirstRotationSpec : ChangeSpec := { name := "fnExactFirstRotation", fn := fun _ => fun
  | [d] => { results := [.lit (.bool true)], args := [d] }
  | _ => none }
def fnExactFirstRotationRow : OpenClaim := { program := "ytlmnipjlngdmhaa", sum := "6812c52b6a37635a471a7c4150f133e80a673fe68aad24c841501f1557de9150", func := "loop.example/spreadspectrum/laws.FnExactFirstRotation", spec := "fnExactFirstRotation", apart := false }
def FnExactFirstRotationSaid : Prop := fnExactFirstRotationRow.holds Try.pinned (OpenSpec.ofChange fnExactFirstRotationSpec)

/-- ITS FALSE NEIGHBOUR: 'it returns false'. Refute it at one input. -/
def fnExactFirstRotationWrong : ChangeSpec := { name := "fnExactFirstRotation", fn := fun _ => fun
  | [d] => { results := [.lit (.bool false)], args := [d] }
  | _ => none }
def FnExactFirstRotationWrongFalsely : Prop := fnExactFirstRotationRow.holds Try.pinned (OpenSpec.ofChange fnExactFirstRotationWrong)

/-- 'laws.FnExactLeastPeriod': WHATEVER THE INPUT: true; the input reads as it did. -/
def fnExactLeastPeriodSpec : ChangeSpec := { name := "fnExactLeastPeriod", fn := fun _ => fun
  | [d] => { results := [.lit (.bool true)], args := [d] }
  | _ => none }
def fnExactLeastPeriodRow : OpenClaim := { program := "ytlmnipjlngdmhaa", sum := "6812c52b6a37635a471a7c4150f133e80a673fe68aad24c841501f1557de9150", func := "loop.example/spreadspectrum/laws.FnExactLeastPeriod", spec := "fnExactLeastPeriod", apart := false }
def FnExactLeastPeriodSaid : Prop := fnExactLeastPeriodRow.holds Try.pinned (OpenSpec.ofChange fnExactLeastPeriodSpec)

/-- ITS FALSE NEIGHBOUR: 'it returns false'. Refute it at one input. -/
def fnExactLeastPeriodWrong : ChangeSpec := { name := "fnExactLeastPeriod", fn := fun _ => fun
  | [d] => { results := [.lit (.bool false)], args := [d] }
  | _ => none }
def FnExactLeastPeriodWrongFalsely : Prop := fnExactLeastPeriodRow.holds Try.pinned (OpenSpec.ofChange fnExactLeastPeriodWrong)

/-- 'laws.FnExactShiftBits': WHATEVER THE INPUT: true; the input reads as it did. -/
def fnExactShiftBitsSpec : ChangeSpec := { name := "fnExactShiftBits", fn := fun _ => fun
  | [d1, d2] => { results := [.lit (.bool true)], args := [d1, d2] }
  | _ => none }
def fnExactShiftBitsRow : OpenClaim := { program := "ytlmnipjlngdmhaa", sum := "6812c52b6a37635a471a7c4150f133e80a673fe68aad24c841501f1557de9150", func := "loop.example/spreadspectrum/laws.FnExactShiftBits", spec := "fnExactShiftBits", apart := false }
def FnExactShiftBitsSaid : Prop := fnExactShiftBitsRow.holds Try.pinned (OpenSpec.ofChange fnExactShiftBitsSpec)

/-- ITS FALSE NEIGHBOUR: 'it returns false'. Refute it at one input. -/
def fnExactShiftBitsWrong : ChangeSpec := { name := "fnExactShiftBits", fn := fun _ => fun
  | [d1, d2] => { results := [.lit (.bool false)], args := [d1, d2] }
  | _ => none }
def FnExactShiftBitsWrongFalsely : Prop := fnExactShiftBitsRow.holds Try.pinned (OpenSpec.ofChange fnExactShiftBitsWrong)

/-- 'laws.FnExactBalanceOf': WHATEVER THE INPUT: true; the input reads as it did. -/
def fnExactBalanceOfSpec : ChangeSpec := { name := "fnExactBalanceOf", fn := fun _ => fun
  | [d] => { results := [.lit (.bool true)], args := [d] }
  | _ => none }
def fnExactBalanceOfRow : OpenClaim := { program := "ytlmnipjlngdmhaa", sum := "6812c52b6a37635a471a7c4150f133e80a673fe68aad24c841501f1557de9150", func := "loop.example/spreadspectrum/laws.FnExactBalanceOf", spec := "fnExactBalanceOf", apart := false }
def FnExactBalanceOfSaid : Prop := fnExactBalanceOfRow.holds Try.pinned (OpenSpec.ofChange fnExactBalanceOfSpec)

/-- ITS FALSE NEIGHBOUR: 'it returns false'. Refute it at one input. -/
def fnExactBalanceOfWrong : ChangeSpec := { name := "fnExactBalanceOf", fn := fun _ => fun
  | [d] => { results := [.lit (.bool false)], args := [d] }
  | _ => none }
def FnExactBalanceOfWrongFalsely : Prop := fnExactBalanceOfRow.holds Try.pinned (OpenSpec.ofChange fnExactBalanceOfWrong)

/-- 'laws.FnExactAperiodicOf': WHATEVER THE INPUT: true; the input reads as it did. -/
def fnExactAperiodicOfSpec : ChangeSpec := { name := "fnExactAperiodicOf", fn := fun _ => fun
  | [d1, d2] => { results := [.lit (.bool true)], args := [d1, d2] }
  | _ => none }
def fnExactAperiodicOfRow : OpenClaim := { program := "ytlmnipjlngdmhaa", sum := "6812c52b6a37635a471a7c4150f133e80a673fe68aad24c841501f1557de9150", func := "loop.example/spreadspectrum/laws.FnExactAperiodicOf", spec := "fnExactAperiodicOf", apart := false }
def FnExactAperiodicOfSaid : Prop := fnExactAperiodicOfRow.holds Try.pinned (OpenSpec.ofChange fnExactAperiodicOfSpec)

/-- ITS FALSE NEIGHBOUR: 'it returns false'. Refute it at one input. -/
def fnExactAperiodicOfWrong : ChangeSpec := { name := "fnExactAperiodicOf", fn := fun _ => fun
  | [d1, d2] => { results := [.lit (.bool false)], args := [d1, d2] }
  | _ => none }
def FnExactAperiodicOfWrongFalsely : Prop := fnExactAperiodicOfRow.holds Try.pinned (OpenSpec.ofChange fnExactAperiodicOfWrong)

/-- 'laws.FnExactShiftBetween': WHATEVER THE INPUT: true; the input reads as it did. -/
def fnExactShiftBetweenSpec : ChangeSpec := { name := "fnExactShiftBetween", fn := fun _ => fun
  | [d1, d2] => { results := [.lit (.bool true)], args := [d1, d2] }
  | _ => none }
def fnExactShiftBetweenRow : OpenClaim := { program := "ytlmnipjlngdmhaa", sum := "6812c52b6a37635a471a7c4150f133e80a673fe68aad24c841501f1557de9150", func := "loop.example/spreadspectrum/laws.FnExactShiftBetween", spec := "fnExactShiftBetween", apart := false }
def FnExactShiftBetweenSaid : Prop := fnExactShiftBetweenRow.holds Try.pinned (OpenSpec.ofChange fnExactShiftBetweenSpec)

/-- ITS FALSE NEIGHBOUR: 'it returns false'. Refute it at one input. -/
def fnExactShiftBetweenWrong : ChangeSpec := { name := "fnExactShiftBetween", fn := fun _ => fun
  | [d1, d2] => { results := [.lit (.bool false)], args := [d1, d2] }
  | _ => none }
def FnExactShiftBetweenWrongFalsely : Prop := fnExactShiftBetweenRow.holds Try.pinned (OpenSpec.ofChange fnExactShiftBetweenWrong)

/-- 'laws.FnExactInvertBits': WHATEVER THE INPUT: true; the input reads as it did. -/
def fnExactInvertBitsSpec : ChangeSpec := { name := "fnExactInvertBits", fn := fun _ => fun
  | [d] => { results := [.lit (.bool true)], args := [d] }
  | _ => none }
def fnExactInvertBitsRow : OpenClaim := { program := "ytlmnipjlngdmhaa", sum := "6812c52b6a37635a471a7c4150f133e80a673fe68aad24c841501f1557de9150", func := "loop.example/spreadspectrum/laws.FnExactInvertBits", spec := "fnExactInvertBits", apart := false }
def FnExactInvertBitsSaid : Prop := fnExactInvertBitsRow.holds Try.pinned (OpenSpec.ofChange fnExactInvertBitsSpec)

/-- ITS FALSE NEIGHBOUR: 'it returns false'. Refute it at one input. -/
def fnExactInvertBitsWrong : ChangeSpec := { name := "fnExactInvertBits", fn := fun _ => fun
  | [d] => { results := [.lit (.bool false)], args := [d] }
  | _ => none }
def FnExactInvertBitsWrongFalsely : Prop := fnExactInvertBitsRow.holds Try.pinned (OpenSpec.ofChange fnExactInvertBitsWrong)

/-- 'laws.FnExactAddBits': WHATEVER THE INPUT: true; the input reads as it did. -/
def fnExactAddBitsSpec : ChangeSpec := { name := "fnExactAddBits", fn := fun _ => fun
  | [d1, d2] => { results := [.lit (.bool true)], args := [d1, d2] }
  | _ => none }
def fnExactAddBitsRow : OpenClaim := { program := "ytlmnipjlngdmhaa", sum := "6812c52b6a37635a471a7c4150f133e80a673fe68aad24c841501f1557de9150", func := "loop.example/spreadspectrum/laws.FnExactAddBits", spec := "fnExactAddBits", apart := false }
def FnExactAddBitsSaid : Prop := fnExactAddBitsRow.holds Try.pinned (OpenSpec.ofChange fnExactAddBitsSpec)

/-- ITS FALSE NEIGHBOUR: 'it returns false'. Refute it at one input. -/
def fnExactAddBitsWrong : ChangeSpec := { name := "fnExactAddBits", fn := fun _ => fun
  | [d1, d2] => { results := [.lit (.bool false)], args := [d1, d2] }
  | _ => none }
def FnExactAddBitsWrongFalsely : Prop := fnExactAddBitsRow.holds Try.pinned (OpenSpec.ofChange fnExactAddBitsWrong)

/-- 'laws.FnExactCrossOf': WHATEVER THE INPUT: true; the input reads as it did. -/
def fnExactCrossOfSpec : ChangeSpec := { name := "fnExactCrossOf", fn := fun _ => fun
  | [d1, d2, d3] => { results := [.lit (.bool true)], args := [d1, d2, d3] }
  | _ => none }
def fnExactCrossOfRow : OpenClaim := { program := "ytlmnipjlngdmhaa", sum := "6812c52b6a37635a471a7c4150f133e80a673fe68aad24c841501f1557de9150", func := "loop.example/spreadspectrum/laws.FnExactCrossOf", spec := "fnExactCrossOf", apart := false }
def FnExactCrossOfSaid : Prop := fnExactCrossOfRow.holds Try.pinned (OpenSpec.ofChange fnExactCrossOfSpec)

/-- ITS FALSE NEIGHBOUR: 'it returns false'. Refute it at one input. -/
def fnExactCrossOfWrong : ChangeSpec := { name := "fnExactCrossOf", fn := fun _ => fun
  | [d1, d2, d3] => { results := [.lit (.bool false)], args := [d1, d2, d3] }
  | _ => none }
def FnExactCrossOfWrongFalsely : Prop := fnExactCrossOfRow.holds Try.pinned (OpenSpec.ofChange fnExactCrossOfWrong)

/- THE SECOND FORM. 'bulk': how many values and letters a reading holds, each counted each time it is reached (what is shared counts as often as it is met; a slice's spare places count too). A statement '..UptoSaid' is the law's where the arguments, and the package variables that the reading takes, are together of bulk at most 1048576: NARROWER than '..Said'. Prove '..Said' where nothing that the law and all that it calls make is longer than what came in: it says more and counts as full. Else prove '..UptoSaid'. A law counts once. -/
mutual
def uptoBulk {H : Type} : DataW H → Nat
  | .lit (.string bytes) => bytes.length + 1
  | .lit _ => 1
  | .nil => 1
  | .ptr d => uptoBulk d + 1
  | .slice elems spare => uptoBulkAll elems + uptoBulkAll spare + 1
  | .agg parts => uptoBulkAll parts + 1
  | .iface _ d => uptoBulk d + 1
  | .map entries => uptoBulkEntries entries + 1
  | .held _ => 1
def uptoBulkAll {H : Type} : List (DataW H) → Nat
  | [] => 0
  | d :: r => uptoBulk d + uptoBulkAll r
def uptoBulkEntries {H : Type} : List (Lit × DataW H) → Nat
  | [] => 0
  | x :: r => uptoBulkEntry x + uptoBulkEntries r
def uptoBulkEntry {H : Type} : Lit × DataW H → Nat
  | (.string bytes, d) => bytes.length + uptoBulk d + 1
  | (_, d) => uptoBulk d + 1
 end
def uptoSmall : (H : Type) → List (DataW H) → Bool := fun _ ds => decide (uptoBulkAll ds ≤ 1048576)
def OpenSpec.upto (s : _root_.Go.ChangeSpec) : _root_.Go.OpenSpec := { _root_.Go.OpenSpec.ofChange s with cond := some uptoSmall }

/-- 'laws.FnExactSequenceValid', WHERE WHAT IT READS IS OF BULK AT MOST 1048576: true; the input reads as it did. -/
def fnExactSequenceValidUptoRow : OpenClaim := { program := "ytlmnipjlngdmhaa", sum := "6812c52b6a37635a471a7c4150f133e80a673fe68aad24c841501f1557de9150", func := "loop.example/spreadspectrum/laws.FnExactSequenceValid", spec := "fnExactSequenceValid", apart := false, narrowed := true }
def FnExactSequenceValidUptoSaid : Prop := fnExactSequenceValidUptoRow.holds Try.pinned (OpenSpec.upto fnExactSequenceValidSpec)

/-- 'laws.FnExactDecimateBits', WHERE WHAT IT READS IS OF BULK AT MOST 1048576: true; the input reads as it did. -/
def fnExactDecimateBitsUptoRow : OpenClaim := { program := "ytlmnipjlngdmhaa", sum := "6812c52b6a37635a471a7c4150f133e80a673fe68aad24c841501f1557de9150", func := "loop.example/spreadspectrum/laws.FnExactDecimateBits", spec := "fnExactDecimateBits", apart := false, narrowed := true }
def FnExactDecimateBitsUptoSaid : Prop := fnExactDecimateBitsUptoRow.holds Try.pinned (OpenSpec.upto fnExactDecimateBitsSpec)

/-- 'laws.FnExactReverseBits', WHERE WHAT IT READS IS OF BULK AT MOST 1048576: true; the input reads as it did. -/
def fnExactReverseBitsUptoRow : OpenClaim := { program := "ytlmnipjlngdmhaa", sum := "6812c52b6a37635a471a7c4150f133e80a673fe68aad24c841501f1557de9150", func := "loop.example/spreadspectrum/laws.FnExactReverseBits", spec := "fnExactReverseBits", apart := false, narrowed := true }
def FnExactReverseBitsUptoSaid : Prop := fnExactReverseBitsUptoRow.holds Try.pinned (OpenSpec.upto fnExactReverseBitsSpec)

/-- 'laws.FnExactFirstRotation', WHERE WHAT IT READS IS OF BULK AT MOST 1048576: true; the input reads as it did. -/
def fnExactFirstRotationUptoRow : OpenClaim := { program := "ytlmnipjlngdmhaa", sum := "6812c52b6a37635a471a7c4150f133e80a673fe68aad24c841501f1557de9150", func := "loop.example/spreadspectrum/laws.FnExactFirstRotation", spec := "fnExactFirstRotation", apart := false, narrowed := true }
def FnExactFirstRotationUptoSaid : Prop := fnExactFirstRotationUptoRow.holds Try.pinned (OpenSpec.upto fnExactFirstRotationSpec)

/-- 'laws.FnExactLeastPeriod', WHERE WHAT IT READS IS OF BULK AT MOST 1048576: true; the input reads as it did. -/
def fnExactLeastPeriodUptoRow : OpenClaim := { program := "ytlmnipjlngdmhaa", sum := "6812c52b6a37635a471a7c4150f133e80a673fe68aad24c841501f1557de9150", func := "loop.example/spreadspectrum/laws.FnExactLeastPeriod", spec := "fnExactLeastPeriod", apart := false, narrowed := true }
def FnExactLeastPeriodUptoSaid : Prop := fnExactLeastPeriodUptoRow.holds Try.pinned (OpenSpec.upto fnExactLeastPeriodSpec)

/-- 'laws.FnExactShiftBits', WHERE WHAT IT READS IS OF BULK AT MOST 1048576: true; the input reads as it did. -/
def fnExactShiftBitsUptoRow : OpenClaim := { program := "ytlmnipjlngdmhaa", sum := "6812c52b6a37635a471a7c4150f133e80a673fe68aad24c841501f1557de9150", func := "loop.example/spreadspectrum/laws.FnExactShiftBits", spec := "fnExactShiftBits", apart := false, narrowed := true }
def FnExactShiftBitsUptoSaid : Prop := fnExactShiftBitsUptoRow.holds Try.pinned (OpenSpec.upto fnExactShiftBitsSpec)

/-- 'laws.FnExactBalanceOf', WHERE WHAT IT READS IS OF BULK AT MOST 1048576: true; the input reads as it did. -/
def fnExactBalanceOfUptoRow : OpenClaim := { program := "ytlmnipjlngdmhaa", sum := "6812c52b6a37635a471a7c4150f133e80a673fe68aad24c841501f1557de9150", func := "loop.example/spreadspectrum/laws.FnExactBalanceOf", spec := "fnExactBalanceOf", apart := false, narrowed := true }
def FnExactBalanceOfUptoSaid : Prop := fnExactBalanceOfUptoRow.holds Try.pinned (OpenSpec.upto fnExactBalanceOfSpec)

/-- 'laws.FnExactAperiodicOf', WHERE WHAT IT READS IS OF BULK AT MOST 1048576: true; the input reads as it did. -/
def fnExactAperiodicOfUptoRow : OpenClaim := { program := "ytlmnipjlngdmhaa", sum := "6812c52b6a37635a471a7c4150f133e80a673fe68aad24c841501f1557de9150", func := "loop.example/spreadspectrum/laws.FnExactAperiodicOf", spec := "fnExactAperiodicOf", apart := false, narrowed := true }
def FnExactAperiodicOfUptoSaid : Prop := fnExactAperiodicOfUptoRow.holds Try.pinned (OpenSpec.upto fnExactAperiodicOfSpec)

/-- 'laws.FnExactShiftBetween', WHERE WHAT IT READS IS OF BULK AT MOST 1048576: true; the input reads as it did. -/
def fnExactShiftBetweenUptoRow : OpenClaim := { program := "ytlmnipjlngdmhaa", sum := "6812c52b6a37635a471a7c4150f133e80a673fe68aad24c841501f1557de9150", func := "loop.example/spreadspectrum/laws.FnExactShiftBetween", spec := "fnExactShiftBetween", apart := false, narrowed := true }
def FnExactShiftBetweenUptoSaid : Prop := fnExactShiftBetweenUptoRow.holds Try.pinned (OpenSpec.upto fnExactShiftBetweenSpec)

/-- 'laws.FnExactInvertBits', WHERE WHAT IT READS IS OF BULK AT MOST 1048576: true; the input reads as it did. -/
def fnExactInvertBitsUptoRow : OpenClaim := { program := "ytlmnipjlngdmhaa", sum := "6812c52b6a37635a471a7c4150f133e80a673fe68aad24c841501f1557de9150", func := "loop.example/spreadspectrum/laws.FnExactInvertBits", spec := "fnExactInvertBits", apart := false, narrowed := true }
def FnExactInvertBitsUptoSaid : Prop := fnExactInvertBitsUptoRow.holds Try.pinned (OpenSpec.upto fnExactInvertBitsSpec)

/-- 'laws.FnExactAddBits', WHERE WHAT IT READS IS OF BULK AT MOST 1048576: true; the input reads as it did. -/
def fnExactAddBitsUptoRow : OpenClaim := { program := "ytlmnipjlngdmhaa", sum := "6812c52b6a37635a471a7c4150f133e80a673fe68aad24c841501f1557de9150", func := "loop.example/spreadspectrum/laws.FnExactAddBits", spec := "fnExactAddBits", apart := false, narrowed := true }
def FnExactAddBitsUptoSaid : Prop := fnExactAddBitsUptoRow.holds Try.pinned (OpenSpec.upto fnExactAddBitsSpec)

/-- 'laws.FnExactCrossOf', WHERE WHAT IT READS IS OF BULK AT MOST 1048576: true; the input reads as it did. -/
def fnExactCrossOfUptoRow : OpenClaim := { program := "ytlmnipjlngdmhaa", sum := "6812c52b6a37635a471a7c4150f133e80a673fe68aad24c841501f1557de9150", func := "loop.example/spreadspectrum/laws.FnExactCrossOf", spec := "fnExactCrossOf", apart := false, narrowed := true }
def FnExactCrossOfUptoSaid : Prop := fnExactCrossOfUptoRow.holds Try.pinned (OpenSpec.upto fnExactCrossOfSpec)

end Rows
end Go.Proofs.Ytlmnipjlngdmhaa
