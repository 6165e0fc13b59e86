/-
  No cell of these rows narrows 'for every input' (looked for: loops, veiled, ifaces, maps, wideKeys, modest, calm, conditions, laid).
  DERIVED. THE GIVEN ROWS OF THIS SEAT. 12 by the template 'for every input the law returns true; each argument reads behind the call as it read before'; 0 by the template 'total and deterministic' (their statements: YtmlmbinpkmdjjaaTotals.lean).
  GIVEN WITH THE SEED: the statements are not yours to turn. If you find one false, say at which input.
  Laid BY PROGRAM, IN A SANDBOX (cutbox-rows.mjs): the forced cells as the released guide's own fill.sh prints them over the translation cc5fa130ada75e62… (all of the seat's roots in one cut). By AI agents, Wed Nov 11 2026. No macro, syntax, notation, axiom, sorry.
-/
import Derived.Test.YtmlmbinpkmdjjaaChecked
import GoSem.Claim
import GoSem.ClaimJoined
import GoSem.ClaimMapViews
import Derived.JoinedTies
import Derived.KernelRfl
namespace Go.Proofs.Ytmlmbinpkmdjjaa
/- THE CELL 'sum', in the pinned program and in every row, IS THE sha256 OF THE DUMP (.gsa) THAT YtmlmbinpkmdjjaaProg.lean LOADS. Nothing in Lean hashes anything: it is a label: what it is worth is what the hold of that sum in a sandbox is worth. -/
noncomputable def Try.pinned : Pinned := { name := "ytmlmbinpkmdjjaa", sum := "cc5fa130ada75e62a203556227cb371fbb648c2c1d937ec2011127cbb16dd739", checked := Try.checked }
namespace Rows
def none {H : Type} : Left H := { results := [], args := [] }

/-- 'laws.FnExactAutoOf': WHATEVER THE INPUT: true; the input reads as it did. -/
def fnExactAutoOfSpec : ChangeSpec := { name := "fnExactAutoOf", fn := fun _ => fun
  | [d1, d2] => { results := [.lit (.bool true)], args := [d1, d2] }
  | _ => none }
def fnExactAutoOfRow : OpenClaim := { program := "ytmlmbinpkmdjjaa", sum := "cc5fa130ada75e62a203556227cb371fbb648c2c1d937ec2011127cbb16dd739", func := "loop.example/spreadspectrum/laws.FnExactAutoOf", spec := "fnExactAutoOf", apart := false }
def FnExactAutoOfSaid : Prop := fnExactAutoOfRow.holds Try.pinned (OpenSpec.ofChange fnExactAutoOfSpec)

/-- ITS FALSE NEIGHBOUR: 'it returns false'. Refute it at one input. -/
def fnExactAutoOfWrong : ChangeSpec := { name := "fnExactAutoOf", fn := fun _ => fun
  | [d1, d2] => { results := [.lit (.bool false)], args := [d1, d2] }
  | _ => none }
def FnExactAutoOfWrongFalsely : Prop := fnExactAutoOfRow.holds Try.pinned (OpenSpec.ofChange fnExactAutoOfWrong)

/-- 'laws.FnExactPeakOf': WHATEVER THE INPUT: true; the input reads as it did. -/
def fnExactPeakOfSpec : ChangeSpec := { name := "fnExactPeakOf", fn := fun _ => fun
  | [d1, d2] => { results := [.lit (.bool true)], args := [d1, d2] }
  | _ => none }
def fnExactPeakOfRow : OpenClaim := { program := "ytmlmbinpkmdjjaa", sum := "cc5fa130ada75e62a203556227cb371fbb648c2c1d937ec2011127cbb16dd739", func := "loop.example/spreadspectrum/laws.FnExactPeakOf", spec := "fnExactPeakOf", apart := false }
def FnExactPeakOfSaid : Prop := fnExactPeakOfRow.holds Try.pinned (OpenSpec.ofChange fnExactPeakOfSpec)

/-- ITS FALSE NEIGHBOUR: 'it returns false'. Refute it at one input. -/
def fnExactPeakOfWrong : ChangeSpec := { name := "fnExactPeakOf", fn := fun _ => fun
  | [d1, d2] => { results := [.lit (.bool false)], args := [d1, d2] }
  | _ => none }
def FnExactPeakOfWrongFalsely : Prop := fnExactPeakOfRow.holds Try.pinned (OpenSpec.ofChange fnExactPeakOfWrong)

/-- 'laws.FnExactCrossTable': WHATEVER THE INPUT: true; the input reads as it did. -/
def fnExactCrossTableSpec : ChangeSpec := { name := "fnExactCrossTable", fn := fun _ => fun
  | [d1, d2] => { results := [.lit (.bool true)], args := [d1, d2] }
  | _ => none }
def fnExactCrossTableRow : OpenClaim := { program := "ytmlmbinpkmdjjaa", sum := "cc5fa130ada75e62a203556227cb371fbb648c2c1d937ec2011127cbb16dd739", func := "loop.example/spreadspectrum/laws.FnExactCrossTable", spec := "fnExactCrossTable", apart := false }
def FnExactCrossTableSaid : Prop := fnExactCrossTableRow.holds Try.pinned (OpenSpec.ofChange fnExactCrossTableSpec)

/-- ITS FALSE NEIGHBOUR: 'it returns false'. Refute it at one input. -/
def fnExactCrossTableWrong : ChangeSpec := { name := "fnExactCrossTable", fn := fun _ => fun
  | [d1, d2] => { results := [.lit (.bool false)], args := [d1, d2] }
  | _ => none }
def FnExactCrossTableWrongFalsely : Prop := fnExactCrossTableRow.holds Try.pinned (OpenSpec.ofChange fnExactCrossTableWrong)

/-- 'laws.FnExactIsMaximal': WHATEVER THE INPUT: true; the input reads as it did. -/
def fnExactIsMaximalSpec : ChangeSpec := { name := "fnExactIsMaximal", fn := fun _ => fun
  | [d1, d2] => { results := [.lit (.bool true)], args := [d1, d2] }
  | _ => none }
def fnExactIsMaximalRow : OpenClaim := { program := "ytmlmbinpkmdjjaa", sum := "cc5fa130ada75e62a203556227cb371fbb648c2c1d937ec2011127cbb16dd739", func := "loop.example/spreadspectrum/laws.FnExactIsMaximal", spec := "fnExactIsMaximal", apart := false }
def FnExactIsMaximalSaid : Prop := fnExactIsMaximalRow.holds Try.pinned (OpenSpec.ofChange fnExactIsMaximalSpec)

/-- ITS FALSE NEIGHBOUR: 'it returns false'. Refute it at one input. -/
def fnExactIsMaximalWrong : ChangeSpec := { name := "fnExactIsMaximal", fn := fun _ => fun
  | [d1, d2] => { results := [.lit (.bool false)], args := [d1, d2] }
  | _ => none }
def FnExactIsMaximalWrongFalsely : Prop := fnExactIsMaximalRow.holds Try.pinned (OpenSpec.ofChange fnExactIsMaximalWrong)

/-- 'laws.FnExactMaximalTaps': WHATEVER THE INPUT: true; the input reads as it did. -/
def fnExactMaximalTapsSpec : ChangeSpec := { name := "fnExactMaximalTaps", fn := fun _ => fun
  | [d] => { results := [.lit (.bool true)], args := [d] }
  | _ => none }
def fnExactMaximalTapsRow : OpenClaim := { program := "ytmlmbinpkmdjjaa", sum := "cc5fa130ada75e62a203556227cb371fbb648c2c1d937ec2011127cbb16dd739", func := "loop.example/spreadspectrum/laws.FnExactMaximalTaps", spec := "fnExactMaximalTaps", apart := false }
def FnExactMaximalTapsSaid : Prop := fnExactMaximalTapsRow.holds Try.pinned (OpenSpec.ofChange fnExactMaximalTapsSpec)

/-- ITS FALSE NEIGHBOUR: 'it returns false'. Refute it at one input. -/
def fnExactMaximalTapsWrong : ChangeSpec := { name := "fnExactMaximalTaps", fn := fun _ => fun
  | [d] => { results := [.lit (.bool false)], args := [d] }
  | _ => none }
def FnExactMaximalTapsWrongFalsely : Prop := fnExactMaximalTapsRow.holds Try.pinned (OpenSpec.ofChange fnExactMaximalTapsWrong)

/-- 'laws.FnExactShortestRegister': WHATEVER THE INPUT: true; the input reads as it did. -/
def fnExactShortestRegisterSpec : ChangeSpec := { name := "fnExactShortestRegister", fn := fun _ => fun
  | [d] => { results := [.lit (.bool true)], args := [d] }
  | _ => none }
def fnExactShortestRegisterRow : OpenClaim := { program := "ytmlmbinpkmdjjaa", sum := "cc5fa130ada75e62a203556227cb371fbb648c2c1d937ec2011127cbb16dd739", func := "loop.example/spreadspectrum/laws.FnExactShortestRegister", spec := "fnExactShortestRegister", apart := false }
def FnExactShortestRegisterSaid : Prop := fnExactShortestRegisterRow.holds Try.pinned (OpenSpec.ofChange fnExactShortestRegisterSpec)

/-- ITS FALSE NEIGHBOUR: 'it returns false'. Refute it at one input. -/
def fnExactShortestRegisterWrong : ChangeSpec := { name := "fnExactShortestRegister", fn := fun _ => fun
  | [d] => { results := [.lit (.bool false)], args := [d] }
  | _ => none }
def FnExactShortestRegisterWrongFalsely : Prop := fnExactShortestRegisterRow.holds Try.pinned (OpenSpec.ofChange fnExactShortestRegisterWrong)

/-- 'laws.FnParity': WHATEVER THE INPUT: true; the input reads as it did. -/
def fnParitySpec : ChangeSpec := { name := "fnParity", fn := fun _ => fun
  | [d1, d2] => { results := [.lit (.bool true)], args := [d1, d2] }
  | _ => none }
def fnParityRow : OpenClaim := { program := "ytmlmbinpkmdjjaa", sum := "cc5fa130ada75e62a203556227cb371fbb648c2c1d937ec2011127cbb16dd739", func := "loop.example/spreadspectrum/laws.FnParity", spec := "fnParity", apart := false }
def FnParitySaid : Prop := fnParityRow.holds Try.pinned (OpenSpec.ofChange fnParitySpec)

/-- ITS FALSE NEIGHBOUR: 'it returns false'. Refute it at one input. -/
def fnParityWrong : ChangeSpec := { name := "fnParity", fn := fun _ => fun
  | [d1, d2] => { results := [.lit (.bool false)], args := [d1, d2] }
  | _ => none }
def FnParityWrongFalsely : Prop := fnParityRow.holds Try.pinned (OpenSpec.ofChange fnParityWrong)

/-- 'laws.FnStepBack': WHATEVER THE INPUT: true; the input reads as it did. -/
def fnStepBackSpec : ChangeSpec := { name := "fnStepBack", fn := fun _ => fun
  | [d] => { results := [.lit (.bool true)], args := [d] }
  | _ => none }
def fnStepBackRow : OpenClaim := { program := "ytmlmbinpkmdjjaa", sum := "cc5fa130ada75e62a203556227cb371fbb648c2c1d937ec2011127cbb16dd739", func := "loop.example/spreadspectrum/laws.FnStepBack", spec := "fnStepBack", apart := false }
def FnStepBackSaid : Prop := fnStepBackRow.holds Try.pinned (OpenSpec.ofChange fnStepBackSpec)

/-- ITS FALSE NEIGHBOUR: 'it returns false'. Refute it at one input. -/
def fnStepBackWrong : ChangeSpec := { name := "fnStepBack", fn := fun _ => fun
  | [d] => { results := [.lit (.bool false)], args := [d] }
  | _ => none }
def FnStepBackWrongFalsely : Prop := fnStepBackRow.holds Try.pinned (OpenSpec.ofChange fnStepBackWrong)

/-- 'laws.FnStepBits': WHATEVER THE INPUT: true; the input reads as it did. -/
def fnStepBitsSpec : ChangeSpec := { name := "fnStepBits", fn := fun _ => fun
  | [d] => { results := [.lit (.bool true)], args := [d] }
  | _ => none }
def fnStepBitsRow : OpenClaim := { program := "ytmlmbinpkmdjjaa", sum := "cc5fa130ada75e62a203556227cb371fbb648c2c1d937ec2011127cbb16dd739", func := "loop.example/spreadspectrum/laws.FnStepBits", spec := "fnStepBits", apart := false }
def FnStepBitsSaid : Prop := fnStepBitsRow.holds Try.pinned (OpenSpec.ofChange fnStepBitsSpec)

/-- ITS FALSE NEIGHBOUR: 'it returns false'. Refute it at one input. -/
def fnStepBitsWrong : ChangeSpec := { name := "fnStepBits", fn := fun _ => fun
  | [d] => { results := [.lit (.bool false)], args := [d] }
  | _ => none }
def FnStepBitsWrongFalsely : Prop := fnStepBitsRow.holds Try.pinned (OpenSpec.ofChange fnStepBitsWrong)

/-- 'laws.FnJump': WHATEVER THE INPUT: true; the input reads as it did. -/
def fnJumpSpec : ChangeSpec := { name := "fnJump", fn := fun _ => fun
  | [d1, d2] => { results := [.lit (.bool true)], args := [d1, d2] }
  | _ => none }
def fnJumpRow : OpenClaim := { program := "ytmlmbinpkmdjjaa", sum := "cc5fa130ada75e62a203556227cb371fbb648c2c1d937ec2011127cbb16dd739", func := "loop.example/spreadspectrum/laws.FnJump", spec := "fnJump", apart := false }
def FnJumpSaid : Prop := fnJumpRow.holds Try.pinned (OpenSpec.ofChange fnJumpSpec)

/-- ITS FALSE NEIGHBOUR: 'it returns false'. Refute it at one input. -/
def fnJumpWrong : ChangeSpec := { name := "fnJump", fn := fun _ => fun
  | [d1, d2] => { results := [.lit (.bool false)], args := [d1, d2] }
  | _ => none }
def FnJumpWrongFalsely : Prop := fnJumpRow.holds Try.pinned (OpenSpec.ofChange fnJumpWrong)

/-- 'laws.FnAddRegisters': WHATEVER THE INPUT: true; the input reads as it did. -/
def fnAddRegistersSpec : ChangeSpec := { name := "fnAddRegisters", fn := fun _ => fun
  | [d] => { results := [.lit (.bool true)], args := [d] }
  | _ => none }
def fnAddRegistersRow : OpenClaim := { program := "ytmlmbinpkmdjjaa", sum := "cc5fa130ada75e62a203556227cb371fbb648c2c1d937ec2011127cbb16dd739", func := "loop.example/spreadspectrum/laws.FnAddRegisters", spec := "fnAddRegisters", apart := false }
def FnAddRegistersSaid : Prop := fnAddRegistersRow.holds Try.pinned (OpenSpec.ofChange fnAddRegistersSpec)

/-- ITS FALSE NEIGHBOUR: 'it returns false'. Refute it at one input. -/
def fnAddRegistersWrong : ChangeSpec := { name := "fnAddRegisters", fn := fun _ => fun
  | [d] => { results := [.lit (.bool false)], args := [d] }
  | _ => none }
def FnAddRegistersWrongFalsely : Prop := fnAddRegistersRow.holds Try.pinned (OpenSpec.ofChange fnAddRegistersWrong)

/-- 'laws.FnRunSteps': WHATEVER THE INPUT: true; the input reads as it did. -/
def fnRunStepsSpec : ChangeSpec := { name := "fnRunSteps", fn := fun _ => fun
  | [d1, d2] => { results := [.lit (.bool true)], args := [d1, d2] }
  | _ => none }
def fnRunStepsRow : OpenClaim := { program := "ytmlmbinpkmdjjaa", sum := "cc5fa130ada75e62a203556227cb371fbb648c2c1d937ec2011127cbb16dd739", func := "loop.example/spreadspectrum/laws.FnRunSteps", spec := "fnRunSteps", apart := false }
def FnRunStepsSaid : Prop := fnRunStepsRow.holds Try.pinned (OpenSpec.ofChange fnRunStepsSpec)

/-- ITS FALSE NEIGHBOUR: 'it returns false'. Refute it at one input. -/
def fnRunStepsWrong : ChangeSpec := { name := "fnRunSteps", fn := fun _ => fun
  | [d1, d2] => { results := [.lit (.bool false)], args := [d1, d2] }
  | _ => none }
def FnRunStepsWrongFalsely : Prop := fnRunStepsRow.holds Try.pinned (OpenSpec.ofChange fnRunStepsWrong)

/- THE SECOND FORM. 'bulk': how many values and letters a reading holds, each counted each time it is reached (what is shared counts as often as it is met; a slice's spare places count too). A statement '..UptoSaid' is the law's where the arguments, and the package variables that the reading takes, are together of bulk at most 1048576: NARROWER than '..Said'. Prove '..Said' where nothing that the law and all that it calls make is longer than what came in: it says more and counts as full. Else prove '..UptoSaid'. A law counts once. -/
mutual
def uptoBulk {H : Type} : DataW H → Nat
  | .lit (.string bytes) => bytes.length + 1
  | .lit _ => 1
  | .nil => 1
  | .ptr d => uptoBulk d + 1
  | .slice elems spare => uptoBulkAll elems + uptoBulkAll spare + 1
  | .agg parts => uptoBulkAll parts + 1
  | .iface _ d => uptoBulk d + 1
  | .map entries => uptoBulkEntries entries + 1
  | .held _ => 1
def uptoBulkAll {H : Type} : List (DataW H) → Nat
  | [] => 0
  | d :: r => uptoBulk d + uptoBulkAll r
def uptoBulkEntries {H : Type} : List (Lit × DataW H) → Nat
  | [] => 0
  | x :: r => uptoBulkEntry x + uptoBulkEntries r
def uptoBulkEntry {H : Type} : Lit × DataW H → Nat
  | (.string bytes, d) => bytes.length + uptoBulk d + 1
  | (_, d) => uptoBulk d + 1
 end
def uptoSmall : (H : Type) → List (DataW H) → Bool := fun _ ds => decide (uptoBulkAll ds ≤ 1048576)
def OpenSpec.upto (s : _root_.Go.ChangeSpec) : _root_.Go.OpenSpec := { _root_.Go.OpenSpec.ofChange s with cond := some uptoSmall }

/-- 'laws.FnExactAutoOf', WHERE WHAT IT READS IS OF BULK AT MOST 1048576: true; the input reads as it did. -/
def fnExactAutoOfUptoRow : OpenClaim := { program := "ytmlmbinpkmdjjaa", sum := "cc5fa130ada75e62a203556227cb371fbb648c2c1d937ec2011127cbb16dd739", func := "loop.example/spreadspectrum/laws.FnExactAutoOf", spec := "fnExactAutoOf", apart := false, narrowed := true }
def FnExactAutoOfUptoSaid : Prop := fnExactAutoOfUptoRow.holds Try.pinned (OpenSpec.upto fnExactAutoOfSpec)

/-- 'laws.FnExactPeakOf', WHERE WHAT IT READS IS OF BULK AT MOST 1048576: true; the input reads as it did. -/
def fnExactPeakOfUptoRow : OpenClaim := { program := "ytmlmbinpkmdjjaa", sum := "cc5fa130ada75e62a203556227cb371fbb648c2c1d937ec2011127cbb16dd739", func := "loop.example/spreadspectrum/laws.FnExactPeakOf", spec := "fnExactPeakOf", apart := false, narrowed := true }
def FnExactPeakOfUptoSaid : Prop := fnExactPeakOfUptoRow.holds Try.pinned (OpenSpec.upto fnExactPeakOfSpec)

/-- 'laws.FnExactCrossTable', WHERE WHAT IT READS IS OF BULK AT MOST 1048576: true; the input reads as it did. -/
def fnExactCrossTableUptoRow : OpenClaim := { program := "ytmlmbinpkmdjjaa", sum := "cc5fa130ada75e62a203556227cb371fbb648c2c1d937ec2011127cbb16dd739", func := "loop.example/spreadspectrum/laws.FnExactCrossTable", spec := "fnExactCrossTable", apart := false, narrowed := true }
def FnExactCrossTableUptoSaid : Prop := fnExactCrossTableUptoRow.holds Try.pinned (OpenSpec.upto fnExactCrossTableSpec)

/-- 'laws.FnExactIsMaximal', WHERE WHAT IT READS IS OF BULK AT MOST 1048576: true; the input reads as it did. -/
def fnExactIsMaximalUptoRow : OpenClaim := { program := "ytmlmbinpkmdjjaa", sum := "cc5fa130ada75e62a203556227cb371fbb648c2c1d937ec2011127cbb16dd739", func := "loop.example/spreadspectrum/laws.FnExactIsMaximal", spec := "fnExactIsMaximal", apart := false, narrowed := true }
def FnExactIsMaximalUptoSaid : Prop := fnExactIsMaximalUptoRow.holds Try.pinned (OpenSpec.upto fnExactIsMaximalSpec)

/-- 'laws.FnExactMaximalTaps', WHERE WHAT IT READS IS OF BULK AT MOST 1048576: true; the input reads as it did. -/
def fnExactMaximalTapsUptoRow : OpenClaim := { program := "ytmlmbinpkmdjjaa", sum := "cc5fa130ada75e62a203556227cb371fbb648c2c1d937ec2011127cbb16dd739", func := "loop.example/spreadspectrum/laws.FnExactMaximalTaps", spec := "fnExactMaximalTaps", apart := false, narrowed := true }
def FnExactMaximalTapsUptoSaid : Prop := fnExactMaximalTapsUptoRow.holds Try.pinned (OpenSpec.upto fnExactMaximalTapsSpec)

/-- 'laws.FnExactShortestRegister', WHERE WHAT IT READS IS OF BULK AT MOST 1048576: true; the input reads as it did. -/
def fnExactShortestRegisterUptoRow : OpenClaim := { program := "ytmlmbinpkmdjjaa", sum := "cc5fa130ada75e62a203556227cb371fbb648c2c1d937ec2011127cbb16dd739", func := "loop.example/spreadspectrum/laws.FnExactShortestRegister", spec := "fnExactShortestRegister", apart := false, narrowed := true }
def FnExactShortestRegisterUptoSaid : Prop := fnExactShortestRegisterUptoRow.holds Try.pinned (OpenSpec.upto fnExactShortestRegisterSpec)

/-- 'laws.FnParity', WHERE WHAT IT READS IS OF BULK AT MOST 1048576: true; the input reads as it did. -/
def fnParityUptoRow : OpenClaim := { program := "ytmlmbinpkmdjjaa", sum := "cc5fa130ada75e62a203556227cb371fbb648c2c1d937ec2011127cbb16dd739", func := "loop.example/spreadspectrum/laws.FnParity", spec := "fnParity", apart := false, narrowed := true }
def FnParityUptoSaid : Prop := fnParityUptoRow.holds Try.pinned (OpenSpec.upto fnParitySpec)

/-- 'laws.FnStepBack', WHERE WHAT IT READS IS OF BULK AT MOST 1048576: true; the input reads as it did. -/
def fnStepBackUptoRow : OpenClaim := { program := "ytmlmbinpkmdjjaa", sum := "cc5fa130ada75e62a203556227cb371fbb648c2c1d937ec2011127cbb16dd739", func := "loop.example/spreadspectrum/laws.FnStepBack", spec := "fnStepBack", apart := false, narrowed := true }
def FnStepBackUptoSaid : Prop := fnStepBackUptoRow.holds Try.pinned (OpenSpec.upto fnStepBackSpec)

/-- 'laws.FnStepBits', WHERE WHAT IT READS IS OF BULK AT MOST 1048576: true; the input reads as it did. -/
def fnStepBitsUptoRow : OpenClaim := { program := "ytmlmbinpkmdjjaa", sum := "cc5fa130ada75e62a203556227cb371fbb648c2c1d937ec2011127cbb16dd739", func := "loop.example/spreadspectrum/laws.FnStepBits", spec := "fnStepBits", apart := false, narrowed := true }
def FnStepBitsUptoSaid : Prop := fnStepBitsUptoRow.holds Try.pinned (OpenSpec.upto fnStepBitsSpec)

/-- 'laws.FnJump', WHERE WHAT IT READS IS OF BULK AT MOST 1048576: true; the input reads as it did. -/
def fnJumpUptoRow : OpenClaim := { program := "ytmlmbinpkmdjjaa", sum := "cc5fa130ada75e62a203556227cb371fbb648c2c1d937ec2011127cbb16dd739", func := "loop.example/spreadspectrum/laws.FnJump", spec := "fnJump", apart := false, narrowed := true }
def FnJumpUptoSaid : Prop := fnJumpUptoRow.holds Try.pinned (OpenSpec.upto fnJumpSpec)

/-- 'laws.FnAddRegisters', WHERE WHAT IT READS IS OF BULK AT MOST 1048576: true; the input reads as it did. -/
def fnAddRegistersUptoRow : OpenClaim := { program := "ytmlmbinpkmdjjaa", sum := "cc5fa130ada75e62a203556227cb371fbb648c2c1d937ec2011127cbb16dd739", func := "loop.example/spreadspectrum/laws.FnAddRegisters", spec := "fnAddRegisters", apart := false, narrowed := true }
def FnAddRegistersUptoSaid : Prop := fnAddRegistersUptoRow.holds Try.pinned (OpenSpec.upto fnAddRegistersSpec)

/-- 'laws.FnRunSteps', WHERE WHAT IT READS IS OF BULK AT MOST 1048576: true; the input reads as it did. -/
def fnRunStepsUptoRow : OpenClaim := { program := "ytmlmbinpkmdjjaa", sum := "cc5fa130ada75e62a203556227cb371fbb648c2c1d937ec2011127cbb16dd739", func := "loop.example/spreadspectrum/laws.FnRunSteps", spec := "fnRunSteps", apart := false, narrowed := true }
def FnRunStepsUptoSaid : Prop := fnRunStepsUptoRow.holds Try.pinned (OpenSpec.upto fnRunStepsSpec)

end Rows
end Go.Proofs.Ytmlmbinpkmdjjaa
