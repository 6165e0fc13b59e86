/-
  No cell of these rows narrows 'for every input' (looked for: loops, veiled, ifaces, maps, wideKeys, modest, calm, conditions, laid).
  DERIVED. THE GIVEN ROWS OF THIS SEAT. 12 by the template 'for every input the law returns true; each argument reads behind the call as it read before'; 0 by the template 'total and deterministic' (their statements: YtfkiecknobbjeaaTotals.lean).
  GIVEN WITH THE SEED: the statements are not yours to turn. If you find one false, say at which input.
  Laid BY PROGRAM, IN A SANDBOX (cutbox-rows.mjs): the forced cells as the released guide's own fill.sh prints them over the translation 721d3a27ff9a99f5… (all of the seat's roots in one cut). By AI agents, Wed Nov 11 2026. No macro, syntax, notation, axiom, sorry.
-/
import Derived.Test.YtfkiecknobbjeaaChecked
import GoSem.Claim
import GoSem.ClaimJoined
import GoSem.ClaimMapViews
import Derived.JoinedTies
import Derived.KernelRfl
namespace Go.Proofs.Ytfkiecknobbjeaa
/- THE CELL 'sum', in the pinned program and in every row, IS THE sha256 OF THE DUMP (.gsa) THAT YtfkiecknobbjeaaProg.lean LOADS. Nothing in Lean hashes anything: it is a label: what it is worth is what the hold of that sum in a sandbox is worth. -/
noncomputable def Try.pinned : Pinned := { name := "ytfkiecknobbjeaa", sum := "721d3a27ff9a99f5a85b26f72346609af6705814013ec0919d1d6cd4cd6c9aab", checked := Try.checked }
namespace Rows
def none {H : Type} : Left H := { results := [], args := [] }

/-- 'laws.FnExactConstants': WHATEVER THE INPUT: true; the input reads as it did. -/
def fnExactConstantsSpec : ChangeSpec := { name := "fnExactConstants", fn := fun _ => fun
  | [] => { results := [.lit (.bool true)], args := [] }
  | _ => none }
def fnExactConstantsRow : OpenClaim := { program := "ytfkiecknobbjeaa", sum := "721d3a27ff9a99f5a85b26f72346609af6705814013ec0919d1d6cd4cd6c9aab", func := "loop.example/spreadspectrum/laws.FnExactConstants", spec := "fnExactConstants", apart := false }
def FnExactConstantsSaid : Prop := fnExactConstantsRow.holds Try.pinned (OpenSpec.ofChange fnExactConstantsSpec)

/-- ITS FALSE NEIGHBOUR: 'it returns false'. Refute it at one input. -/
def fnExactConstantsWrong : ChangeSpec := { name := "fnExactConstants", fn := fun _ => fun
  | [] => { results := [.lit (.bool false)], args := [] }
  | _ => none }
def FnExactConstantsWrongFalsely : Prop := fnExactConstantsRow.holds Try.pinned (OpenSpec.ofChange fnExactConstantsWrong)

/-- 'laws.FnExactRegisterValid': WHATEVER THE INPUT: true; the input reads as it did. -/
def fnExactRegisterValidSpec : ChangeSpec := { name := "fnExactRegisterValid", fn := fun _ => fun
  | [d] => { results := [.lit (.bool true)], args := [d] }
  | _ => none }
def fnExactRegisterValidRow : OpenClaim := { program := "ytfkiecknobbjeaa", sum := "721d3a27ff9a99f5a85b26f72346609af6705814013ec0919d1d6cd4cd6c9aab", func := "loop.example/spreadspectrum/laws.FnExactRegisterValid", spec := "fnExactRegisterValid", apart := false }
def FnExactRegisterValidSaid : Prop := fnExactRegisterValidRow.holds Try.pinned (OpenSpec.ofChange fnExactRegisterValidSpec)

/-- ITS FALSE NEIGHBOUR: 'it returns false'. Refute it at one input. -/
def fnExactRegisterValidWrong : ChangeSpec := { name := "fnExactRegisterValid", fn := fun _ => fun
  | [d] => { results := [.lit (.bool false)], args := [d] }
  | _ => none }
def FnExactRegisterValidWrongFalsely : Prop := fnExactRegisterValidRow.holds Try.pinned (OpenSpec.ofChange fnExactRegisterValidWrong)

/-- 'laws.FnExactParity': WHATEVER THE INPUT: true; the input reads as it did. -/
def fnExactParitySpec : ChangeSpec := { name := "fnExactParity", fn := fun _ => fun
  | [d] => { results := [.lit (.bool true)], args := [d] }
  | _ => none }
def fnExactParityRow : OpenClaim := { program := "ytfkiecknobbjeaa", sum := "721d3a27ff9a99f5a85b26f72346609af6705814013ec0919d1d6cd4cd6c9aab", func := "loop.example/spreadspectrum/laws.FnExactParity", spec := "fnExactParity", apart := false }
def FnExactParitySaid : Prop := fnExactParityRow.holds Try.pinned (OpenSpec.ofChange fnExactParitySpec)

/-- ITS FALSE NEIGHBOUR: 'it returns false'. Refute it at one input. -/
def fnExactParityWrong : ChangeSpec := { name := "fnExactParity", fn := fun _ => fun
  | [d] => { results := [.lit (.bool false)], args := [d] }
  | _ => none }
def FnExactParityWrongFalsely : Prop := fnExactParityRow.holds Try.pinned (OpenSpec.ofChange fnExactParityWrong)

/-- 'laws.FnExactReverseTaps': WHATEVER THE INPUT: true; the input reads as it did. -/
def fnExactReverseTapsSpec : ChangeSpec := { name := "fnExactReverseTaps", fn := fun _ => fun
  | [d1, d2] => { results := [.lit (.bool true)], args := [d1, d2] }
  | _ => none }
def fnExactReverseTapsRow : OpenClaim := { program := "ytfkiecknobbjeaa", sum := "721d3a27ff9a99f5a85b26f72346609af6705814013ec0919d1d6cd4cd6c9aab", func := "loop.example/spreadspectrum/laws.FnExactReverseTaps", spec := "fnExactReverseTaps", apart := false }
def FnExactReverseTapsSaid : Prop := fnExactReverseTapsRow.holds Try.pinned (OpenSpec.ofChange fnExactReverseTapsSpec)

/-- ITS FALSE NEIGHBOUR: 'it returns false'. Refute it at one input. -/
def fnExactReverseTapsWrong : ChangeSpec := { name := "fnExactReverseTaps", fn := fun _ => fun
  | [d1, d2] => { results := [.lit (.bool false)], args := [d1, d2] }
  | _ => none }
def FnExactReverseTapsWrongFalsely : Prop := fnExactReverseTapsRow.holds Try.pinned (OpenSpec.ofChange fnExactReverseTapsWrong)

/-- 'laws.FnExactAddRegisters': WHATEVER THE INPUT: true; the input reads as it did. -/
def fnExactAddRegistersSpec : ChangeSpec := { name := "fnExactAddRegisters", fn := fun _ => fun
  | [d1, d2] => { results := [.lit (.bool true)], args := [d1, d2] }
  | _ => none }
def fnExactAddRegistersRow : OpenClaim := { program := "ytfkiecknobbjeaa", sum := "721d3a27ff9a99f5a85b26f72346609af6705814013ec0919d1d6cd4cd6c9aab", func := "loop.example/spreadspectrum/laws.FnExactAddRegisters", spec := "fnExactAddRegisters", apart := false }
def FnExactAddRegistersSaid : Prop := fnExactAddRegistersRow.holds Try.pinned (OpenSpec.ofChange fnExactAddRegistersSpec)

/-- ITS FALSE NEIGHBOUR: 'it returns false'. Refute it at one input. -/
def fnExactAddRegistersWrong : ChangeSpec := { name := "fnExactAddRegisters", fn := fun _ => fun
  | [d1, d2] => { results := [.lit (.bool false)], args := [d1, d2] }
  | _ => none }
def FnExactAddRegistersWrongFalsely : Prop := fnExactAddRegistersRow.holds Try.pinned (OpenSpec.ofChange fnExactAddRegistersWrong)

/-- 'laws.FnExactRegisterFrom': WHATEVER THE INPUT: true; the input reads as it did. -/
def fnExactRegisterFromSpec : ChangeSpec := { name := "fnExactRegisterFrom", fn := fun _ => fun
  | [d1, d2, d3] => { results := [.lit (.bool true)], args := [d1, d2, d3] }
  | _ => none }
def fnExactRegisterFromRow : OpenClaim := { program := "ytfkiecknobbjeaa", sum := "721d3a27ff9a99f5a85b26f72346609af6705814013ec0919d1d6cd4cd6c9aab", func := "loop.example/spreadspectrum/laws.FnExactRegisterFrom", spec := "fnExactRegisterFrom", apart := false }
def FnExactRegisterFromSaid : Prop := fnExactRegisterFromRow.holds Try.pinned (OpenSpec.ofChange fnExactRegisterFromSpec)

/-- ITS FALSE NEIGHBOUR: 'it returns false'. Refute it at one input. -/
def fnExactRegisterFromWrong : ChangeSpec := { name := "fnExactRegisterFrom", fn := fun _ => fun
  | [d1, d2, d3] => { results := [.lit (.bool false)], args := [d1, d2, d3] }
  | _ => none }
def FnExactRegisterFromWrongFalsely : Prop := fnExactRegisterFromRow.holds Try.pinned (OpenSpec.ofChange fnExactRegisterFromWrong)

/-- 'laws.FnExactRunRegister': WHATEVER THE INPUT: true; the input reads as it did. -/
def fnExactRunRegisterSpec : ChangeSpec := { name := "fnExactRunRegister", fn := fun _ => fun
  | [d1, d2] => { results := [.lit (.bool true)], args := [d1, d2] }
  | _ => none }
def fnExactRunRegisterRow : OpenClaim := { program := "ytfkiecknobbjeaa", sum := "721d3a27ff9a99f5a85b26f72346609af6705814013ec0919d1d6cd4cd6c9aab", func := "loop.example/spreadspectrum/laws.FnExactRunRegister", spec := "fnExactRunRegister", apart := false }
def FnExactRunRegisterSaid : Prop := fnExactRunRegisterRow.holds Try.pinned (OpenSpec.ofChange fnExactRunRegisterSpec)

/-- ITS FALSE NEIGHBOUR: 'it returns false'. Refute it at one input. -/
def fnExactRunRegisterWrong : ChangeSpec := { name := "fnExactRunRegister", fn := fun _ => fun
  | [d1, d2] => { results := [.lit (.bool false)], args := [d1, d2] }
  | _ => none }
def FnExactRunRegisterWrongFalsely : Prop := fnExactRunRegisterRow.holds Try.pinned (OpenSpec.ofChange fnExactRunRegisterWrong)

/-- 'laws.FnExactStepRegister': WHATEVER THE INPUT: true; the input reads as it did. -/
def fnExactStepRegisterSpec : ChangeSpec := { name := "fnExactStepRegister", fn := fun _ => fun
  | [d] => { results := [.lit (.bool true)], args := [d] }
  | _ => none }
def fnExactStepRegisterRow : OpenClaim := { program := "ytfkiecknobbjeaa", sum := "721d3a27ff9a99f5a85b26f72346609af6705814013ec0919d1d6cd4cd6c9aab", func := "loop.example/spreadspectrum/laws.FnExactStepRegister", spec := "fnExactStepRegister", apart := false }
def FnExactStepRegisterSaid : Prop := fnExactStepRegisterRow.holds Try.pinned (OpenSpec.ofChange fnExactStepRegisterSpec)

/-- ITS FALSE NEIGHBOUR: 'it returns false'. Refute it at one input. -/
def fnExactStepRegisterWrong : ChangeSpec := { name := "fnExactStepRegister", fn := fun _ => fun
  | [d] => { results := [.lit (.bool false)], args := [d] }
  | _ => none }
def FnExactStepRegisterWrongFalsely : Prop := fnExactStepRegisterRow.holds Try.pinned (OpenSpec.ofChange fnExactStepRegisterWrong)

/-- 'laws.FnExactBackRegister': WHATEVER THE INPUT: true; the input reads as it did. -/
def fnExactBackRegisterSpec : ChangeSpec := { name := "fnExactBackRegister", fn := fun _ => fun
  | [d] => { results := [.lit (.bool true)], args := [d] }
  | _ => none }
def fnExactBackRegisterRow : OpenClaim := { program := "ytfkiecknobbjeaa", sum := "721d3a27ff9a99f5a85b26f72346609af6705814013ec0919d1d6cd4cd6c9aab", func := "loop.example/spreadspectrum/laws.FnExactBackRegister", spec := "fnExactBackRegister", apart := false }
def FnExactBackRegisterSaid : Prop := fnExactBackRegisterRow.holds Try.pinned (OpenSpec.ofChange fnExactBackRegisterSpec)

/-- ITS FALSE NEIGHBOUR: 'it returns false'. Refute it at one input. -/
def fnExactBackRegisterWrong : ChangeSpec := { name := "fnExactBackRegister", fn := fun _ => fun
  | [d] => { results := [.lit (.bool false)], args := [d] }
  | _ => none }
def FnExactBackRegisterWrongFalsely : Prop := fnExactBackRegisterRow.holds Try.pinned (OpenSpec.ofChange fnExactBackRegisterWrong)

/-- 'laws.FnExactJumpRegister': WHATEVER THE INPUT: true; the input reads as it did. -/
def fnExactJumpRegisterSpec : ChangeSpec := { name := "fnExactJumpRegister", fn := fun _ => fun
  | [d1, d2] => { results := [.lit (.bool true)], args := [d1, d2] }
  | _ => none }
def fnExactJumpRegisterRow : OpenClaim := { program := "ytfkiecknobbjeaa", sum := "721d3a27ff9a99f5a85b26f72346609af6705814013ec0919d1d6cd4cd6c9aab", func := "loop.example/spreadspectrum/laws.FnExactJumpRegister", spec := "fnExactJumpRegister", apart := false }
def FnExactJumpRegisterSaid : Prop := fnExactJumpRegisterRow.holds Try.pinned (OpenSpec.ofChange fnExactJumpRegisterSpec)

/-- ITS FALSE NEIGHBOUR: 'it returns false'. Refute it at one input. -/
def fnExactJumpRegisterWrong : ChangeSpec := { name := "fnExactJumpRegister", fn := fun _ => fun
  | [d1, d2] => { results := [.lit (.bool false)], args := [d1, d2] }
  | _ => none }
def FnExactJumpRegisterWrongFalsely : Prop := fnExactJumpRegisterRow.holds Try.pinned (OpenSpec.ofChange fnExactJumpRegisterWrong)

/-- 'laws.FnExactLeadOf': WHATEVER THE INPUT: true; the input reads as it did. -/
def fnExactLeadOfSpec : ChangeSpec := { name := "fnExactLeadOf", fn := fun _ => fun
  | [d] => { results := [.lit (.bool true)], args := [d] }
  | _ => none }
def fnExactLeadOfRow : OpenClaim := { program := "ytfkiecknobbjeaa", sum := "721d3a27ff9a99f5a85b26f72346609af6705814013ec0919d1d6cd4cd6c9aab", func := "loop.example/spreadspectrum/laws.FnExactLeadOf", spec := "fnExactLeadOf", apart := false }
def FnExactLeadOfSaid : Prop := fnExactLeadOfRow.holds Try.pinned (OpenSpec.ofChange fnExactLeadOfSpec)

/-- ITS FALSE NEIGHBOUR: 'it returns false'. Refute it at one input. -/
def fnExactLeadOfWrong : ChangeSpec := { name := "fnExactLeadOf", fn := fun _ => fun
  | [d] => { results := [.lit (.bool false)], args := [d] }
  | _ => none }
def FnExactLeadOfWrongFalsely : Prop := fnExactLeadOfRow.holds Try.pinned (OpenSpec.ofChange fnExactLeadOfWrong)

/-- 'laws.FnExactPeriodOf': WHATEVER THE INPUT: true; the input reads as it did. -/
def fnExactPeriodOfSpec : ChangeSpec := { name := "fnExactPeriodOf", fn := fun _ => fun
  | [d] => { results := [.lit (.bool true)], args := [d] }
  | _ => none }
def fnExactPeriodOfRow : OpenClaim := { program := "ytfkiecknobbjeaa", sum := "721d3a27ff9a99f5a85b26f72346609af6705814013ec0919d1d6cd4cd6c9aab", func := "loop.example/spreadspectrum/laws.FnExactPeriodOf", spec := "fnExactPeriodOf", apart := false }
def FnExactPeriodOfSaid : Prop := fnExactPeriodOfRow.holds Try.pinned (OpenSpec.ofChange fnExactPeriodOfSpec)

/-- ITS FALSE NEIGHBOUR: 'it returns false'. Refute it at one input. -/
def fnExactPeriodOfWrong : ChangeSpec := { name := "fnExactPeriodOf", fn := fun _ => fun
  | [d] => { results := [.lit (.bool false)], args := [d] }
  | _ => none }
def FnExactPeriodOfWrongFalsely : Prop := fnExactPeriodOfRow.holds Try.pinned (OpenSpec.ofChange fnExactPeriodOfWrong)

/- THE SECOND FORM. 'bulk': how many values and letters a reading holds, each counted each time it is reached (what is shared counts as often as it is met; a slice's spare places count too). A statement '..UptoSaid' is the law's where the arguments, and the package variables that the reading takes, are together of bulk at most 1048576: NARROWER than '..Said'. Prove '..Said' where nothing that the law and all that it calls make is longer than what came in: it says more and counts as full. Else prove '..UptoSaid'. A law counts once. -/
mutual
def uptoBulk {H : Type} : DataW H → Nat
  | .lit (.string bytes) => bytes.length + 1
  | .lit _ => 1
  | .nil => 1
  | .ptr d => uptoBulk d + 1
  | .slice elems spare => uptoBulkAll elems + uptoBulkAll spare + 1
  | .agg parts => uptoBulkAll parts + 1
  | .iface _ d => uptoBulk d + 1
  | .map entries => uptoBulkEntries entries + 1
  | .held _ => 1
def uptoBulkAll {H : Type} : List (DataW H) → Nat
  | [] => 0
  | d :: r => uptoBulk d + uptoBulkAll r
def uptoBulkEntries {H : Type} : List (Lit × DataW H) → Nat
  | [] => 0
  | x :: r => uptoBulkEntry x + uptoBulkEntries r
def uptoBulkEntry {H : Type} : Lit × DataW H → Nat
  | (.string bytes, d) => bytes.length + uptoBulk d + 1
  | (_, d) => uptoBulk d + 1
 end
def uptoSmall : (H : Type) → List (DataW H) → Bool := fun _ ds => decide (uptoBulkAll ds ≤ 1048576)
def OpenSpec.upto (s : _root_.Go.ChangeSpec) : _root_.Go.OpenSpec := { _root_.Go.OpenSpec.ofChange s with cond := some uptoSmall }

/-- 'laws.FnExactConstants', WHERE WHAT IT READS IS OF BULK AT MOST 1048576: true; the input reads as it did. -/
def fnExactConstantsUptoRow : OpenClaim := { program := "ytfkiecknobbjeaa", sum := "721d3a27ff9a99f5a85b26f72346609af6705814013ec0919d1d6cd4cd6c9aab", func := "loop.example/spreadspectrum/laws.FnExactConstants", spec := "fnExactConstants", apart := false, narrowed := true }
def FnExactConstantsUptoSaid : Prop := fnExactConstantsUptoRow.holds Try.pinned (OpenSpec.upto fnExactConstantsSpec)

/-- 'laws.FnExactRegisterValid', WHERE WHAT IT READS IS OF BULK AT MOST 1048576: true; the input reads as it did. -/
def fnExactRegisterValidUptoRow : OpenClaim := { program := "ytfkiecknobbjeaa", sum := "721d3a27ff9a99f5a85b26f72346609af6705814013ec0919d1d6cd4cd6c9aab", func := "loop.example/spreadspectrum/laws.FnExactRegisterValid", spec := "fnExactRegisterValid", apart := false, narrowed := true }
def FnExactRegisterValidUptoSaid : Prop := fnExactRegisterValidUptoRow.holds Try.pinned (OpenSpec.upto fnExactRegisterValidSpec)

/-- 'laws.FnExactParity', WHERE WHAT IT READS IS OF BULK AT MOST 1048576: true; the input reads as it did. -/
def fnExactParityUptoRow : OpenClaim := { program := "ytfkiecknobbjeaa", sum := "721d3a27ff9a99f5a85b26f72346609af6705814013ec0919d1d6cd4cd6c9aab", func := "loop.example/spreadspectrum/laws.FnExactParity", spec := "fnExactParity", apart := false, narrowed := true }
def FnExactParityUptoSaid : Prop := fnExactParityUptoRow.holds Try.pinned (OpenSpec.upto fnExactParitySpec)

/-- 'laws.FnExactReverseTaps', WHERE WHAT IT READS IS OF BULK AT MOST 1048576: true; the input reads as it did. -/
def fnExactReverseTapsUptoRow : OpenClaim := { program := "ytfkiecknobbjeaa", sum := "721d3a27ff9a99f5a85b26f72346609af6705814013ec0919d1d6cd4cd6c9aab", func := "loop.example/spreadspectrum/laws.FnExactReverseTaps", spec := "fnExactReverseTaps", apart := false, narrowed := true }
def FnExactReverseTapsUptoSaid : Prop := fnExactReverseTapsUptoRow.holds Try.pinned (OpenSpec.upto fnExactReverseTapsSpec)

/-- 'laws.FnExactAddRegisters', WHERE WHAT IT READS IS OF BULK AT MOST 1048576: true; the input reads as it did. -/
def fnExactAddRegistersUptoRow : OpenClaim := { program := "ytfkiecknobbjeaa", sum := "721d3a27ff9a99f5a85b26f72346609af6705814013ec0919d1d6cd4cd6c9aab", func := "loop.example/spreadspectrum/laws.FnExactAddRegisters", spec := "fnExactAddRegisters", apart := false, narrowed := true }
def FnExactAddRegistersUptoSaid : Prop := fnExactAddRegistersUptoRow.holds Try.pinned (OpenSpec.upto fnExactAddRegistersSpec)

/-- 'laws.FnExactRegisterFrom', WHERE WHAT IT READS IS OF BULK AT MOST 1048576: true; the input reads as it did. -/
def fnExactRegisterFromUptoRow : OpenClaim := { program := "ytfkiecknobbjeaa", sum := "721d3a27ff9a99f5a85b26f72346609af6705814013ec0919d1d6cd4cd6c9aab", func := "loop.example/spreadspectrum/laws.FnExactRegisterFrom", spec := "fnExactRegisterFrom", apart := false, narrowed := true }
def FnExactRegisterFromUptoSaid : Prop := fnExactRegisterFromUptoRow.holds Try.pinned (OpenSpec.upto fnExactRegisterFromSpec)

/-- 'laws.FnExactRunRegister', WHERE WHAT IT READS IS OF BULK AT MOST 1048576: true; the input reads as it did. -/
def fnExactRunRegisterUptoRow : OpenClaim := { program := "ytfkiecknobbjeaa", sum := "721d3a27ff9a99f5a85b26f72346609af6705814013ec0919d1d6cd4cd6c9aab", func := "loop.example/spreadspectrum/laws.FnExactRunRegister", spec := "fnExactRunRegister", apart := false, narrowed := true }
def FnExactRunRegisterUptoSaid : Prop := fnExactRunRegisterUptoRow.holds Try.pinned (OpenSpec.upto fnExactRunRegisterSpec)

/-- 'laws.FnExactStepRegister', WHERE WHAT IT READS IS OF BULK AT MOST 1048576: true; the input reads as it did. -/
def fnExactStepRegisterUptoRow : OpenClaim := { program := "ytfkiecknobbjeaa", sum := "721d3a27ff9a99f5a85b26f72346609af6705814013ec0919d1d6cd4cd6c9aab", func := "loop.example/spreadspectrum/laws.FnExactStepRegister", spec := "fnExactStepRegister", apart := false, narrowed := true }
def FnExactStepRegisterUptoSaid : Prop := fnExactStepRegisterUptoRow.holds Try.pinned (OpenSpec.upto fnExactStepRegisterSpec)

/-- 'laws.FnExactBackRegister', WHERE WHAT IT READS IS OF BULK AT MOST 1048576: true; the input reads as it did. -/
def fnExactBackRegisterUptoRow : OpenClaim := { program := "ytfkiecknobbjeaa", sum := "721d3a27ff9a99f5a85b26f72346609af6705814013ec0919d1d6cd4cd6c9aab", func := "loop.example/spreadspectrum/laws.FnExactBackRegister", spec := "fnExactBackRegister", apart := false, narrowed := true }
def FnExactBackRegisterUptoSaid : Prop := fnExactBackRegisterUptoRow.holds Try.pinned (OpenSpec.upto fnExactBackRegisterSpec)

/-- 'laws.FnExactJumpRegister', WHERE WHAT IT READS IS OF BULK AT MOST 1048576: true; the input reads as it did. -/
def fnExactJumpRegisterUptoRow : OpenClaim := { program := "ytfkiecknobbjeaa", sum := "721d3a27ff9a99f5a85b26f72346609af6705814013ec0919d1d6cd4cd6c9aab", func := "loop.example/spreadspectrum/laws.FnExactJumpRegister", spec := "fnExactJumpRegister", apart := false, narrowed := true }
def FnExactJumpRegisterUptoSaid : Prop := fnExactJumpRegisterUptoRow.holds Try.pinned (OpenSpec.upto fnExactJumpRegisterSpec)

/-- 'laws.FnExactLeadOf', WHERE WHAT IT READS IS OF BULK AT MOST 1048576: true; the input reads as it did. -/
def fnExactLeadOfUptoRow : OpenClaim := { program := "ytfkiecknobbjeaa", sum := "721d3a27ff9a99f5a85b26f72346609af6705814013ec0919d1d6cd4cd6c9aab", func := "loop.example/spreadspectrum/laws.FnExactLeadOf", spec := "fnExactLeadOf", apart := false, narrowed := true }
def FnExactLeadOfUptoSaid : Prop := fnExactLeadOfUptoRow.holds Try.pinned (OpenSpec.upto fnExactLeadOfSpec)

/-- 'laws.FnExactPeriodOf', WHERE WHAT IT READS IS OF BULK AT MOST 1048576: true; the input reads as it did. -/
def fnExactPeriodOfUptoRow : OpenClaim := { program := "ytfkiecknobbjeaa", sum := "721d3a27ff9a99f5a85b26f72346609af6705814013ec0919d1d6cd4cd6c9aab", func := "loop.example/spreadspectrum/laws.FnExactPeriodOf", spec := "fnExactPeriodOf", apart := false, narrowed := true }
def FnExactPeriodOfUptoSaid : Prop := fnExactPeriodOfUptoRow.holds Try.pinned (OpenSpec.upto fnExactPeriodOfSpec)

end Rows
end Go.Proofs.Ytfkiecknobbjeaa
