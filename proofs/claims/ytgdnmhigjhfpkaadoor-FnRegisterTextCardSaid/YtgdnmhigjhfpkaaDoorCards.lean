/-
  DERIVED. GIVEN WITH THE SEED: THE CARDS: each row of YtgdnmhigjhfpkaaDoorRows.lean that lists a variable, with what it lists TIED to the program's text (the seventh form; the later family's looks); each row that meets fmt, with fmt's text TOLD by the authors' own Lean function (tested against real Go, not proved from fmt's source: count such statements apart). THE CARD IS WHAT COUNTS. Prove the row's statement (the work); the ties are given (YtgdnmhigjhfpkaaDoorTie.lean); close each card by the builder's one call (the guide's Derived/Test/ToyasCard.lean, 'card_holds'). Laid BY PROGRAM, IN A SANDBOX (cutbox-door.mjs). By AI agents, Wed Nov 11 2026. No macro, syntax, notation, axiom, sorry.
-/
import Derived.Test.YtgdnmhigjhfpkaaDoorRows
import GoSem.ClaimSeven
namespace Go.Proofs.YtgdnmhigjhfpkaaDoor
namespace Rows

/-- THE TIED CARD OF 'laws.FnExactFormatRegister'. -/
def fnExactFormatRegisterCard : Claim7 := { stood := { row := fnExactFormatRegisterRow, standIns := [], harness := (true, "19a7366e81ca71c6540cd147a75a7518b21badc8173b456305e4185514c2afed"), looks := false }, kinds := [], alts := [], laidByText := true, laidKinds := [.data, .data, .data], laidTests := true, laidLooks := .later }
def FnExactFormatRegisterCardSaid : Prop := Claim7.holds Tryd.pinned (.plain (OpenSpec.ofChange fnExactFormatRegisterSpec)) fnExactFormatRegisterCard

/-- THE TIED CARD OF 'laws.FnExactParseRegister'. -/
def fnExactParseRegisterCard : Claim7 := { stood := { row := fnExactParseRegisterRow, standIns := [], harness := (true, "19a7366e81ca71c6540cd147a75a7518b21badc8173b456305e4185514c2afed"), looks := false }, kinds := [], alts := [], laidByText := true, laidKinds := [.data, .pinned], laidTests := true, laidLooks := .later }
def FnExactParseRegisterCardSaid : Prop := Claim7.holds Tryd.pinned (.plain (OpenSpec.ofChange fnExactParseRegisterSpec)) fnExactParseRegisterCard

/-- THE TIED CARD OF 'laws.FnRegisterText'. -/
def fnRegisterTextCard : Claim7 := { stood := { row := fnRegisterTextRow, standIns := [], harness := (true, "19a7366e81ca71c6540cd147a75a7518b21badc8173b456305e4185514c2afed"), looks := false }, kinds := [], alts := [], laidByText := true, laidKinds := [.data, .data, .data, .data, .pinned], laidTests := true, laidLooks := .later }
def FnRegisterTextCardSaid : Prop := Claim7.holds Tryd.pinned (.plain (OpenSpec.ofChange fnRegisterTextSpec)) fnRegisterTextCard

/-- THE SECOND FORM's CARD OF 'laws.FnExactFormatRegister'. -/
def fnExactFormatRegisterUptoCard : Claim7 := { stood := { row := fnExactFormatRegisterUptoRow, standIns := [], harness := (true, "19a7366e81ca71c6540cd147a75a7518b21badc8173b456305e4185514c2afed"), looks := false }, kinds := [], alts := [], laidByText := true, laidKinds := [.data, .data, .data], laidTests := true, laidLooks := .later }
def FnExactFormatRegisterUptoCardSaid : Prop := Claim7.holds Tryd.pinned (.plain (OpenSpec.upto fnExactFormatRegisterSpec)) fnExactFormatRegisterUptoCard

/-- THE SECOND FORM's CARD OF 'laws.FnExactParseRegister'. -/
def fnExactParseRegisterUptoCard : Claim7 := { stood := { row := fnExactParseRegisterUptoRow, standIns := [], harness := (true, "19a7366e81ca71c6540cd147a75a7518b21badc8173b456305e4185514c2afed"), looks := false }, kinds := [], alts := [], laidByText := true, laidKinds := [.data, .pinned], laidTests := true, laidLooks := .later }
def FnExactParseRegisterUptoCardSaid : Prop := Claim7.holds Tryd.pinned (.plain (OpenSpec.upto fnExactParseRegisterSpec)) fnExactParseRegisterUptoCard

/-- THE SECOND FORM's CARD OF 'laws.FnRegisterText'. -/
def fnRegisterTextUptoCard : Claim7 := { stood := { row := fnRegisterTextUptoRow, standIns := [], harness := (true, "19a7366e81ca71c6540cd147a75a7518b21badc8173b456305e4185514c2afed"), looks := false }, kinds := [], alts := [], laidByText := true, laidKinds := [.data, .data, .data, .data, .pinned], laidTests := true, laidLooks := .later }
def FnRegisterTextUptoCardSaid : Prop := Claim7.holds Tryd.pinned (.plain (OpenSpec.upto fnRegisterTextSpec)) fnRegisterTextUptoCard
end Rows
end Go.Proofs.YtgdnmhigjhfpkaaDoor
