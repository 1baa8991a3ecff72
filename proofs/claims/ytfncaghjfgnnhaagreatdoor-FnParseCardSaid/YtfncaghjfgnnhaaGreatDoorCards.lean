/-
  DERIVED. GIVEN WITH THE SEED: THE CARDS: each row of YtfncaghjfgnnhaaGreatDoorRows.lean that lists a variable, with what it lists TIED to the program's text (the seventh form; the later family's looks); each row that meets fmt, with fmt's text TOLD by the authors' own Lean function (tested against real Go, not proved from fmt's source: count such statements apart). THE CARD IS WHAT COUNTS. Prove the row's statement (the work); the ties are given (YtfncaghjfgnnhaaGreatDoorTie.lean); close each card by the builder's one call (the guide's Derived/Test/ToyasCard.lean, 'card_holds'). Laid BY PROGRAM, IN A SANDBOX (cutbox-door.mjs). By AI agents, Wed Nov 11 2026. No macro, syntax, notation, axiom, sorry.
-/
import Derived.Test.YtfncaghjfgnnhaaGreatDoorRows
import GoSem.ClaimSeven
namespace Go.Proofs.YtfncaghjfgnnhaaGreatDoor
namespace Rows

/-- THE TIED CARD OF 'laws.FnExactParseJson'. -/
def fnExactParseJsonCard : Claim7 := { stood := { row := fnExactParseJsonRow, standIns := [], harness := (true, "5999c180135c8a99d49af05bbd999f56b1adea933d1d0ec5ec663699d643826a"), looks := true }, kinds := [], alts := [], laidByText := true, laidKinds := [.data, .data, .data, .sentinel, .sentinel], laidTests := true, laidLooks := .later }
def FnExactParseJsonCardSaid : Prop := Claim7.holds Tryz.pinned (.plain (OpenSpec.ofChange fnExactParseJsonSpec)) fnExactParseJsonCard

/-- THE TIED CARD OF 'laws.FnJson'. -/
def fnJsonCard : Claim7 := { stood := { row := fnJsonRow, standIns := [], harness := (true, "5999c180135c8a99d49af05bbd999f56b1adea933d1d0ec5ec663699d643826a"), looks := true }, kinds := [], alts := [], laidByText := true, laidKinds := [.data, .data, .data, .sentinel, .sentinel], laidTests := true, laidLooks := .later }
def FnJsonCardSaid : Prop := Claim7.holds Tryz.pinned (.plain (OpenSpec.ofChange fnJsonSpec)) fnJsonCard

/-- THE TIED CARD OF 'laws.FnParse'. -/
def fnParseCard : Claim7 := { stood := { row := fnParseRow, standIns := [], harness := (true, "5999c180135c8a99d49af05bbd999f56b1adea933d1d0ec5ec663699d643826a"), looks := true }, kinds := [], alts := [], laidByText := true, laidKinds := [.data, .data, .data, .sentinel, .sentinel], laidTests := true, laidLooks := .later }
def FnParseCardSaid : Prop := Claim7.holds Tryz.pinned (.plain (OpenSpec.ofChange fnParseSpec)) fnParseCard

/-- THE SECOND FORM's CARD OF 'laws.FnExactParseJson'. -/
def fnExactParseJsonUptoCard : Claim7 := { stood := { row := fnExactParseJsonUptoRow, standIns := [], harness := (true, "5999c180135c8a99d49af05bbd999f56b1adea933d1d0ec5ec663699d643826a"), looks := true }, kinds := [], alts := [], laidByText := true, laidKinds := [.data, .data, .data, .sentinel, .sentinel], laidTests := true, laidLooks := .later }
def FnExactParseJsonUptoCardSaid : Prop := Claim7.holds Tryz.pinned (.plain (OpenSpec.upto fnExactParseJsonSpec)) fnExactParseJsonUptoCard

/-- THE SECOND FORM's CARD OF 'laws.FnJson'. -/
def fnJsonUptoCard : Claim7 := { stood := { row := fnJsonUptoRow, standIns := [], harness := (true, "5999c180135c8a99d49af05bbd999f56b1adea933d1d0ec5ec663699d643826a"), looks := true }, kinds := [], alts := [], laidByText := true, laidKinds := [.data, .data, .data, .sentinel, .sentinel], laidTests := true, laidLooks := .later }
def FnJsonUptoCardSaid : Prop := Claim7.holds Tryz.pinned (.plain (OpenSpec.upto fnJsonSpec)) fnJsonUptoCard

/-- THE SECOND FORM's CARD OF 'laws.FnParse'. -/
def fnParseUptoCard : Claim7 := { stood := { row := fnParseUptoRow, standIns := [], harness := (true, "5999c180135c8a99d49af05bbd999f56b1adea933d1d0ec5ec663699d643826a"), looks := true }, kinds := [], alts := [], laidByText := true, laidKinds := [.data, .data, .data, .sentinel, .sentinel], laidTests := true, laidLooks := .later }
def FnParseUptoCardSaid : Prop := Claim7.holds Tryz.pinned (.plain (OpenSpec.upto fnParseSpec)) fnParseUptoCard
end Rows
end Go.Proofs.YtfncaghjfgnnhaaGreatDoor
