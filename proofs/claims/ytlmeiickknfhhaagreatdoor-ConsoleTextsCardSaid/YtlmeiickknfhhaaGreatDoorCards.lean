/-
  DERIVED. GIVEN WITH THE SEED: THE CARDS: each row of YtlmeiickknfhhaaGreatDoorRows.lean that lists a variable, with what it lists TIED to the program's text (the seventh form; the later family's looks); each row that meets fmt, with fmt's text TOLD by the authors' own Lean function (tested against real Go, not proved from fmt's source: count such statements apart). THE CARD IS WHAT COUNTS. Prove the row's statement (the work); the ties are given (YtlmeiickknfhhaaGreatDoorTie.lean); close each card by the builder's one call (the guide's Derived/Test/ToyasCard.lean, 'card_holds'). Laid BY PROGRAM, IN A SANDBOX (cutbox-door.mjs). By AI agents, Wed Nov 11 2026. No macro, syntax, notation, axiom, sorry.
-/
import Derived.Test.YtlmeiickknfhhaaGreatDoorRows
import GoSem.ClaimSeven
namespace Go.Proofs.YtlmeiickknfhhaaGreatDoor
namespace Rows

/-- THE TIED CARD OF 'putloglaw43.ConsoleTexts'. -/
def consoleTextsCard : Claim7 := { stood := { row := consoleTextsRow, standIns := [], harness := (true, "088dbfbb691338ca4148344d46031f45cc00d38e5a4ecad2a27492b41ce58c70"), looks := true }, kinds := [], alts := [], laidByText := true, laidKinds := [.data, .data, .data, .data, .sentinel, .sentinel, .data, .pinned], laidTests := true, laidLooks := .later }
def ConsoleTextsCardSaid : Prop := Claim7.holds Tryz.pinned (.plain (OpenSpec.ofChange consoleTextsSpec)) consoleTextsCard

/-- THE SECOND FORM's CARD OF 'putloglaw43.ConsoleTexts'. -/
def consoleTextsUptoCard : Claim7 := { stood := { row := consoleTextsUptoRow, standIns := [], harness := (true, "088dbfbb691338ca4148344d46031f45cc00d38e5a4ecad2a27492b41ce58c70"), looks := true }, kinds := [], alts := [], laidByText := true, laidKinds := [.data, .data, .data, .data, .sentinel, .sentinel, .data, .pinned], laidTests := true, laidLooks := .later }
def ConsoleTextsUptoCardSaid : Prop := Claim7.holds Tryz.pinned (.plain (OpenSpec.upto consoleTextsSpec)) consoleTextsUptoCard
end Rows
end Go.Proofs.YtlmeiickknfhhaaGreatDoor
