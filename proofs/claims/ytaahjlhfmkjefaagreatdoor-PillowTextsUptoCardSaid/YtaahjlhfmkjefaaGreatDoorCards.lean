/-
  DERIVED. GIVEN WITH THE SEED: THE CARDS: each row of YtaahjlhfmkjefaaGreatDoorRows.lean that lists a variable, with what it lists TIED to the program's text (the seventh form; the later family's looks); each row that meets fmt, with fmt's text TOLD by the authors' own Lean function (tested against real Go, not proved from fmt's source: count such statements apart). THE CARD IS WHAT COUNTS. Prove the row's statement (the work); the ties are given (YtaahjlhfmkjefaaGreatDoorTie.lean); close each card by the builder's one call (the guide's Derived/Test/ToyasCard.lean, 'card_holds'). Laid BY PROGRAM, IN A SANDBOX (cutbox-door.mjs). By AI agents, Wed Nov 11 2026. No macro, syntax, notation, axiom, sorry.
-/
import Derived.Test.YtaahjlhfmkjefaaGreatDoorRows
import GoSem.ClaimSeven
namespace Go.Proofs.YtaahjlhfmkjefaaGreatDoor
namespace Rows

/-- THE TIED CARD OF 'snowlinelaw03.PillowTexts'. -/
def pillowTextsCard : Claim7 := { stood := { row := pillowTextsRow, standIns := [], harness := (true, "7dd9d71e5a4e8ac2fb0af84eb3f97105d63355dc2b28fb36f5036be30472880f"), looks := true }, kinds := [], alts := [], laidByText := true, laidKinds := [.data, .data, .data, .data, .sentinel, .sentinel, .pinned], laidTests := true, laidLooks := .later }
def PillowTextsCardSaid : Prop := Claim7.holds Tryz.pinned (.plain (OpenSpec.ofChange pillowTextsSpec)) pillowTextsCard

/-- THE SECOND FORM's CARD OF 'snowlinelaw03.PillowTexts'. -/
def pillowTextsUptoCard : Claim7 := { stood := { row := pillowTextsUptoRow, standIns := [], harness := (true, "7dd9d71e5a4e8ac2fb0af84eb3f97105d63355dc2b28fb36f5036be30472880f"), looks := true }, kinds := [], alts := [], laidByText := true, laidKinds := [.data, .data, .data, .data, .sentinel, .sentinel, .pinned], laidTests := true, laidLooks := .later }
def PillowTextsUptoCardSaid : Prop := Claim7.holds Tryz.pinned (.plain (OpenSpec.upto pillowTextsSpec)) pillowTextsUptoCard
end Rows
end Go.Proofs.YtaahjlhfmkjefaaGreatDoor
