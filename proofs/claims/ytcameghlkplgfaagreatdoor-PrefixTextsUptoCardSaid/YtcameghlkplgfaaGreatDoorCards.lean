/-
  DERIVED. GIVEN WITH THE SEED: THE CARDS: each row of YtcameghlkplgfaaGreatDoorRows.lean that lists a variable, with what it lists TIED to the program's text (the seventh form; the later family's looks); each row that meets fmt, with fmt's text TOLD by the authors' own Lean function (tested against real Go, not proved from fmt's source: count such statements apart). THE CARD IS WHAT COUNTS. Prove the row's statement (the work); the ties are given (YtcameghlkplgfaaGreatDoorTie.lean); close each card by the builder's one call (the guide's Derived/Test/ToyasCard.lean, 'card_holds'). Laid BY PROGRAM, IN A SANDBOX (cutbox-door.mjs). By AI agents, Wed Nov 11 2026. No macro, syntax, notation, axiom, sorry.
-/
import Derived.Test.YtcameghlkplgfaaGreatDoorRows
import GoSem.ClaimSeven
namespace Go.Proofs.YtcameghlkplgfaaGreatDoor
namespace Rows

/-- THE TIED CARD OF 'crosswaylaw04.PrefixTexts'. -/
def prefixTextsCard : Claim7 := { stood := { row := prefixTextsRow, standIns := [], harness := (true, "a807c9cd8e414e0931ff1bfdc0167af5c3afa6cf764b8d95dbf9b3f7e7676def"), looks := true }, kinds := [], alts := [], laidByText := true, laidKinds := [.data, .data, .data, .data, .sentinel, .sentinel, .pinned], laidTests := true, laidLooks := .later }
def PrefixTextsCardSaid : Prop := Claim7.holds Tryz.pinned (.plain (OpenSpec.ofChange prefixTextsSpec)) prefixTextsCard

/-- THE SECOND FORM's CARD OF 'crosswaylaw04.PrefixTexts'. -/
def prefixTextsUptoCard : Claim7 := { stood := { row := prefixTextsUptoRow, standIns := [], harness := (true, "a807c9cd8e414e0931ff1bfdc0167af5c3afa6cf764b8d95dbf9b3f7e7676def"), looks := true }, kinds := [], alts := [], laidByText := true, laidKinds := [.data, .data, .data, .data, .sentinel, .sentinel, .pinned], laidTests := true, laidLooks := .later }
def PrefixTextsUptoCardSaid : Prop := Claim7.holds Tryz.pinned (.plain (OpenSpec.upto prefixTextsSpec)) prefixTextsUptoCard
end Rows
end Go.Proofs.YtcameghlkplgfaaGreatDoor
