/-
  DERIVED. GIVEN WITH THE SEED: THE CARDS: each row of YtnklbeigikcfkaaGreatDoorRows.lean that lists a variable, with what it lists TIED to the program's text (the seventh form; the later family's looks); each row that meets fmt, with fmt's text TOLD by the authors' own Lean function (tested against real Go, not proved from fmt's source: count such statements apart). THE CARD IS WHAT COUNTS. Prove the row's statement (the work); the ties are given (YtnklbeigikcfkaaGreatDoorTie.lean); close each card by the builder's one call (the guide's Derived/Test/ToyasCard.lean, 'card_holds'). Laid BY PROGRAM, IN A SANDBOX (cutbox-door.mjs). By AI agents, Wed Nov 11 2026. No macro, syntax, notation, axiom, sorry.
-/
import Derived.Test.YtnklbeigikcfkaaGreatDoorRows
import GoSem.ClaimSeven
namespace Go.Proofs.YtnklbeigikcfkaaGreatDoor
namespace Rows

/-- THE TIED CARD OF 'crosswaylaw15.RibPlays'. -/
def ribPlaysCard : Claim7 := { stood := { row := ribPlaysRow, standIns := [], harness := (true, "2b6127f87996acabe4d3f7e20a9241b235177e4033d6b028d5016432d38da6d5"), looks := false }, kinds := [], alts := [], laidByText := true, laidKinds := [.data], laidTests := true, laidLooks := .later }
def RibPlaysCardSaid : Prop := Claim7.holds Tryz.pinned (.plain (OpenSpec.ofChange ribPlaysSpec)) ribPlaysCard

/-- THE TIED CARD OF 'crosswaylaw15.RibCopies'. -/
def ribCopiesCard : Claim7 := { stood := { row := ribCopiesRow, standIns := [], harness := (true, "2b6127f87996acabe4d3f7e20a9241b235177e4033d6b028d5016432d38da6d5"), looks := false }, kinds := [], alts := [], laidByText := true, laidKinds := [.data], laidTests := true, laidLooks := .later }
def RibCopiesCardSaid : Prop := Claim7.holds Tryz.pinned (.plain (OpenSpec.ofChange ribCopiesSpec)) ribCopiesCard

/-- THE SECOND FORM's CARD OF 'crosswaylaw15.RibPlays'. -/
def ribPlaysUptoCard : Claim7 := { stood := { row := ribPlaysUptoRow, standIns := [], harness := (true, "2b6127f87996acabe4d3f7e20a9241b235177e4033d6b028d5016432d38da6d5"), looks := false }, kinds := [], alts := [], laidByText := true, laidKinds := [.data], laidTests := true, laidLooks := .later }
def RibPlaysUptoCardSaid : Prop := Claim7.holds Tryz.pinned (.plain (OpenSpec.upto ribPlaysSpec)) ribPlaysUptoCard

/-- THE SECOND FORM's CARD OF 'crosswaylaw15.RibCopies'. -/
def ribCopiesUptoCard : Claim7 := { stood := { row := ribCopiesUptoRow, standIns := [], harness := (true, "2b6127f87996acabe4d3f7e20a9241b235177e4033d6b028d5016432d38da6d5"), looks := false }, kinds := [], alts := [], laidByText := true, laidKinds := [.data], laidTests := true, laidLooks := .later }
def RibCopiesUptoCardSaid : Prop := Claim7.holds Tryz.pinned (.plain (OpenSpec.upto ribCopiesSpec)) ribCopiesUptoCard
end Rows
end Go.Proofs.YtnklbeigikcfkaaGreatDoor
