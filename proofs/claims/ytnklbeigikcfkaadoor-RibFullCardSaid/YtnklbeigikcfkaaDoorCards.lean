/-
  DERIVED. GIVEN WITH THE SEED: THE CARDS: each row of YtnklbeigikcfkaaDoorRows.lean that lists a variable, with what it lists TIED to the program's text (the seventh form; the later family's looks); each row that meets fmt, with fmt's text TOLD by the authors' own Lean function (tested against real Go, not proved from fmt's source: count such statements apart). THE CARD IS WHAT COUNTS. Prove the row's statement (the work); the ties are given (YtnklbeigikcfkaaDoorTie.lean); close each card by the builder's one call (the guide's Derived/Test/ToyasCard.lean, 'card_holds'). Laid BY PROGRAM, IN A SANDBOX (cutbox-door.mjs). By AI agents, Wed Nov 11 2026. No macro, syntax, notation, axiom, sorry.
-/
import Derived.Test.YtnklbeigikcfkaaDoorRows
import GoSem.ClaimSeven
namespace Go.Proofs.YtnklbeigikcfkaaDoor
namespace Rows

/-- THE TIED CARD OF 'crosswaylaw15.RibBetter'. -/
def ribBetterCard : Claim7 := { stood := { row := ribBetterRow, standIns := [], harness := (true, "6a0d99fb674cad353a8faa4a431c427836b1e602bf2289ac6e7e810a97c134d7"), looks := false }, kinds := [], alts := [], laidByText := true, laidKinds := [.data], laidTests := true, laidLooks := .later }
def RibBetterCardSaid : Prop := Claim7.holds Tryd.pinned (.plain (OpenSpec.ofChange ribBetterSpec)) ribBetterCard

/-- THE TIED CARD OF 'crosswaylaw15.RibHistory'. -/
def ribHistoryCard : Claim7 := { stood := { row := ribHistoryRow, standIns := [], harness := (true, "6a0d99fb674cad353a8faa4a431c427836b1e602bf2289ac6e7e810a97c134d7"), looks := false }, kinds := [], alts := [], laidByText := true, laidKinds := [.data], laidTests := true, laidLooks := .later }
def RibHistoryCardSaid : Prop := Claim7.holds Tryd.pinned (.plain (OpenSpec.ofChange ribHistorySpec)) ribHistoryCard

/-- THE TIED CARD OF 'crosswaylaw15.RibRow'. -/
def ribRowCard : Claim7 := { stood := { row := ribRowRow, standIns := [], harness := (true, "6a0d99fb674cad353a8faa4a431c427836b1e602bf2289ac6e7e810a97c134d7"), looks := false }, kinds := [], alts := [], laidByText := true, laidKinds := [.data], laidTests := true, laidLooks := .later }
def RibRowCardSaid : Prop := Claim7.holds Tryd.pinned (.plain (OpenSpec.ofChange ribRowSpec)) ribRowCard

/-- THE TIED CARD OF 'crosswaylaw15.RibFull'. -/
def ribFullCard : Claim7 := { stood := { row := ribFullRow, standIns := [], harness := (true, "6a0d99fb674cad353a8faa4a431c427836b1e602bf2289ac6e7e810a97c134d7"), looks := false }, kinds := [], alts := [], laidByText := true, laidKinds := [.data], laidTests := true, laidLooks := .later }
def RibFullCardSaid : Prop := Claim7.holds Tryd.pinned (.plain (OpenSpec.ofChange ribFullSpec)) ribFullCard

/-- THE SECOND FORM's CARD OF 'crosswaylaw15.RibBetter'. -/
def ribBetterUptoCard : Claim7 := { stood := { row := ribBetterUptoRow, standIns := [], harness := (true, "6a0d99fb674cad353a8faa4a431c427836b1e602bf2289ac6e7e810a97c134d7"), looks := false }, kinds := [], alts := [], laidByText := true, laidKinds := [.data], laidTests := true, laidLooks := .later }
def RibBetterUptoCardSaid : Prop := Claim7.holds Tryd.pinned (.plain (OpenSpec.upto ribBetterSpec)) ribBetterUptoCard

/-- THE SECOND FORM's CARD OF 'crosswaylaw15.RibHistory'. -/
def ribHistoryUptoCard : Claim7 := { stood := { row := ribHistoryUptoRow, standIns := [], harness := (true, "6a0d99fb674cad353a8faa4a431c427836b1e602bf2289ac6e7e810a97c134d7"), looks := false }, kinds := [], alts := [], laidByText := true, laidKinds := [.data], laidTests := true, laidLooks := .later }
def RibHistoryUptoCardSaid : Prop := Claim7.holds Tryd.pinned (.plain (OpenSpec.upto ribHistorySpec)) ribHistoryUptoCard

/-- THE SECOND FORM's CARD OF 'crosswaylaw15.RibRow'. -/
def ribRowUptoCard : Claim7 := { stood := { row := ribRowUptoRow, standIns := [], harness := (true, "6a0d99fb674cad353a8faa4a431c427836b1e602bf2289ac6e7e810a97c134d7"), looks := false }, kinds := [], alts := [], laidByText := true, laidKinds := [.data], laidTests := true, laidLooks := .later }
def RibRowUptoCardSaid : Prop := Claim7.holds Tryd.pinned (.plain (OpenSpec.upto ribRowSpec)) ribRowUptoCard

/-- THE SECOND FORM's CARD OF 'crosswaylaw15.RibFull'. -/
def ribFullUptoCard : Claim7 := { stood := { row := ribFullUptoRow, standIns := [], harness := (true, "6a0d99fb674cad353a8faa4a431c427836b1e602bf2289ac6e7e810a97c134d7"), looks := false }, kinds := [], alts := [], laidByText := true, laidKinds := [.data], laidTests := true, laidLooks := .later }
def RibFullUptoCardSaid : Prop := Claim7.holds Tryd.pinned (.plain (OpenSpec.upto ribFullSpec)) ribFullUptoCard
end Rows
end Go.Proofs.YtnklbeigikcfkaaDoor
