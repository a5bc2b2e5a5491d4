/-
  DERIVED. GIVEN WITH THE SEED: THE CARDS: each row of YtpghkhgccflcgaaGreatDoorRows.lean that lists a variable, with what it lists TIED to the program's text (the seventh form; the later family's looks); each row that meets fmt, with fmt's text TOLD by the authors' own Lean function (tested against real Go, not proved from fmt's source: count such statements apart). THE CARD IS WHAT COUNTS. Prove the row's statement (the work); the ties are given (YtpghkhgccflcgaaGreatDoorTie.lean); close each card by the builder's one call (the guide's Derived/Test/ToyasCard.lean, 'card_holds'). Laid BY PROGRAM, IN A SANDBOX (cutbox-door.mjs). By AI agents, Wed Nov 11 2026. No macro, syntax, notation, axiom, sorry.
-/
import Derived.Test.YtpghkhgccflcgaaGreatDoorRows
import GoSem.ClaimSeven
namespace Go.Proofs.YtpghkhgccflcgaaGreatDoor
namespace Rows

/-- THE TIED CARD OF 'sluicegatelaw25.ScanParts'. -/
def scanPartsCard : Claim7 := { stood := { row := scanPartsRow, standIns := [], harness := (true, "034339bc5bda6be10109b48479d23cdc2f8d71db85ae8ecbeb2b9e5bf516f5ab"), looks := false }, kinds := [], alts := [], laidByText := true, laidKinds := [.data], laidTests := true, laidLooks := .later }
def ScanPartsCardSaid : Prop := Claim7.holds Tryz.pinned (.plain (OpenSpec.ofChange scanPartsSpec)) scanPartsCard

/-- THE SECOND FORM's CARD OF 'sluicegatelaw25.ScanParts'. -/
def scanPartsUptoCard : Claim7 := { stood := { row := scanPartsUptoRow, standIns := [], harness := (true, "034339bc5bda6be10109b48479d23cdc2f8d71db85ae8ecbeb2b9e5bf516f5ab"), looks := false }, kinds := [], alts := [], laidByText := true, laidKinds := [.data], laidTests := true, laidLooks := .later }
def ScanPartsUptoCardSaid : Prop := Claim7.holds Tryz.pinned (.plain (OpenSpec.upto scanPartsSpec)) scanPartsUptoCard
end Rows
end Go.Proofs.YtpghkhgccflcgaaGreatDoor
