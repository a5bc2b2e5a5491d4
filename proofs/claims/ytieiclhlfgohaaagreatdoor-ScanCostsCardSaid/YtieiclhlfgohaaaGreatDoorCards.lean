/-
  DERIVED. GIVEN WITH THE SEED: THE CARDS: each row of YtieiclhlfgohaaaGreatDoorRows.lean that lists a variable, with what it lists TIED to the program's text (the seventh form; the later family's looks); each row that meets fmt, with fmt's text TOLD by the authors' own Lean function (tested against real Go, not proved from fmt's source: count such statements apart). THE CARD IS WHAT COUNTS. Prove the row's statement (the work); the ties are given (YtieiclhlfgohaaaGreatDoorTie.lean); close each card by the builder's one call (the guide's Derived/Test/ToyasCard.lean, 'card_holds'). Laid BY PROGRAM, IN A SANDBOX (cutbox-door.mjs). By AI agents, Wed Nov 11 2026. No macro, syntax, notation, axiom, sorry.
-/
import Derived.Test.YtieiclhlfgohaaaGreatDoorRows
import GoSem.ClaimSeven
namespace Go.Proofs.YtieiclhlfgohaaaGreatDoor
namespace Rows

/-- THE TIED CARD OF 'sluicegatelaw25.ScanParts'. -/
def scanPartsCard : Claim7 := { stood := { row := scanPartsRow, standIns := [], harness := (true, "466a3f8e3ac77a6501cb04b83073585a949070d9ee32291db24007e0ada25245"), looks := false }, kinds := [], alts := [], laidByText := true, laidKinds := [.data], laidTests := true, laidLooks := .later }
def ScanPartsCardSaid : Prop := Claim7.holds Tryz.pinned (.plain (OpenSpec.ofChange scanPartsSpec)) scanPartsCard

/-- THE TIED CARD OF 'sluicegatelaw25.ScanRanges'. -/
def scanRangesCard : Claim7 := { stood := { row := scanRangesRow, standIns := [], harness := (true, "466a3f8e3ac77a6501cb04b83073585a949070d9ee32291db24007e0ada25245"), looks := false }, kinds := [], alts := [], laidByText := true, laidKinds := [.data], laidTests := true, laidLooks := .later }
def ScanRangesCardSaid : Prop := Claim7.holds Tryz.pinned (.plain (OpenSpec.ofChange scanRangesSpec)) scanRangesCard

/-- THE TIED CARD OF 'sluicegatelaw25.ScanCorrupt'. -/
def scanCorruptCard : Claim7 := { stood := { row := scanCorruptRow, standIns := [], harness := (true, "466a3f8e3ac77a6501cb04b83073585a949070d9ee32291db24007e0ada25245"), looks := false }, kinds := [], alts := [], laidByText := true, laidKinds := [.data], laidTests := true, laidLooks := .later }
def ScanCorruptCardSaid : Prop := Claim7.holds Tryz.pinned (.plain (OpenSpec.ofChange scanCorruptSpec)) scanCorruptCard

/-- THE TIED CARD OF 'sluicegatelaw25.ScanCosts'. -/
def scanCostsCard : Claim7 := { stood := { row := scanCostsRow, standIns := [], harness := (true, "466a3f8e3ac77a6501cb04b83073585a949070d9ee32291db24007e0ada25245"), looks := false }, kinds := [], alts := [], laidByText := true, laidKinds := [.data], laidTests := true, laidLooks := .later }
def ScanCostsCardSaid : Prop := Claim7.holds Tryz.pinned (.plain (OpenSpec.ofChange scanCostsSpec)) scanCostsCard

/-- THE SECOND FORM's CARD OF 'sluicegatelaw25.ScanParts'. -/
def scanPartsUptoCard : Claim7 := { stood := { row := scanPartsUptoRow, standIns := [], harness := (true, "466a3f8e3ac77a6501cb04b83073585a949070d9ee32291db24007e0ada25245"), looks := false }, kinds := [], alts := [], laidByText := true, laidKinds := [.data], laidTests := true, laidLooks := .later }
def ScanPartsUptoCardSaid : Prop := Claim7.holds Tryz.pinned (.plain (OpenSpec.upto scanPartsSpec)) scanPartsUptoCard

/-- THE SECOND FORM's CARD OF 'sluicegatelaw25.ScanRanges'. -/
def scanRangesUptoCard : Claim7 := { stood := { row := scanRangesUptoRow, standIns := [], harness := (true, "466a3f8e3ac77a6501cb04b83073585a949070d9ee32291db24007e0ada25245"), looks := false }, kinds := [], alts := [], laidByText := true, laidKinds := [.data], laidTests := true, laidLooks := .later }
def ScanRangesUptoCardSaid : Prop := Claim7.holds Tryz.pinned (.plain (OpenSpec.upto scanRangesSpec)) scanRangesUptoCard

/-- THE SECOND FORM's CARD OF 'sluicegatelaw25.ScanCorrupt'. -/
def scanCorruptUptoCard : Claim7 := { stood := { row := scanCorruptUptoRow, standIns := [], harness := (true, "466a3f8e3ac77a6501cb04b83073585a949070d9ee32291db24007e0ada25245"), looks := false }, kinds := [], alts := [], laidByText := true, laidKinds := [.data], laidTests := true, laidLooks := .later }
def ScanCorruptUptoCardSaid : Prop := Claim7.holds Tryz.pinned (.plain (OpenSpec.upto scanCorruptSpec)) scanCorruptUptoCard

/-- THE SECOND FORM's CARD OF 'sluicegatelaw25.ScanCosts'. -/
def scanCostsUptoCard : Claim7 := { stood := { row := scanCostsUptoRow, standIns := [], harness := (true, "466a3f8e3ac77a6501cb04b83073585a949070d9ee32291db24007e0ada25245"), looks := false }, kinds := [], alts := [], laidByText := true, laidKinds := [.data], laidTests := true, laidLooks := .later }
def ScanCostsUptoCardSaid : Prop := Claim7.holds Tryz.pinned (.plain (OpenSpec.upto scanCostsSpec)) scanCostsUptoCard
end Rows
end Go.Proofs.YtieiclhlfgohaaaGreatDoor
