/-
  DERIVED. GIVEN WITH THE SEED: THE CARDS: each row of YtgdmpkhmedbnpaaGreatDoorRows.lean that lists a variable, with what it lists TIED to the program's text (the seventh form; the later family's looks); each row that meets fmt, with fmt's text TOLD by the authors' own Lean function (tested against real Go, not proved from fmt's source: count such statements apart). THE CARD IS WHAT COUNTS. Prove the row's statement (the work); the ties are given (YtgdmpkhmedbnpaaGreatDoorTie.lean); close each card by the builder's one call (the guide's Derived/Test/ToyasCard.lean, 'card_holds'). Laid BY PROGRAM, IN A SANDBOX (cutbox-door.mjs). By AI agents, Wed Nov 11 2026. No macro, syntax, notation, axiom, sorry.
-/
import Derived.Test.YtgdmpkhmedbnpaaGreatDoorRows
import GoSem.ClaimSeven
namespace Go.Proofs.YtgdmpkhmedbnpaaGreatDoor
namespace Rows

/-- THE TIED CARD OF 'sluicegatelaw18.ShelfFlushed'. -/
def shelfFlushedCard : Claim7 := { stood := { row := shelfFlushedRow, standIns := [], harness := (true, "d6f1742b8410d0b8c515498cb9cc251bdbb658b9368635dd327065c351ebc545"), looks := false }, kinds := [], alts := [], laidByText := true, laidKinds := [.data], laidTests := true, laidLooks := .later }
def ShelfFlushedCardSaid : Prop := Claim7.holds Tryz.pinned (.plain (OpenSpec.ofChange shelfFlushedSpec)) shelfFlushedCard

/-- THE TIED CARD OF 'sluicegatelaw18.ShelfCosts'. -/
def shelfCostsCard : Claim7 := { stood := { row := shelfCostsRow, standIns := [], harness := (true, "d6f1742b8410d0b8c515498cb9cc251bdbb658b9368635dd327065c351ebc545"), looks := false }, kinds := [], alts := [], laidByText := true, laidKinds := [.data], laidTests := true, laidLooks := .later }
def ShelfCostsCardSaid : Prop := Claim7.holds Tryz.pinned (.plain (OpenSpec.ofChange shelfCostsSpec)) shelfCostsCard

/-- THE TIED CARD OF 'sluicegatelaw18.ShelfPlays'. -/
def shelfPlaysCard : Claim7 := { stood := { row := shelfPlaysRow, standIns := [], harness := (true, "d6f1742b8410d0b8c515498cb9cc251bdbb658b9368635dd327065c351ebc545"), looks := false }, kinds := [], alts := [], laidByText := true, laidKinds := [.data], laidTests := true, laidLooks := .later }
def ShelfPlaysCardSaid : Prop := Claim7.holds Tryz.pinned (.plain (OpenSpec.ofChange shelfPlaysSpec)) shelfPlaysCard

/-- THE TIED CARD OF 'sluicegatelaw18.ShelfNone'. -/
def shelfNoneCard : Claim7 := { stood := { row := shelfNoneRow, standIns := [], harness := (true, "d6f1742b8410d0b8c515498cb9cc251bdbb658b9368635dd327065c351ebc545"), looks := false }, kinds := [], alts := [], laidByText := true, laidKinds := [.data], laidTests := true, laidLooks := .later }
def ShelfNoneCardSaid : Prop := Claim7.holds Tryz.pinned (.plain (OpenSpec.ofChange shelfNoneSpec)) shelfNoneCard

/-- THE TIED CARD OF 'sluicegatelaw25.ScanParts'. -/
def scanPartsCard : Claim7 := { stood := { row := scanPartsRow, standIns := [], harness := (true, "d6f1742b8410d0b8c515498cb9cc251bdbb658b9368635dd327065c351ebc545"), looks := false }, kinds := [], alts := [], laidByText := true, laidKinds := [.data], laidTests := true, laidLooks := .later }
def ScanPartsCardSaid : Prop := Claim7.holds Tryz.pinned (.plain (OpenSpec.ofChange scanPartsSpec)) scanPartsCard

/-- THE TIED CARD OF 'sluicegatelaw25.ScanNone'. -/
def scanNoneCard : Claim7 := { stood := { row := scanNoneRow, standIns := [], harness := (true, "d6f1742b8410d0b8c515498cb9cc251bdbb658b9368635dd327065c351ebc545"), looks := false }, kinds := [], alts := [], laidByText := true, laidKinds := [.data], laidTests := true, laidLooks := .later }
def ScanNoneCardSaid : Prop := Claim7.holds Tryz.pinned (.plain (OpenSpec.ofChange scanNoneSpec)) scanNoneCard

/-- THE TIED CARD OF 'sluicegatelaw25.ScanRanges'. -/
def scanRangesCard : Claim7 := { stood := { row := scanRangesRow, standIns := [], harness := (true, "d6f1742b8410d0b8c515498cb9cc251bdbb658b9368635dd327065c351ebc545"), looks := false }, kinds := [], alts := [], laidByText := true, laidKinds := [.data], laidTests := true, laidLooks := .later }
def ScanRangesCardSaid : Prop := Claim7.holds Tryz.pinned (.plain (OpenSpec.ofChange scanRangesSpec)) scanRangesCard

/-- THE TIED CARD OF 'sluicegatelaw25.ScanCorrupt'. -/
def scanCorruptCard : Claim7 := { stood := { row := scanCorruptRow, standIns := [], harness := (true, "d6f1742b8410d0b8c515498cb9cc251bdbb658b9368635dd327065c351ebc545"), looks := false }, kinds := [], alts := [], laidByText := true, laidKinds := [.data], laidTests := true, laidLooks := .later }
def ScanCorruptCardSaid : Prop := Claim7.holds Tryz.pinned (.plain (OpenSpec.ofChange scanCorruptSpec)) scanCorruptCard

/-- THE TIED CARD OF 'sluicegatelaw25.ScanCosts'. -/
def scanCostsCard : Claim7 := { stood := { row := scanCostsRow, standIns := [], harness := (true, "d6f1742b8410d0b8c515498cb9cc251bdbb658b9368635dd327065c351ebc545"), looks := false }, kinds := [], alts := [], laidByText := true, laidKinds := [.data], laidTests := true, laidLooks := .later }
def ScanCostsCardSaid : Prop := Claim7.holds Tryz.pinned (.plain (OpenSpec.ofChange scanCostsSpec)) scanCostsCard

/-- THE SECOND FORM's CARD OF 'sluicegatelaw18.ShelfFlushed'. -/
def shelfFlushedUptoCard : Claim7 := { stood := { row := shelfFlushedUptoRow, standIns := [], harness := (true, "d6f1742b8410d0b8c515498cb9cc251bdbb658b9368635dd327065c351ebc545"), looks := false }, kinds := [], alts := [], laidByText := true, laidKinds := [.data], laidTests := true, laidLooks := .later }
def ShelfFlushedUptoCardSaid : Prop := Claim7.holds Tryz.pinned (.plain (OpenSpec.upto shelfFlushedSpec)) shelfFlushedUptoCard

/-- THE SECOND FORM's CARD OF 'sluicegatelaw18.ShelfCosts'. -/
def shelfCostsUptoCard : Claim7 := { stood := { row := shelfCostsUptoRow, standIns := [], harness := (true, "d6f1742b8410d0b8c515498cb9cc251bdbb658b9368635dd327065c351ebc545"), looks := false }, kinds := [], alts := [], laidByText := true, laidKinds := [.data], laidTests := true, laidLooks := .later }
def ShelfCostsUptoCardSaid : Prop := Claim7.holds Tryz.pinned (.plain (OpenSpec.upto shelfCostsSpec)) shelfCostsUptoCard

/-- THE SECOND FORM's CARD OF 'sluicegatelaw18.ShelfPlays'. -/
def shelfPlaysUptoCard : Claim7 := { stood := { row := shelfPlaysUptoRow, standIns := [], harness := (true, "d6f1742b8410d0b8c515498cb9cc251bdbb658b9368635dd327065c351ebc545"), looks := false }, kinds := [], alts := [], laidByText := true, laidKinds := [.data], laidTests := true, laidLooks := .later }
def ShelfPlaysUptoCardSaid : Prop := Claim7.holds Tryz.pinned (.plain (OpenSpec.upto shelfPlaysSpec)) shelfPlaysUptoCard

/-- THE SECOND FORM's CARD OF 'sluicegatelaw18.ShelfNone'. -/
def shelfNoneUptoCard : Claim7 := { stood := { row := shelfNoneUptoRow, standIns := [], harness := (true, "d6f1742b8410d0b8c515498cb9cc251bdbb658b9368635dd327065c351ebc545"), looks := false }, kinds := [], alts := [], laidByText := true, laidKinds := [.data], laidTests := true, laidLooks := .later }
def ShelfNoneUptoCardSaid : Prop := Claim7.holds Tryz.pinned (.plain (OpenSpec.upto shelfNoneSpec)) shelfNoneUptoCard

/-- THE SECOND FORM's CARD OF 'sluicegatelaw25.ScanParts'. -/
def scanPartsUptoCard : Claim7 := { stood := { row := scanPartsUptoRow, standIns := [], harness := (true, "d6f1742b8410d0b8c515498cb9cc251bdbb658b9368635dd327065c351ebc545"), looks := false }, kinds := [], alts := [], laidByText := true, laidKinds := [.data], laidTests := true, laidLooks := .later }
def ScanPartsUptoCardSaid : Prop := Claim7.holds Tryz.pinned (.plain (OpenSpec.upto scanPartsSpec)) scanPartsUptoCard

/-- THE SECOND FORM's CARD OF 'sluicegatelaw25.ScanNone'. -/
def scanNoneUptoCard : Claim7 := { stood := { row := scanNoneUptoRow, standIns := [], harness := (true, "d6f1742b8410d0b8c515498cb9cc251bdbb658b9368635dd327065c351ebc545"), looks := false }, kinds := [], alts := [], laidByText := true, laidKinds := [.data], laidTests := true, laidLooks := .later }
def ScanNoneUptoCardSaid : Prop := Claim7.holds Tryz.pinned (.plain (OpenSpec.upto scanNoneSpec)) scanNoneUptoCard

/-- THE SECOND FORM's CARD OF 'sluicegatelaw25.ScanRanges'. -/
def scanRangesUptoCard : Claim7 := { stood := { row := scanRangesUptoRow, standIns := [], harness := (true, "d6f1742b8410d0b8c515498cb9cc251bdbb658b9368635dd327065c351ebc545"), looks := false }, kinds := [], alts := [], laidByText := true, laidKinds := [.data], laidTests := true, laidLooks := .later }
def ScanRangesUptoCardSaid : Prop := Claim7.holds Tryz.pinned (.plain (OpenSpec.upto scanRangesSpec)) scanRangesUptoCard

/-- THE SECOND FORM's CARD OF 'sluicegatelaw25.ScanCorrupt'. -/
def scanCorruptUptoCard : Claim7 := { stood := { row := scanCorruptUptoRow, standIns := [], harness := (true, "d6f1742b8410d0b8c515498cb9cc251bdbb658b9368635dd327065c351ebc545"), looks := false }, kinds := [], alts := [], laidByText := true, laidKinds := [.data], laidTests := true, laidLooks := .later }
def ScanCorruptUptoCardSaid : Prop := Claim7.holds Tryz.pinned (.plain (OpenSpec.upto scanCorruptSpec)) scanCorruptUptoCard

/-- THE SECOND FORM's CARD OF 'sluicegatelaw25.ScanCosts'. -/
def scanCostsUptoCard : Claim7 := { stood := { row := scanCostsUptoRow, standIns := [], harness := (true, "d6f1742b8410d0b8c515498cb9cc251bdbb658b9368635dd327065c351ebc545"), looks := false }, kinds := [], alts := [], laidByText := true, laidKinds := [.data], laidTests := true, laidLooks := .later }
def ScanCostsUptoCardSaid : Prop := Claim7.holds Tryz.pinned (.plain (OpenSpec.upto scanCostsSpec)) scanCostsUptoCard
end Rows
end Go.Proofs.YtgdmpkhmedbnpaaGreatDoor
