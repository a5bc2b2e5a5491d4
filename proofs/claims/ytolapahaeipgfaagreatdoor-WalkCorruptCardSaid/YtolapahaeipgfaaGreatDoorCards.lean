/-
  DERIVED. GIVEN WITH THE SEED: THE CARDS: each row of YtolapahaeipgfaaGreatDoorRows.lean that lists a variable, with what it lists TIED to the program's text (the seventh form; the later family's looks); each row that meets fmt, with fmt's text TOLD by the authors' own Lean function (tested against real Go, not proved from fmt's source: count such statements apart). THE CARD IS WHAT COUNTS. Prove the row's statement (the work); the ties are given (YtolapahaeipgfaaGreatDoorTie.lean); close each card by the builder's one call (the guide's Derived/Test/ToyasCard.lean, 'card_holds'). Laid BY PROGRAM, IN A SANDBOX (cutbox-door.mjs). By AI agents, Wed Nov 11 2026. No macro, syntax, notation, axiom, sorry.
-/
import Derived.Test.YtolapahaeipgfaaGreatDoorRows
import GoSem.ClaimSeven
namespace Go.Proofs.YtolapahaeipgfaaGreatDoor
namespace Rows

/-- THE TIED CARD OF 'sluicegatelaw20.WalkTells'. -/
def walkTellsCard : Claim7 := { stood := { row := walkTellsRow, standIns := [], harness := (true, "bee84b5f15d91c0e94d23119547a26dcdc5a729ed9950a1d91c2c3203abd4c8c"), looks := false }, kinds := [], alts := [], laidByText := true, laidKinds := [.data], laidTests := true, laidLooks := .later }
def WalkTellsCardSaid : Prop := Claim7.holds Tryz.pinned (.plain (OpenSpec.ofChange walkTellsSpec)) walkTellsCard

/-- THE TIED CARD OF 'sluicegatelaw20.WalkCorrupt'. -/
def walkCorruptCard : Claim7 := { stood := { row := walkCorruptRow, standIns := [], harness := (true, "bee84b5f15d91c0e94d23119547a26dcdc5a729ed9950a1d91c2c3203abd4c8c"), looks := false }, kinds := [], alts := [], laidByText := true, laidKinds := [.data], laidTests := true, laidLooks := .later }
def WalkCorruptCardSaid : Prop := Claim7.holds Tryz.pinned (.plain (OpenSpec.ofChange walkCorruptSpec)) walkCorruptCard

/-- THE TIED CARD OF 'sluicegatelaw20.WalkLeaves'. -/
def walkLeavesCard : Claim7 := { stood := { row := walkLeavesRow, standIns := [], harness := (true, "bee84b5f15d91c0e94d23119547a26dcdc5a729ed9950a1d91c2c3203abd4c8c"), looks := false }, kinds := [], alts := [], laidByText := true, laidKinds := [.data], laidTests := true, laidLooks := .later }
def WalkLeavesCardSaid : Prop := Claim7.holds Tryz.pinned (.plain (OpenSpec.ofChange walkLeavesSpec)) walkLeavesCard

/-- THE TIED CARD OF 'sluicegatelaw20.WalkLooks'. -/
def walkLooksCard : Claim7 := { stood := { row := walkLooksRow, standIns := [], harness := (true, "bee84b5f15d91c0e94d23119547a26dcdc5a729ed9950a1d91c2c3203abd4c8c"), looks := false }, kinds := [], alts := [], laidByText := true, laidKinds := [.data], laidTests := true, laidLooks := .later }
def WalkLooksCardSaid : Prop := Claim7.holds Tryz.pinned (.plain (OpenSpec.ofChange walkLooksSpec)) walkLooksCard

/-- THE SECOND FORM's CARD OF 'sluicegatelaw20.WalkTells'. -/
def walkTellsUptoCard : Claim7 := { stood := { row := walkTellsUptoRow, standIns := [], harness := (true, "bee84b5f15d91c0e94d23119547a26dcdc5a729ed9950a1d91c2c3203abd4c8c"), looks := false }, kinds := [], alts := [], laidByText := true, laidKinds := [.data], laidTests := true, laidLooks := .later }
def WalkTellsUptoCardSaid : Prop := Claim7.holds Tryz.pinned (.plain (OpenSpec.upto walkTellsSpec)) walkTellsUptoCard

/-- THE SECOND FORM's CARD OF 'sluicegatelaw20.WalkCorrupt'. -/
def walkCorruptUptoCard : Claim7 := { stood := { row := walkCorruptUptoRow, standIns := [], harness := (true, "bee84b5f15d91c0e94d23119547a26dcdc5a729ed9950a1d91c2c3203abd4c8c"), looks := false }, kinds := [], alts := [], laidByText := true, laidKinds := [.data], laidTests := true, laidLooks := .later }
def WalkCorruptUptoCardSaid : Prop := Claim7.holds Tryz.pinned (.plain (OpenSpec.upto walkCorruptSpec)) walkCorruptUptoCard

/-- THE SECOND FORM's CARD OF 'sluicegatelaw20.WalkLeaves'. -/
def walkLeavesUptoCard : Claim7 := { stood := { row := walkLeavesUptoRow, standIns := [], harness := (true, "bee84b5f15d91c0e94d23119547a26dcdc5a729ed9950a1d91c2c3203abd4c8c"), looks := false }, kinds := [], alts := [], laidByText := true, laidKinds := [.data], laidTests := true, laidLooks := .later }
def WalkLeavesUptoCardSaid : Prop := Claim7.holds Tryz.pinned (.plain (OpenSpec.upto walkLeavesSpec)) walkLeavesUptoCard

/-- THE SECOND FORM's CARD OF 'sluicegatelaw20.WalkLooks'. -/
def walkLooksUptoCard : Claim7 := { stood := { row := walkLooksUptoRow, standIns := [], harness := (true, "bee84b5f15d91c0e94d23119547a26dcdc5a729ed9950a1d91c2c3203abd4c8c"), looks := false }, kinds := [], alts := [], laidByText := true, laidKinds := [.data], laidTests := true, laidLooks := .later }
def WalkLooksUptoCardSaid : Prop := Claim7.holds Tryz.pinned (.plain (OpenSpec.upto walkLooksSpec)) walkLooksUptoCard
end Rows
end Go.Proofs.YtolapahaeipgfaaGreatDoor
