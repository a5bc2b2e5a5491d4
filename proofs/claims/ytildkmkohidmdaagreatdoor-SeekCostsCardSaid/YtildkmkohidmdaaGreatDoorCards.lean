/-
  DERIVED. GIVEN WITH THE SEED: THE CARDS: each row of YtildkmkohidmdaaGreatDoorRows.lean that lists a variable, with what it lists TIED to the program's text (the seventh form; the later family's looks); each row that meets fmt, with fmt's text TOLD by the authors' own Lean function (tested against real Go, not proved from fmt's source: count such statements apart). THE CARD IS WHAT COUNTS. Prove the row's statement (the work); the ties are given (YtildkmkohidmdaaGreatDoorTie.lean); close each card by the builder's one call (the guide's Derived/Test/ToyasCard.lean, 'card_holds'). Laid BY PROGRAM, IN A SANDBOX (cutbox-door.mjs). By AI agents, Wed Nov 11 2026. No macro, syntax, notation, axiom, sorry.
-/
import Derived.Test.YtildkmkohidmdaaGreatDoorRows
import GoSem.ClaimSeven
namespace Go.Proofs.YtildkmkohidmdaaGreatDoor
namespace Rows

/-- THE TIED CARD OF 'sluicegatelaw20.WalkTells'. -/
def walkTellsCard : Claim7 := { stood := { row := walkTellsRow, standIns := [], harness := (true, "5729ecba16c3f425a5ccd66fa50507f56d22169c25d24d217e05f9d04c7145b6"), looks := false }, kinds := [], alts := [], laidByText := true, laidKinds := [.data], laidTests := true, laidLooks := .later }
def WalkTellsCardSaid : Prop := Claim7.holds Tryz.pinned (.plain (OpenSpec.ofChange walkTellsSpec)) walkTellsCard

/-- THE TIED CARD OF 'sluicegatelaw20.WalkCorrupt'. -/
def walkCorruptCard : Claim7 := { stood := { row := walkCorruptRow, standIns := [], harness := (true, "5729ecba16c3f425a5ccd66fa50507f56d22169c25d24d217e05f9d04c7145b6"), looks := false }, kinds := [], alts := [], laidByText := true, laidKinds := [.data], laidTests := true, laidLooks := .later }
def WalkCorruptCardSaid : Prop := Claim7.holds Tryz.pinned (.plain (OpenSpec.ofChange walkCorruptSpec)) walkCorruptCard

/-- THE TIED CARD OF 'sluicegatelaw20.WalkNobody'. -/
def walkNobodyCard : Claim7 := { stood := { row := walkNobodyRow, standIns := [], harness := (true, "5729ecba16c3f425a5ccd66fa50507f56d22169c25d24d217e05f9d04c7145b6"), looks := false }, kinds := [], alts := [], laidByText := true, laidKinds := [.data], laidTests := true, laidLooks := .later }
def WalkNobodyCardSaid : Prop := Claim7.holds Tryz.pinned (.plain (OpenSpec.ofChange walkNobodySpec)) walkNobodyCard

/-- THE TIED CARD OF 'sluicegatelaw20.WalkLeaves'. -/
def walkLeavesCard : Claim7 := { stood := { row := walkLeavesRow, standIns := [], harness := (true, "5729ecba16c3f425a5ccd66fa50507f56d22169c25d24d217e05f9d04c7145b6"), looks := false }, kinds := [], alts := [], laidByText := true, laidKinds := [.data], laidTests := true, laidLooks := .later }
def WalkLeavesCardSaid : Prop := Claim7.holds Tryz.pinned (.plain (OpenSpec.ofChange walkLeavesSpec)) walkLeavesCard

/-- THE TIED CARD OF 'sluicegatelaw19.SeekGets'. -/
def seekGetsCard : Claim7 := { stood := { row := seekGetsRow, standIns := [], harness := (true, "5729ecba16c3f425a5ccd66fa50507f56d22169c25d24d217e05f9d04c7145b6"), looks := false }, kinds := [], alts := [], laidByText := true, laidKinds := [.data], laidTests := true, laidLooks := .later }
def SeekGetsCardSaid : Prop := Claim7.holds Tryz.pinned (.plain (OpenSpec.ofChange seekGetsSpec)) seekGetsCard

/-- THE TIED CARD OF 'sluicegatelaw20.WalkLooks'. -/
def walkLooksCard : Claim7 := { stood := { row := walkLooksRow, standIns := [], harness := (true, "5729ecba16c3f425a5ccd66fa50507f56d22169c25d24d217e05f9d04c7145b6"), looks := false }, kinds := [], alts := [], laidByText := true, laidKinds := [.data], laidTests := true, laidLooks := .later }
def WalkLooksCardSaid : Prop := Claim7.holds Tryz.pinned (.plain (OpenSpec.ofChange walkLooksSpec)) walkLooksCard

/-- THE TIED CARD OF 'sluicegatelaw19.SeekWays'. -/
def seekWaysCard : Claim7 := { stood := { row := seekWaysRow, standIns := [], harness := (true, "5729ecba16c3f425a5ccd66fa50507f56d22169c25d24d217e05f9d04c7145b6"), looks := false }, kinds := [], alts := [], laidByText := true, laidKinds := [.data], laidTests := true, laidLooks := .later }
def SeekWaysCardSaid : Prop := Claim7.holds Tryz.pinned (.plain (OpenSpec.ofChange seekWaysSpec)) seekWaysCard

/-- THE TIED CARD OF 'sluicegatelaw19.SeekCorrupt'. -/
def seekCorruptCard : Claim7 := { stood := { row := seekCorruptRow, standIns := [], harness := (true, "5729ecba16c3f425a5ccd66fa50507f56d22169c25d24d217e05f9d04c7145b6"), looks := false }, kinds := [], alts := [], laidByText := true, laidKinds := [.data], laidTests := true, laidLooks := .later }
def SeekCorruptCardSaid : Prop := Claim7.holds Tryz.pinned (.plain (OpenSpec.ofChange seekCorruptSpec)) seekCorruptCard

/-- THE TIED CARD OF 'sluicegatelaw19.SeekCosts'. -/
def seekCostsCard : Claim7 := { stood := { row := seekCostsRow, standIns := [], harness := (true, "5729ecba16c3f425a5ccd66fa50507f56d22169c25d24d217e05f9d04c7145b6"), looks := false }, kinds := [], alts := [], laidByText := true, laidKinds := [.data], laidTests := true, laidLooks := .later }
def SeekCostsCardSaid : Prop := Claim7.holds Tryz.pinned (.plain (OpenSpec.ofChange seekCostsSpec)) seekCostsCard

/-- THE SECOND FORM's CARD OF 'sluicegatelaw20.WalkTells'. -/
def walkTellsUptoCard : Claim7 := { stood := { row := walkTellsUptoRow, standIns := [], harness := (true, "5729ecba16c3f425a5ccd66fa50507f56d22169c25d24d217e05f9d04c7145b6"), looks := false }, kinds := [], alts := [], laidByText := true, laidKinds := [.data], laidTests := true, laidLooks := .later }
def WalkTellsUptoCardSaid : Prop := Claim7.holds Tryz.pinned (.plain (OpenSpec.upto walkTellsSpec)) walkTellsUptoCard

/-- THE SECOND FORM's CARD OF 'sluicegatelaw20.WalkCorrupt'. -/
def walkCorruptUptoCard : Claim7 := { stood := { row := walkCorruptUptoRow, standIns := [], harness := (true, "5729ecba16c3f425a5ccd66fa50507f56d22169c25d24d217e05f9d04c7145b6"), looks := false }, kinds := [], alts := [], laidByText := true, laidKinds := [.data], laidTests := true, laidLooks := .later }
def WalkCorruptUptoCardSaid : Prop := Claim7.holds Tryz.pinned (.plain (OpenSpec.upto walkCorruptSpec)) walkCorruptUptoCard

/-- THE SECOND FORM's CARD OF 'sluicegatelaw20.WalkNobody'. -/
def walkNobodyUptoCard : Claim7 := { stood := { row := walkNobodyUptoRow, standIns := [], harness := (true, "5729ecba16c3f425a5ccd66fa50507f56d22169c25d24d217e05f9d04c7145b6"), looks := false }, kinds := [], alts := [], laidByText := true, laidKinds := [.data], laidTests := true, laidLooks := .later }
def WalkNobodyUptoCardSaid : Prop := Claim7.holds Tryz.pinned (.plain (OpenSpec.upto walkNobodySpec)) walkNobodyUptoCard

/-- THE SECOND FORM's CARD OF 'sluicegatelaw20.WalkLeaves'. -/
def walkLeavesUptoCard : Claim7 := { stood := { row := walkLeavesUptoRow, standIns := [], harness := (true, "5729ecba16c3f425a5ccd66fa50507f56d22169c25d24d217e05f9d04c7145b6"), looks := false }, kinds := [], alts := [], laidByText := true, laidKinds := [.data], laidTests := true, laidLooks := .later }
def WalkLeavesUptoCardSaid : Prop := Claim7.holds Tryz.pinned (.plain (OpenSpec.upto walkLeavesSpec)) walkLeavesUptoCard

/-- THE SECOND FORM's CARD OF 'sluicegatelaw19.SeekGets'. -/
def seekGetsUptoCard : Claim7 := { stood := { row := seekGetsUptoRow, standIns := [], harness := (true, "5729ecba16c3f425a5ccd66fa50507f56d22169c25d24d217e05f9d04c7145b6"), looks := false }, kinds := [], alts := [], laidByText := true, laidKinds := [.data], laidTests := true, laidLooks := .later }
def SeekGetsUptoCardSaid : Prop := Claim7.holds Tryz.pinned (.plain (OpenSpec.upto seekGetsSpec)) seekGetsUptoCard

/-- THE SECOND FORM's CARD OF 'sluicegatelaw20.WalkLooks'. -/
def walkLooksUptoCard : Claim7 := { stood := { row := walkLooksUptoRow, standIns := [], harness := (true, "5729ecba16c3f425a5ccd66fa50507f56d22169c25d24d217e05f9d04c7145b6"), looks := false }, kinds := [], alts := [], laidByText := true, laidKinds := [.data], laidTests := true, laidLooks := .later }
def WalkLooksUptoCardSaid : Prop := Claim7.holds Tryz.pinned (.plain (OpenSpec.upto walkLooksSpec)) walkLooksUptoCard

/-- THE SECOND FORM's CARD OF 'sluicegatelaw19.SeekWays'. -/
def seekWaysUptoCard : Claim7 := { stood := { row := seekWaysUptoRow, standIns := [], harness := (true, "5729ecba16c3f425a5ccd66fa50507f56d22169c25d24d217e05f9d04c7145b6"), looks := false }, kinds := [], alts := [], laidByText := true, laidKinds := [.data], laidTests := true, laidLooks := .later }
def SeekWaysUptoCardSaid : Prop := Claim7.holds Tryz.pinned (.plain (OpenSpec.upto seekWaysSpec)) seekWaysUptoCard

/-- THE SECOND FORM's CARD OF 'sluicegatelaw19.SeekCorrupt'. -/
def seekCorruptUptoCard : Claim7 := { stood := { row := seekCorruptUptoRow, standIns := [], harness := (true, "5729ecba16c3f425a5ccd66fa50507f56d22169c25d24d217e05f9d04c7145b6"), looks := false }, kinds := [], alts := [], laidByText := true, laidKinds := [.data], laidTests := true, laidLooks := .later }
def SeekCorruptUptoCardSaid : Prop := Claim7.holds Tryz.pinned (.plain (OpenSpec.upto seekCorruptSpec)) seekCorruptUptoCard

/-- THE SECOND FORM's CARD OF 'sluicegatelaw19.SeekCosts'. -/
def seekCostsUptoCard : Claim7 := { stood := { row := seekCostsUptoRow, standIns := [], harness := (true, "5729ecba16c3f425a5ccd66fa50507f56d22169c25d24d217e05f9d04c7145b6"), looks := false }, kinds := [], alts := [], laidByText := true, laidKinds := [.data], laidTests := true, laidLooks := .later }
def SeekCostsUptoCardSaid : Prop := Claim7.holds Tryz.pinned (.plain (OpenSpec.upto seekCostsSpec)) seekCostsUptoCard
end Rows
end Go.Proofs.YtildkmkohidmdaaGreatDoor
