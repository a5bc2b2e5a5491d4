/-
  DERIVED. GIVEN WITH THE SEED: THE CARDS: each row of YtnfpiaaejdejoaaGreatDoorRows.lean that lists a variable, with what it lists TIED to the program's text (the seventh form; the later family's looks); each row that meets fmt, with fmt's text TOLD by the authors' own Lean function (tested against real Go, not proved from fmt's source: count such statements apart). THE CARD IS WHAT COUNTS. Prove the row's statement (the work); the ties are given (YtnfpiaaejdejoaaGreatDoorTie.lean); close each card by the builder's one call (the guide's Derived/Test/ToyasCard.lean, 'card_holds'). Laid BY PROGRAM, IN A SANDBOX (cutbox-door.mjs). By AI agents, Wed Nov 11 2026. No macro, syntax, notation, axiom, sorry.
-/
import Derived.Test.YtnfpiaaejdejoaaGreatDoorRows
import GoSem.ClaimSeven
namespace Go.Proofs.YtnfpiaaejdejoaaGreatDoor
namespace Rows

/-- THE TIED CARD OF 'sluicegatelaw20.WalkLeaves'. -/
def walkLeavesCard : Claim7 := { stood := { row := walkLeavesRow, standIns := [], harness := (true, "4121b7088fbcbd2fd309fff318ea3148c55ec7d49a676a742544ac3a90f20edf"), looks := false }, kinds := [], alts := [], laidByText := true, laidKinds := [.data], laidTests := true, laidLooks := .later }
def WalkLeavesCardSaid : Prop := Claim7.holds Tryz.pinned (.plain (OpenSpec.ofChange walkLeavesSpec)) walkLeavesCard

/-- THE SECOND FORM's CARD OF 'sluicegatelaw20.WalkLeaves'. -/
def walkLeavesUptoCard : Claim7 := { stood := { row := walkLeavesUptoRow, standIns := [], harness := (true, "4121b7088fbcbd2fd309fff318ea3148c55ec7d49a676a742544ac3a90f20edf"), looks := false }, kinds := [], alts := [], laidByText := true, laidKinds := [.data], laidTests := true, laidLooks := .later }
def WalkLeavesUptoCardSaid : Prop := Claim7.holds Tryz.pinned (.plain (OpenSpec.upto walkLeavesSpec)) walkLeavesUptoCard
end Rows
end Go.Proofs.YtnfpiaaejdejoaaGreatDoor
