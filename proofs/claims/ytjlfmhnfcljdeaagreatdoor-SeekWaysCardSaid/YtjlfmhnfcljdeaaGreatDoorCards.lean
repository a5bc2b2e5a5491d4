/-
  DERIVED. GIVEN WITH THE SEED: THE CARDS: each row of YtjlfmhnfcljdeaaGreatDoorRows.lean that lists a variable, with what it lists TIED to the program's text (the seventh form; the later family's looks); each row that meets fmt, with fmt's text TOLD by the authors' own Lean function (tested against real Go, not proved from fmt's source: count such statements apart). THE CARD IS WHAT COUNTS. Prove the row's statement (the work); the ties are given (YtjlfmhnfcljdeaaGreatDoorTie.lean); close each card by the builder's one call (the guide's Derived/Test/ToyasCard.lean, 'card_holds'). Laid BY PROGRAM, IN A SANDBOX (cutbox-door.mjs). By AI agents, Wed Nov 11 2026. No macro, syntax, notation, axiom, sorry.
-/
import Derived.Test.YtjlfmhnfcljdeaaGreatDoorRows
import GoSem.ClaimSeven
namespace Go.Proofs.YtjlfmhnfcljdeaaGreatDoor
namespace Rows

/-- THE TIED CARD OF 'sluicegatelaw19.SeekWays'. -/
def seekWaysCard : Claim7 := { stood := { row := seekWaysRow, standIns := [], harness := (true, "46e2120212647829c6fb2766294f4582d9247ccd6f308747962eb89128d15dc3"), looks := false }, kinds := [], alts := [], laidByText := true, laidKinds := [.data], laidTests := true, laidLooks := .later }
def SeekWaysCardSaid : Prop := Claim7.holds Tryz.pinned (.plain (OpenSpec.ofChange seekWaysSpec)) seekWaysCard

/-- THE SECOND FORM's CARD OF 'sluicegatelaw19.SeekWays'. -/
def seekWaysUptoCard : Claim7 := { stood := { row := seekWaysUptoRow, standIns := [], harness := (true, "46e2120212647829c6fb2766294f4582d9247ccd6f308747962eb89128d15dc3"), looks := false }, kinds := [], alts := [], laidByText := true, laidKinds := [.data], laidTests := true, laidLooks := .later }
def SeekWaysUptoCardSaid : Prop := Claim7.holds Tryz.pinned (.plain (OpenSpec.upto seekWaysSpec)) seekWaysUptoCard
end Rows
end Go.Proofs.YtjlfmhnfcljdeaaGreatDoor
