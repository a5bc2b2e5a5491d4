/-
  DERIVED. GIVEN WITH THE SEED: THE CARDS: each row of YtlpefjhbbfhbhaaGreatDoorRows.lean that lists a variable, with what it lists TIED to the program's text (the seventh form; the later family's looks); each row that meets fmt, with fmt's text TOLD by the authors' own Lean function (tested against real Go, not proved from fmt's source: count such statements apart). THE CARD IS WHAT COUNTS. Prove the row's statement (the work); the ties are given (YtlpefjhbbfhbhaaGreatDoorTie.lean); close each card by the builder's one call (the guide's Derived/Test/ToyasCard.lean, 'card_holds'). Laid BY PROGRAM, IN A SANDBOX (cutbox-door.mjs). By AI agents, Wed Nov 11 2026. No macro, syntax, notation, axiom, sorry.
-/
import Derived.Test.YtlpefjhbbfhbhaaGreatDoorRows
import GoSem.ClaimSeven
namespace Go.Proofs.YtlpefjhbbfhbhaaGreatDoor
namespace Rows

/-- THE TIED CARD OF 'sluicegatelaw19.SeekCorrupt'. -/
def seekCorruptCard : Claim7 := { stood := { row := seekCorruptRow, standIns := [], harness := (true, "c14304b4dd53a106f95d0718256a9f0147e173f08ec80262858f4143f08c0058"), looks := false }, kinds := [], alts := [], laidByText := true, laidKinds := [.data], laidTests := true, laidLooks := .later }
def SeekCorruptCardSaid : Prop := Claim7.holds Tryz.pinned (.plain (OpenSpec.ofChange seekCorruptSpec)) seekCorruptCard

/-- THE SECOND FORM's CARD OF 'sluicegatelaw19.SeekCorrupt'. -/
def seekCorruptUptoCard : Claim7 := { stood := { row := seekCorruptUptoRow, standIns := [], harness := (true, "c14304b4dd53a106f95d0718256a9f0147e173f08ec80262858f4143f08c0058"), looks := false }, kinds := [], alts := [], laidByText := true, laidKinds := [.data], laidTests := true, laidLooks := .later }
def SeekCorruptUptoCardSaid : Prop := Claim7.holds Tryz.pinned (.plain (OpenSpec.upto seekCorruptSpec)) seekCorruptUptoCard
end Rows
end Go.Proofs.YtlpefjhbbfhbhaaGreatDoor
