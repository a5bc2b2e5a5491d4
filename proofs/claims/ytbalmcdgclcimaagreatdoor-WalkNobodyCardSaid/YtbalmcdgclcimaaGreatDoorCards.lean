/-
  DERIVED. GIVEN WITH THE SEED: THE CARDS: each row of YtbalmcdgclcimaaGreatDoorRows.lean that lists a variable, with what it lists TIED to the program's text (the seventh form; the later family's looks); each row that meets fmt, with fmt's text TOLD by the authors' own Lean function (tested against real Go, not proved from fmt's source: count such statements apart). THE CARD IS WHAT COUNTS. Prove the row's statement (the work); the ties are given (YtbalmcdgclcimaaGreatDoorTie.lean); close each card by the builder's one call (the guide's Derived/Test/ToyasCard.lean, 'card_holds'). Laid BY PROGRAM, IN A SANDBOX (cutbox-door.mjs). By AI agents, Wed Nov 11 2026. No macro, syntax, notation, axiom, sorry.
-/
import Derived.Test.YtbalmcdgclcimaaGreatDoorRows
import GoSem.ClaimSeven
namespace Go.Proofs.YtbalmcdgclcimaaGreatDoor
namespace Rows

/-- THE TIED CARD OF 'sluicegatelaw20.WalkNobody'. -/
def walkNobodyCard : Claim7 := { stood := { row := walkNobodyRow, standIns := [], harness := (true, "043e0fadef959702d195ca240e37df5e647889f4bfe986c88bd018e6ca10cbec"), looks := false }, kinds := [], alts := [], laidByText := true, laidKinds := [.data], laidTests := true, laidLooks := .later }
def WalkNobodyCardSaid : Prop := Claim7.holds Tryz.pinned (.plain (OpenSpec.ofChange walkNobodySpec)) walkNobodyCard

/-- THE SECOND FORM's CARD OF 'sluicegatelaw20.WalkNobody'. -/
def walkNobodyUptoCard : Claim7 := { stood := { row := walkNobodyUptoRow, standIns := [], harness := (true, "043e0fadef959702d195ca240e37df5e647889f4bfe986c88bd018e6ca10cbec"), looks := false }, kinds := [], alts := [], laidByText := true, laidKinds := [.data], laidTests := true, laidLooks := .later }
def WalkNobodyUptoCardSaid : Prop := Claim7.holds Tryz.pinned (.plain (OpenSpec.upto walkNobodySpec)) walkNobodyUptoCard
end Rows
end Go.Proofs.YtbalmcdgclcimaaGreatDoor
