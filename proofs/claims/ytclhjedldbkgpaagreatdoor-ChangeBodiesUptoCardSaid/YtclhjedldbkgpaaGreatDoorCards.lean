/-
  DERIVED. GIVEN WITH THE SEED: THE CARDS: each row of YtclhjedldbkgpaaGreatDoorRows.lean that lists a variable, with what it lists TIED to the program's text (the seventh form; the later family's looks); each row that meets fmt, with fmt's text TOLD by the authors' own Lean function (tested against real Go, not proved from fmt's source: count such statements apart). THE CARD IS WHAT COUNTS. Prove the row's statement (the work); the ties are given (YtclhjedldbkgpaaGreatDoorTie.lean); close each card by the builder's one call (the guide's Derived/Test/ToyasCard.lean, 'card_holds'). Laid BY PROGRAM, IN A SANDBOX (cutbox-door.mjs). By AI agents, Wed Nov 11 2026. No macro, syntax, notation, axiom, sorry.
-/
import Derived.Test.YtclhjedldbkgpaaGreatDoorRows
import GoSem.ClaimSeven
namespace Go.Proofs.YtclhjedldbkgpaaGreatDoor
namespace Rows

/-- THE TIED CARD OF 'winchlaw25.ChangeBodies'. -/
def changeBodiesCard : Claim7 := { stood := { row := changeBodiesRow, standIns := [], harness := (true, "2e0e6325fc4bc087561109f71ccb0eb185712117ab6789c3a0a39a260004de7f"), looks := true }, kinds := [], alts := [], laidByText := true, laidKinds := [.data, .data, .data, .sentinel, .sentinel, .mapped, .mapped], laidTests := true, laidLooks := .later }
def ChangeBodiesCardSaid : Prop := Claim7.holds Tryz.pinned (.plain (OpenSpec.ofChange changeBodiesSpec)) changeBodiesCard

/-- THE SECOND FORM's CARD OF 'winchlaw25.ChangeBodies'. -/
def changeBodiesUptoCard : Claim7 := { stood := { row := changeBodiesUptoRow, standIns := [], harness := (true, "2e0e6325fc4bc087561109f71ccb0eb185712117ab6789c3a0a39a260004de7f"), looks := true }, kinds := [], alts := [], laidByText := true, laidKinds := [.data, .data, .data, .sentinel, .sentinel, .mapped, .mapped], laidTests := true, laidLooks := .later }
def ChangeBodiesUptoCardSaid : Prop := Claim7.holds Tryz.pinned (.plain (OpenSpec.upto changeBodiesSpec)) changeBodiesUptoCard
end Rows
end Go.Proofs.YtclhjedldbkgpaaGreatDoor
