/-
  DERIVED. GIVEN WITH THE SEED: THE CARDS: each row of YtaokjpbgdehhiaaGreatDoorRows.lean that lists a variable, with what it lists TIED to the program's text (the seventh form; the later family's looks); each row that meets fmt, with fmt's text TOLD by the authors' own Lean function (tested against real Go, not proved from fmt's source: count such statements apart). THE CARD IS WHAT COUNTS. Prove the row's statement (the work); the ties are given (YtaokjpbgdehhiaaGreatDoorTie.lean); close each card by the builder's one call (the guide's Derived/Test/ToyasCard.lean, 'card_holds'). Laid BY PROGRAM, IN A SANDBOX (cutbox-door.mjs). By AI agents, Wed Nov 11 2026. No macro, syntax, notation, axiom, sorry.
-/
import Derived.Test.YtaokjpbgdehhiaaGreatDoorRows
import GoSem.ClaimSeven
namespace Go.Proofs.YtaokjpbgdehhiaaGreatDoor
namespace Rows

/-- THE TIED CARD OF 'larderlaw13.MendFull'. -/
def mendFullCard : Claim7 := { stood := { row := mendFullRow, standIns := [], harness := (true, "0f56992054d35c9f7b47b3bf281018113fd8d48e44e189b179e6a1c7c54b3005"), looks := true }, kinds := [], alts := [], laidByText := true, laidKinds := [.data, .data], laidTests := true, laidLooks := .later }
def MendFullCardSaid : Prop := Claim7.holds Tryz.pinned (.plain (OpenSpec.ofChange mendFullSpec)) mendFullCard

/-- THE SECOND FORM's CARD OF 'larderlaw13.MendFull'. -/
def mendFullUptoCard : Claim7 := { stood := { row := mendFullUptoRow, standIns := [], harness := (true, "0f56992054d35c9f7b47b3bf281018113fd8d48e44e189b179e6a1c7c54b3005"), looks := true }, kinds := [], alts := [], laidByText := true, laidKinds := [.data, .data], laidTests := true, laidLooks := .later }
def MendFullUptoCardSaid : Prop := Claim7.holds Tryz.pinned (.plain (OpenSpec.upto mendFullSpec)) mendFullUptoCard
end Rows
end Go.Proofs.YtaokjpbgdehhiaaGreatDoor
