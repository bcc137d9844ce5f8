/-
  DERIVED. GIVEN WITH THE SEED: THE CARDS: each row of YtncodmefagealaaGreatDoorRows.lean that lists a variable, with what it lists TIED to the program's text (the seventh form; the later family's looks); each row that meets fmt, with fmt's text TOLD by the authors' own Lean function (tested against real Go, not proved from fmt's source: count such statements apart). THE CARD IS WHAT COUNTS. Prove the row's statement (the work); the ties are given (YtncodmefagealaaGreatDoorTie.lean); close each card by the builder's one call (the guide's Derived/Test/ToyasCard.lean, 'card_holds'). Laid BY PROGRAM, IN A SANDBOX (cutbox-door.mjs). By AI agents, Wed Nov 11 2026. No macro, syntax, notation, axiom, sorry.
-/
import Derived.Test.YtncodmefagealaaGreatDoorRows
import GoSem.ClaimSeven
namespace Go.Proofs.YtncodmefagealaaGreatDoor
namespace Rows

/-- THE TIED CARD OF 'larderlaw18.DeskKnown'. -/
def deskKnownCard : Claim7 := { stood := { row := deskKnownRow, standIns := [], harness := (true, "1a3c9dcccd2f87006e28f613febd0afebc779f13860d69864671ce99d86976bf"), looks := true }, kinds := [], alts := [], laidByText := true, laidKinds := [.sentinel, .data, .data, .sentinel, .sentinel, .pinned, .data, .sentinel, .sentinel, .sentinel, .sentinel, .data, .data, .data, .sentinel, .data, .handle, .sentinel, .sentinel, .sentinel, .sentinel, .sentinel, .sentinel, .sentinel, .sentinel, .sentinel, .sentinel, .sentinel, .sentinel, .sentinel, .sentinel, .sentinel, .sentinel, .sentinel, .sentinel, .sentinel], laidTests := true, laidLooks := .later }
def DeskKnownCardSaid : Prop := Claim7.holds Tryz.pinned (.plain (OpenSpec.ofChange deskKnownSpec)) deskKnownCard

/-- THE SECOND FORM's CARD OF 'larderlaw18.DeskKnown'. -/
def deskKnownUptoCard : Claim7 := { stood := { row := deskKnownUptoRow, standIns := [], harness := (true, "1a3c9dcccd2f87006e28f613febd0afebc779f13860d69864671ce99d86976bf"), looks := true }, kinds := [], alts := [], laidByText := true, laidKinds := [.sentinel, .data, .data, .sentinel, .sentinel, .pinned, .data, .sentinel, .sentinel, .sentinel, .sentinel, .data, .data, .data, .sentinel, .data, .handle, .sentinel, .sentinel, .sentinel, .sentinel, .sentinel, .sentinel, .sentinel, .sentinel, .sentinel, .sentinel, .sentinel, .sentinel, .sentinel, .sentinel, .sentinel, .sentinel, .sentinel, .sentinel, .sentinel], laidTests := true, laidLooks := .later }
def DeskKnownUptoCardSaid : Prop := Claim7.holds Tryz.pinned (.plain (OpenSpec.upto deskKnownSpec)) deskKnownUptoCard
end Rows
end Go.Proofs.YtncodmefagealaaGreatDoor
