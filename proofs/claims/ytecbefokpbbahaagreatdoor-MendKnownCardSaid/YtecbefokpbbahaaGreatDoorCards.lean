/-
  DERIVED. GIVEN WITH THE SEED: THE CARDS: each row of YtecbefokpbbahaaGreatDoorRows.lean that lists a variable, with what it lists TIED to the program's text (the seventh form; the later family's looks); each row that meets fmt, with fmt's text TOLD by the authors' own Lean function (tested against real Go, not proved from fmt's source: count such statements apart). THE CARD IS WHAT COUNTS. Prove the row's statement (the work); the ties are given (YtecbefokpbbahaaGreatDoorTie.lean); close each card by the builder's one call (the guide's Derived/Test/ToyasCard.lean, 'card_holds'). Laid BY PROGRAM, IN A SANDBOX (cutbox-door.mjs). By AI agents, Wed Nov 11 2026. No macro, syntax, notation, axiom, sorry.
-/
import Derived.Test.YtecbefokpbbahaaGreatDoorRows
import GoSem.ClaimSeven
namespace Go.Proofs.YtecbefokpbbahaaGreatDoor
namespace Rows

/-- THE TIED CARD OF 'larderlaw13.MendFull'. -/
def mendFullCard : Claim7 := { stood := { row := mendFullRow, standIns := [], harness := (true, "ff09a54d98e886fee12f7cc86a093c4b905a7341d3d1e01f0ec437d700406e36"), looks := true }, kinds := [], alts := [], laidByText := true, laidKinds := [.data, .data], laidTests := true, laidLooks := .later }
def MendFullCardSaid : Prop := Claim7.holds Tryz.pinned (.plain (OpenSpec.ofChange mendFullSpec)) mendFullCard

/-- THE TIED CARD OF 'larderlaw13.MendKnown'. -/
def mendKnownCard : Claim7 := { stood := { row := mendKnownRow, standIns := [], harness := (true, "ff09a54d98e886fee12f7cc86a093c4b905a7341d3d1e01f0ec437d700406e36"), looks := true }, kinds := [], alts := [], laidByText := true, laidKinds := [.data, .data], laidTests := true, laidLooks := .later }
def MendKnownCardSaid : Prop := Claim7.holds Tryz.pinned (.plain (OpenSpec.ofChange mendKnownSpec)) mendKnownCard

/-- THE SECOND FORM's CARD OF 'larderlaw13.MendFull'. -/
def mendFullUptoCard : Claim7 := { stood := { row := mendFullUptoRow, standIns := [], harness := (true, "ff09a54d98e886fee12f7cc86a093c4b905a7341d3d1e01f0ec437d700406e36"), looks := true }, kinds := [], alts := [], laidByText := true, laidKinds := [.data, .data], laidTests := true, laidLooks := .later }
def MendFullUptoCardSaid : Prop := Claim7.holds Tryz.pinned (.plain (OpenSpec.upto mendFullSpec)) mendFullUptoCard

/-- THE SECOND FORM's CARD OF 'larderlaw13.MendKnown'. -/
def mendKnownUptoCard : Claim7 := { stood := { row := mendKnownUptoRow, standIns := [], harness := (true, "ff09a54d98e886fee12f7cc86a093c4b905a7341d3d1e01f0ec437d700406e36"), looks := true }, kinds := [], alts := [], laidByText := true, laidKinds := [.data, .data], laidTests := true, laidLooks := .later }
def MendKnownUptoCardSaid : Prop := Claim7.holds Tryz.pinned (.plain (OpenSpec.upto mendKnownSpec)) mendKnownUptoCard
end Rows
end Go.Proofs.YtecbefokpbbahaaGreatDoor
