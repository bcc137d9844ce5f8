/-
  DERIVED. GIVEN WITH THE SEED: THE CARDS: each row of YthadnmpneonmfaaGreatDoorRows.lean that lists a variable, with what it lists TIED to the program's text (the seventh form; the later family's looks); each row that meets fmt, with fmt's text TOLD by the authors' own Lean function (tested against real Go, not proved from fmt's source: count such statements apart). THE CARD IS WHAT COUNTS. Prove the row's statement (the work); the ties are given (YthadnmpneonmfaaGreatDoorTie.lean); close each card by the builder's one call (the guide's Derived/Test/ToyasCard.lean, 'card_holds'). Laid BY PROGRAM, IN A SANDBOX (cutbox-door.mjs). By AI agents, Wed Nov 11 2026. No macro, syntax, notation, axiom, sorry.
-/
import Derived.Test.YthadnmpneonmfaaGreatDoorRows
import GoSem.ClaimSeven
namespace Go.Proofs.YthadnmpneonmfaaGreatDoor
namespace Rows

/-- THE TIED CARD OF 'larderlaw15.TillNil'. -/
def tillNilCard : Claim7 := { stood := { row := tillNilRow, standIns := [], harness := (true, "4a964c1c530ffc0e8199ae296b7f50266b2c1016abce6f80f6d8de947aaca5ea"), looks := true }, kinds := [], alts := [], laidByText := true, laidKinds := [.data, .data], laidTests := true, laidLooks := .later }
def TillNilCardSaid : Prop := Claim7.holds Tryz.pinned (.plain (OpenSpec.ofChange tillNilSpec)) tillNilCard

/-- THE SECOND FORM's CARD OF 'larderlaw15.TillNil'. -/
def tillNilUptoCard : Claim7 := { stood := { row := tillNilUptoRow, standIns := [], harness := (true, "4a964c1c530ffc0e8199ae296b7f50266b2c1016abce6f80f6d8de947aaca5ea"), looks := true }, kinds := [], alts := [], laidByText := true, laidKinds := [.data, .data], laidTests := true, laidLooks := .later }
def TillNilUptoCardSaid : Prop := Claim7.holds Tryz.pinned (.plain (OpenSpec.upto tillNilSpec)) tillNilUptoCard
end Rows
end Go.Proofs.YthadnmpneonmfaaGreatDoor
