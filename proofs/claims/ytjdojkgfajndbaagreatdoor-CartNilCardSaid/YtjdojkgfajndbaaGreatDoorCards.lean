/-
  DERIVED. GIVEN WITH THE SEED: THE CARDS: each row of YtjdojkgfajndbaaGreatDoorRows.lean that lists a variable, with what it lists TIED to the program's text (the seventh form; the later family's looks); each row that meets fmt, with fmt's text TOLD by the authors' own Lean function (tested against real Go, not proved from fmt's source: count such statements apart). THE CARD IS WHAT COUNTS. Prove the row's statement (the work); the ties are given (YtjdojkgfajndbaaGreatDoorTie.lean); close each card by the builder's one call (the guide's Derived/Test/ToyasCard.lean, 'card_holds'). Laid BY PROGRAM, IN A SANDBOX (cutbox-door.mjs). By AI agents, Wed Nov 11 2026. No macro, syntax, notation, axiom, sorry.
-/
import Derived.Test.YtjdojkgfajndbaaGreatDoorRows
import GoSem.ClaimSeven
namespace Go.Proofs.YtjdojkgfajndbaaGreatDoor
namespace Rows

/-- THE TIED CARD OF 'larderlaw14.CartNil'. -/
def cartNilCard : Claim7 := { stood := { row := cartNilRow, standIns := [], harness := (true, "7ae158b8359d52dcef57104ba782f4fbff7a15d8f93346f8f4fd5adb13023b64"), looks := true }, kinds := [], alts := [], laidByText := true, laidKinds := [.data, .data], laidTests := true, laidLooks := .later }
def CartNilCardSaid : Prop := Claim7.holds Tryz.pinned (.plain (OpenSpec.ofChange cartNilSpec)) cartNilCard

/-- THE SECOND FORM's CARD OF 'larderlaw14.CartNil'. -/
def cartNilUptoCard : Claim7 := { stood := { row := cartNilUptoRow, standIns := [], harness := (true, "7ae158b8359d52dcef57104ba782f4fbff7a15d8f93346f8f4fd5adb13023b64"), looks := true }, kinds := [], alts := [], laidByText := true, laidKinds := [.data, .data], laidTests := true, laidLooks := .later }
def CartNilUptoCardSaid : Prop := Claim7.holds Tryz.pinned (.plain (OpenSpec.upto cartNilSpec)) cartNilUptoCard
end Rows
end Go.Proofs.YtjdojkgfajndbaaGreatDoor
