/-
  DERIVED. GIVEN WITH THE SEED: THE CARDS: each row of YtnaapkoladiomaaGreatDoorRows.lean that lists a variable, with what it lists TIED to the program's text (the seventh form; the later family's looks); each row that meets fmt, with fmt's text TOLD by the authors' own Lean function (tested against real Go, not proved from fmt's source: count such statements apart). THE CARD IS WHAT COUNTS. Prove the row's statement (the work); the ties are given (YtnaapkoladiomaaGreatDoorTie.lean); close each card by the builder's one call (the guide's Derived/Test/ToyasCard.lean, 'card_holds'). Laid BY PROGRAM, IN A SANDBOX (cutbox-door.mjs). By AI agents, Wed Nov 11 2026. No macro, syntax, notation, axiom, sorry.
-/
import Derived.Test.YtnaapkoladiomaaGreatDoorRows
import GoSem.ClaimSeven
namespace Go.Proofs.YtnaapkoladiomaaGreatDoor
namespace Rows

/-- THE TIED CARD OF 'larderlaw13.MendLays'. -/
def mendLaysCard : Claim7 := { stood := { row := mendLaysRow, standIns := [], harness := (true, "ce99e1768e62ac6a15acdccbab17c3515371395cf6932c7c3750636714d6c953"), looks := false }, kinds := [], alts := [], laidByText := true, laidKinds := [.data], laidTests := true, laidLooks := .later }
def MendLaysCardSaid : Prop := Claim7.holds Tryz.pinned (.plain (OpenSpec.ofChange mendLaysSpec)) mendLaysCard

/-- THE TIED CARD OF 'larderlaw13.MendChecks'. -/
def mendChecksCard : Claim7 := { stood := { row := mendChecksRow, standIns := [], harness := (true, "ce99e1768e62ac6a15acdccbab17c3515371395cf6932c7c3750636714d6c953"), looks := false }, kinds := [], alts := [], laidByText := true, laidKinds := [.data], laidTests := true, laidLooks := .later }
def MendChecksCardSaid : Prop := Claim7.holds Tryz.pinned (.plain (OpenSpec.ofChange mendChecksSpec)) mendChecksCard

/-- THE SECOND FORM's CARD OF 'larderlaw13.MendLays'. -/
def mendLaysUptoCard : Claim7 := { stood := { row := mendLaysUptoRow, standIns := [], harness := (true, "ce99e1768e62ac6a15acdccbab17c3515371395cf6932c7c3750636714d6c953"), looks := false }, kinds := [], alts := [], laidByText := true, laidKinds := [.data], laidTests := true, laidLooks := .later }
def MendLaysUptoCardSaid : Prop := Claim7.holds Tryz.pinned (.plain (OpenSpec.upto mendLaysSpec)) mendLaysUptoCard

/-- THE SECOND FORM's CARD OF 'larderlaw13.MendChecks'. -/
def mendChecksUptoCard : Claim7 := { stood := { row := mendChecksUptoRow, standIns := [], harness := (true, "ce99e1768e62ac6a15acdccbab17c3515371395cf6932c7c3750636714d6c953"), looks := false }, kinds := [], alts := [], laidByText := true, laidKinds := [.data], laidTests := true, laidLooks := .later }
def MendChecksUptoCardSaid : Prop := Claim7.holds Tryz.pinned (.plain (OpenSpec.upto mendChecksSpec)) mendChecksUptoCard
end Rows
end Go.Proofs.YtnaapkoladiomaaGreatDoor
