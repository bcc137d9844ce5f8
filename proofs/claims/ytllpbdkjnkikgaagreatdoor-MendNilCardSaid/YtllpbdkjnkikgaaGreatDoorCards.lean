/-
  DERIVED. GIVEN WITH THE SEED: THE CARDS: each row of YtllpbdkjnkikgaaGreatDoorRows.lean that lists a variable, with what it lists TIED to the program's text (the seventh form; the later family's looks); each row that meets fmt, with fmt's text TOLD by the authors' own Lean function (tested against real Go, not proved from fmt's source: count such statements apart). THE CARD IS WHAT COUNTS. Prove the row's statement (the work); the ties are given (YtllpbdkjnkikgaaGreatDoorTie.lean); close each card by the builder's one call (the guide's Derived/Test/ToyasCard.lean, 'card_holds'). Laid BY PROGRAM, IN A SANDBOX (cutbox-door.mjs). By AI agents, Wed Nov 11 2026. No macro, syntax, notation, axiom, sorry.
-/
import Derived.Test.YtllpbdkjnkikgaaGreatDoorRows
import GoSem.ClaimSeven
namespace Go.Proofs.YtllpbdkjnkikgaaGreatDoor
namespace Rows

/-- THE TIED CARD OF 'larderlaw13.MendLays'. -/
def mendLaysCard : Claim7 := { stood := { row := mendLaysRow, standIns := [], harness := (true, "d3e3d6ce0401209bc8782c35acc198fb5dac53d853aa3bd0c1d5828944c8131f"), looks := true }, kinds := [], alts := [], laidByText := true, laidKinds := [.data], laidTests := true, laidLooks := .later }
def MendLaysCardSaid : Prop := Claim7.holds Tryz.pinned (.plain (OpenSpec.ofChange mendLaysSpec)) mendLaysCard

/-- THE TIED CARD OF 'larderlaw13.MendChecks'. -/
def mendChecksCard : Claim7 := { stood := { row := mendChecksRow, standIns := [], harness := (true, "d3e3d6ce0401209bc8782c35acc198fb5dac53d853aa3bd0c1d5828944c8131f"), looks := true }, kinds := [], alts := [], laidByText := true, laidKinds := [.data], laidTests := true, laidLooks := .later }
def MendChecksCardSaid : Prop := Claim7.holds Tryz.pinned (.plain (OpenSpec.ofChange mendChecksSpec)) mendChecksCard

/-- THE TIED CARD OF 'larderlaw13.MendNil'. -/
def mendNilCard : Claim7 := { stood := { row := mendNilRow, standIns := [], harness := (true, "d3e3d6ce0401209bc8782c35acc198fb5dac53d853aa3bd0c1d5828944c8131f"), looks := true }, kinds := [], alts := [], laidByText := true, laidKinds := [.data, .data], laidTests := true, laidLooks := .later }
def MendNilCardSaid : Prop := Claim7.holds Tryz.pinned (.plain (OpenSpec.ofChange mendNilSpec)) mendNilCard

/-- THE TIED CARD OF 'larderlaw13.MendNewests'. -/
def mendNewestsCard : Claim7 := { stood := { row := mendNewestsRow, standIns := [], harness := (true, "d3e3d6ce0401209bc8782c35acc198fb5dac53d853aa3bd0c1d5828944c8131f"), looks := true }, kinds := [], alts := [], laidByText := true, laidKinds := [.data, .data], laidTests := true, laidLooks := .later }
def MendNewestsCardSaid : Prop := Claim7.holds Tryz.pinned (.plain (OpenSpec.ofChange mendNewestsSpec)) mendNewestsCard

/-- THE TIED CARD OF 'larderlaw13.MendFull'. -/
def mendFullCard : Claim7 := { stood := { row := mendFullRow, standIns := [], harness := (true, "d3e3d6ce0401209bc8782c35acc198fb5dac53d853aa3bd0c1d5828944c8131f"), looks := true }, kinds := [], alts := [], laidByText := true, laidKinds := [.data, .data], laidTests := true, laidLooks := .later }
def MendFullCardSaid : Prop := Claim7.holds Tryz.pinned (.plain (OpenSpec.ofChange mendFullSpec)) mendFullCard

/-- THE TIED CARD OF 'larderlaw13.MendKnown'. -/
def mendKnownCard : Claim7 := { stood := { row := mendKnownRow, standIns := [], harness := (true, "d3e3d6ce0401209bc8782c35acc198fb5dac53d853aa3bd0c1d5828944c8131f"), looks := true }, kinds := [], alts := [], laidByText := true, laidKinds := [.data, .data], laidTests := true, laidLooks := .later }
def MendKnownCardSaid : Prop := Claim7.holds Tryz.pinned (.plain (OpenSpec.ofChange mendKnownSpec)) mendKnownCard

/-- THE TIED CARD OF 'larderlaw13.MendOwn'. -/
def mendOwnCard : Claim7 := { stood := { row := mendOwnRow, standIns := [], harness := (true, "d3e3d6ce0401209bc8782c35acc198fb5dac53d853aa3bd0c1d5828944c8131f"), looks := true }, kinds := [], alts := [], laidByText := true, laidKinds := [.data, .data], laidTests := true, laidLooks := .later }
def MendOwnCardSaid : Prop := Claim7.holds Tryz.pinned (.plain (OpenSpec.ofChange mendOwnSpec)) mendOwnCard

/-- THE TIED CARD OF 'larderlaw13.MendFits'. -/
def mendFitsCard : Claim7 := { stood := { row := mendFitsRow, standIns := [], harness := (true, "d3e3d6ce0401209bc8782c35acc198fb5dac53d853aa3bd0c1d5828944c8131f"), looks := true }, kinds := [], alts := [], laidByText := true, laidKinds := [.data, .data], laidTests := true, laidLooks := .later }
def MendFitsCardSaid : Prop := Claim7.holds Tryz.pinned (.plain (OpenSpec.ofChange mendFitsSpec)) mendFitsCard

/-- THE TIED CARD OF 'larderlaw13.MendPlays'. -/
def mendPlaysCard : Claim7 := { stood := { row := mendPlaysRow, standIns := [], harness := (true, "d3e3d6ce0401209bc8782c35acc198fb5dac53d853aa3bd0c1d5828944c8131f"), looks := true }, kinds := [], alts := [], laidByText := true, laidKinds := [.data, .data], laidTests := true, laidLooks := .later }
def MendPlaysCardSaid : Prop := Claim7.holds Tryz.pinned (.plain (OpenSpec.ofChange mendPlaysSpec)) mendPlaysCard

/-- THE TIED CARD OF 'larderlaw13.MendCrash'. -/
def mendCrashCard : Claim7 := { stood := { row := mendCrashRow, standIns := [], harness := (true, "d3e3d6ce0401209bc8782c35acc198fb5dac53d853aa3bd0c1d5828944c8131f"), looks := true }, kinds := [], alts := [], laidByText := true, laidKinds := [.data, .data], laidTests := true, laidLooks := .later }
def MendCrashCardSaid : Prop := Claim7.holds Tryz.pinned (.plain (OpenSpec.ofChange mendCrashSpec)) mendCrashCard

/-- THE TIED CARD OF 'larderlaw13.MendAgain'. -/
def mendAgainCard : Claim7 := { stood := { row := mendAgainRow, standIns := [], harness := (true, "d3e3d6ce0401209bc8782c35acc198fb5dac53d853aa3bd0c1d5828944c8131f"), looks := true }, kinds := [], alts := [], laidByText := true, laidKinds := [.data, .data], laidTests := true, laidLooks := .later }
def MendAgainCardSaid : Prop := Claim7.holds Tryz.pinned (.plain (OpenSpec.ofChange mendAgainSpec)) mendAgainCard

/-- THE SECOND FORM's CARD OF 'larderlaw13.MendLays'. -/
def mendLaysUptoCard : Claim7 := { stood := { row := mendLaysUptoRow, standIns := [], harness := (true, "d3e3d6ce0401209bc8782c35acc198fb5dac53d853aa3bd0c1d5828944c8131f"), looks := true }, kinds := [], alts := [], laidByText := true, laidKinds := [.data], laidTests := true, laidLooks := .later }
def MendLaysUptoCardSaid : Prop := Claim7.holds Tryz.pinned (.plain (OpenSpec.upto mendLaysSpec)) mendLaysUptoCard

/-- THE SECOND FORM's CARD OF 'larderlaw13.MendChecks'. -/
def mendChecksUptoCard : Claim7 := { stood := { row := mendChecksUptoRow, standIns := [], harness := (true, "d3e3d6ce0401209bc8782c35acc198fb5dac53d853aa3bd0c1d5828944c8131f"), looks := true }, kinds := [], alts := [], laidByText := true, laidKinds := [.data], laidTests := true, laidLooks := .later }
def MendChecksUptoCardSaid : Prop := Claim7.holds Tryz.pinned (.plain (OpenSpec.upto mendChecksSpec)) mendChecksUptoCard

/-- THE SECOND FORM's CARD OF 'larderlaw13.MendNil'. -/
def mendNilUptoCard : Claim7 := { stood := { row := mendNilUptoRow, standIns := [], harness := (true, "d3e3d6ce0401209bc8782c35acc198fb5dac53d853aa3bd0c1d5828944c8131f"), looks := true }, kinds := [], alts := [], laidByText := true, laidKinds := [.data, .data], laidTests := true, laidLooks := .later }
def MendNilUptoCardSaid : Prop := Claim7.holds Tryz.pinned (.plain (OpenSpec.upto mendNilSpec)) mendNilUptoCard

/-- THE SECOND FORM's CARD OF 'larderlaw13.MendNewests'. -/
def mendNewestsUptoCard : Claim7 := { stood := { row := mendNewestsUptoRow, standIns := [], harness := (true, "d3e3d6ce0401209bc8782c35acc198fb5dac53d853aa3bd0c1d5828944c8131f"), looks := true }, kinds := [], alts := [], laidByText := true, laidKinds := [.data, .data], laidTests := true, laidLooks := .later }
def MendNewestsUptoCardSaid : Prop := Claim7.holds Tryz.pinned (.plain (OpenSpec.upto mendNewestsSpec)) mendNewestsUptoCard

/-- THE SECOND FORM's CARD OF 'larderlaw13.MendFull'. -/
def mendFullUptoCard : Claim7 := { stood := { row := mendFullUptoRow, standIns := [], harness := (true, "d3e3d6ce0401209bc8782c35acc198fb5dac53d853aa3bd0c1d5828944c8131f"), looks := true }, kinds := [], alts := [], laidByText := true, laidKinds := [.data, .data], laidTests := true, laidLooks := .later }
def MendFullUptoCardSaid : Prop := Claim7.holds Tryz.pinned (.plain (OpenSpec.upto mendFullSpec)) mendFullUptoCard

/-- THE SECOND FORM's CARD OF 'larderlaw13.MendKnown'. -/
def mendKnownUptoCard : Claim7 := { stood := { row := mendKnownUptoRow, standIns := [], harness := (true, "d3e3d6ce0401209bc8782c35acc198fb5dac53d853aa3bd0c1d5828944c8131f"), looks := true }, kinds := [], alts := [], laidByText := true, laidKinds := [.data, .data], laidTests := true, laidLooks := .later }
def MendKnownUptoCardSaid : Prop := Claim7.holds Tryz.pinned (.plain (OpenSpec.upto mendKnownSpec)) mendKnownUptoCard

/-- THE SECOND FORM's CARD OF 'larderlaw13.MendOwn'. -/
def mendOwnUptoCard : Claim7 := { stood := { row := mendOwnUptoRow, standIns := [], harness := (true, "d3e3d6ce0401209bc8782c35acc198fb5dac53d853aa3bd0c1d5828944c8131f"), looks := true }, kinds := [], alts := [], laidByText := true, laidKinds := [.data, .data], laidTests := true, laidLooks := .later }
def MendOwnUptoCardSaid : Prop := Claim7.holds Tryz.pinned (.plain (OpenSpec.upto mendOwnSpec)) mendOwnUptoCard

/-- THE SECOND FORM's CARD OF 'larderlaw13.MendFits'. -/
def mendFitsUptoCard : Claim7 := { stood := { row := mendFitsUptoRow, standIns := [], harness := (true, "d3e3d6ce0401209bc8782c35acc198fb5dac53d853aa3bd0c1d5828944c8131f"), looks := true }, kinds := [], alts := [], laidByText := true, laidKinds := [.data, .data], laidTests := true, laidLooks := .later }
def MendFitsUptoCardSaid : Prop := Claim7.holds Tryz.pinned (.plain (OpenSpec.upto mendFitsSpec)) mendFitsUptoCard

/-- THE SECOND FORM's CARD OF 'larderlaw13.MendPlays'. -/
def mendPlaysUptoCard : Claim7 := { stood := { row := mendPlaysUptoRow, standIns := [], harness := (true, "d3e3d6ce0401209bc8782c35acc198fb5dac53d853aa3bd0c1d5828944c8131f"), looks := true }, kinds := [], alts := [], laidByText := true, laidKinds := [.data, .data], laidTests := true, laidLooks := .later }
def MendPlaysUptoCardSaid : Prop := Claim7.holds Tryz.pinned (.plain (OpenSpec.upto mendPlaysSpec)) mendPlaysUptoCard

/-- THE SECOND FORM's CARD OF 'larderlaw13.MendCrash'. -/
def mendCrashUptoCard : Claim7 := { stood := { row := mendCrashUptoRow, standIns := [], harness := (true, "d3e3d6ce0401209bc8782c35acc198fb5dac53d853aa3bd0c1d5828944c8131f"), looks := true }, kinds := [], alts := [], laidByText := true, laidKinds := [.data, .data], laidTests := true, laidLooks := .later }
def MendCrashUptoCardSaid : Prop := Claim7.holds Tryz.pinned (.plain (OpenSpec.upto mendCrashSpec)) mendCrashUptoCard

/-- THE SECOND FORM's CARD OF 'larderlaw13.MendAgain'. -/
def mendAgainUptoCard : Claim7 := { stood := { row := mendAgainUptoRow, standIns := [], harness := (true, "d3e3d6ce0401209bc8782c35acc198fb5dac53d853aa3bd0c1d5828944c8131f"), looks := true }, kinds := [], alts := [], laidByText := true, laidKinds := [.data, .data], laidTests := true, laidLooks := .later }
def MendAgainUptoCardSaid : Prop := Claim7.holds Tryz.pinned (.plain (OpenSpec.upto mendAgainSpec)) mendAgainUptoCard
end Rows
end Go.Proofs.YtllpbdkjnkikgaaGreatDoor
