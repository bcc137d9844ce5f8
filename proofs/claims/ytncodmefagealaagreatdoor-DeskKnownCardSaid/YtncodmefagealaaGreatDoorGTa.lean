/- Contracts of functions of the program, walked, and plain laws. -/
import Derived.Test.YtncodmefagealaaGreatDoorRows
import Derived.LaidByTextLater
import Derived.SevenTiedAt
import Derived.Deep.DeepLaidRun
/- The tie of the row's listed variables to the program's text: closed facts (the given tie, in parts: as one text it is more than the kernel's memory holds). -/
namespace Go.Proofs.YtncodmefagealaaGreatDoor.K
open Go
def tieL : List (String × DataW Unit) := Rows.deskKnownRow.laid.filter fun x => x.1 != "unicode/utf8.first"
def tieK : List LaidKind := [.sentinel, .data, .data, .sentinel, .sentinel, .data, .sentinel, .sentinel, .sentinel, .sentinel, .data, .data, .data, .sentinel, .data, .handle, .sentinel, .sentinel, .sentinel, .sentinel, .sentinel, .sentinel, .sentinel, .sentinel, .sentinel, .sentinel, .sentinel, .sentinel, .sentinel, .sentinel, .sentinel, .sentinel, .sentinel, .sentinel, .sentinel]
theorem tie_w : Tryz.prog.worded (varsWordLater true) = true := by kernel_rfl
theorem tie_nw : Tryz.prog.worded (varsWordLater !true) = false := by kernel_rfl
theorem tie_root : Tryz.prog.worded rootWordLater = true := by kernel_rfl
theorem tie_k : tieL.map (fun x => Tryz.prog.kindOfLater x.1) = tieK.map some := by kernel_rfl
theorem tie_g : (Tryz.prog.funcNamed "gosem.cut.vars").isSome = true := by kernel_rfl
end Go.Proofs.YtncodmefagealaaGreatDoor.K
namespace Go.Proofs.YtncodmefagealaaGreatDoor.K
open Go
def tieP : List (String × DataW Unit) := tieL.filter fun x => x.2.handleName?.isNone
end Go.Proofs.YtncodmefagealaaGreatDoor.K
