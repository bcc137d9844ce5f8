/- Contracts of functions of the program, walked, and plain laws. -/
import Derived.Test.YtncodmefagealaaGreatDoorRows
import Derived.JoinedOf
import GoSem.ClaimSeven
import Derived.KernelRfl
-- a closed fact of the row, alone
namespace Go.Proofs.YtncodmefagealaaGreatDoor
open Go
theorem fact_stopsHeard : Tryz.prog.stopsHeard = true := by kernel_rfl
end Go.Proofs.YtncodmefagealaaGreatDoor
-- a closed fact of the row, alone
namespace Go.Proofs.YtncodmefagealaaGreatDoor
open Go
theorem fact_lifted : (Rows.deskKnownRow.lifted == Tryz.prog.liftsFinal) = true := by kernel_rfl
end Go.Proofs.YtncodmefagealaaGreatDoor
-- a closed fact of the row, alone
namespace Go.Proofs.YtncodmefagealaaGreatDoor
open Go
theorem fact_make : (Tryz.prog.make == some Rows.deskKnownRow.make) = true := by kernel_rfl
end Go.Proofs.YtncodmefagealaaGreatDoor
-- a closed fact of the row, alone
namespace Go.Proofs.YtncodmefagealaaGreatDoor
open Go
theorem fact_main : Tryz.prog.mainIs = some (true, "1a3c9dcccd2f87006e28f613febd0afebc779f13860d69864671ce99d86976bf".toList) := by kernel_rfl
end Go.Proofs.YtncodmefagealaaGreatDoor
-- a closed fact of the row, alone
namespace Go.Proofs.YtncodmefagealaaGreatDoor
open Go
theorem fact_looks : true = Tryz.prog.looks [] := by kernel_rfl
end Go.Proofs.YtncodmefagealaaGreatDoor
