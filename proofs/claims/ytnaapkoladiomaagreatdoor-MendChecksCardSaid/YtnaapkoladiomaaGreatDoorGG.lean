/- Contracts of functions of the program, walked, and plain laws. -/
import Derived.Test.YtnaapkoladiomaaGreatDoorRows
import Derived.JoinedOf
import GoSem.ClaimSeven
import Derived.KernelRfl
-- a closed fact of the row, alone
namespace Go.Proofs.YtnaapkoladiomaaGreatDoor
open Go
theorem fact_stopsHeard : Tryz.prog.stopsHeard = true := by kernel_rfl
end Go.Proofs.YtnaapkoladiomaaGreatDoor
-- a closed fact of the row, alone
namespace Go.Proofs.YtnaapkoladiomaaGreatDoor
open Go
theorem fact_lifted : (Rows.mendChecksRow.lifted == Tryz.prog.liftsFinal) = true := by kernel_rfl
end Go.Proofs.YtnaapkoladiomaaGreatDoor
-- a closed fact of the row, alone
namespace Go.Proofs.YtnaapkoladiomaaGreatDoor
open Go
theorem fact_make : (Tryz.prog.make == some Rows.mendChecksRow.make) = true := by kernel_rfl
end Go.Proofs.YtnaapkoladiomaaGreatDoor
-- a closed fact of the row, alone
namespace Go.Proofs.YtnaapkoladiomaaGreatDoor
open Go
theorem fact_main : Tryz.prog.mainIs = some (true, "ce99e1768e62ac6a15acdccbab17c3515371395cf6932c7c3750636714d6c953".toList) := by kernel_rfl
end Go.Proofs.YtnaapkoladiomaaGreatDoor
-- a closed fact of the row, alone
namespace Go.Proofs.YtnaapkoladiomaaGreatDoor
open Go
theorem fact_looks : false = Tryz.prog.looks [] := by kernel_rfl
end Go.Proofs.YtnaapkoladiomaaGreatDoor
