-- a closed fact of the row, alone
import Derived.Test.YtnaapkoladiomaaGreatDoorRows
import Derived.JoinedOf
import GoSem.ClaimSeven
import Derived.KernelRfl
namespace Go.Proofs.YtnaapkoladiomaaGreatDoor
open Go
theorem mendChecks_recurses : (Rows.mendChecksRow.recurses == Tryz.prog.recurses 4) = true := by kernel_rfl
end Go.Proofs.YtnaapkoladiomaaGreatDoor
