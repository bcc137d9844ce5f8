-- a closed fact of the row, alone
import Derived.Test.YtnaapkoladiomaaGreatDoorRows
import Derived.JoinedOf
import GoSem.ClaimSeven
import Derived.KernelRfl
namespace Go.Proofs.YtnaapkoladiomaaGreatDoor
open Go
theorem mendChecks_named : (Rows.mendChecksRow.named == Tryz.prog.varsNamed 4) = true := by kernel_rfl
end Go.Proofs.YtnaapkoladiomaaGreatDoor
