-- a closed fact of the row, alone
import Derived.Test.YtaokjpbgdehhiaaGreatDoorRows
import Derived.JoinedOf
import GoSem.ClaimSeven
import Derived.KernelRfl
namespace Go.Proofs.YtaokjpbgdehhiaaGreatDoor
open Go
theorem mendFull_inPlace : (Rows.mendFullRow.inPlace == Tryz.prog.inPlace 3) = true := by kernel_rfl
end Go.Proofs.YtaokjpbgdehhiaaGreatDoor
