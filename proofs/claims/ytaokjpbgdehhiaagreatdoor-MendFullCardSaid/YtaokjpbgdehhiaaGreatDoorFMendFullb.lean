-- a closed fact of the row, alone
import Derived.Test.YtaokjpbgdehhiaaGreatDoorRows
import Derived.JoinedOf
import GoSem.ClaimSeven
import Derived.KernelRfl
namespace Go.Proofs.YtaokjpbgdehhiaaGreatDoor
open Go
theorem mendFull_unfollowed : (Rows.mendFullRow.unfollowed == Tryz.prog.unfollowed 3) = true := by kernel_rfl
end Go.Proofs.YtaokjpbgdehhiaaGreatDoor
