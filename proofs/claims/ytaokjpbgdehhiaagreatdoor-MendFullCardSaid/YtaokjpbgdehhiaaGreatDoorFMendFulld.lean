-- a closed fact of the row, alone
import Derived.Test.YtaokjpbgdehhiaaGreatDoorRows
import Derived.JoinedOf
import GoSem.ClaimSeven
import Derived.KernelRfl
namespace Go.Proofs.YtaokjpbgdehhiaaGreatDoor
open Go
theorem mendFull_named : (Rows.mendFullRow.named == Tryz.prog.varsNamed 3) = true := by kernel_rfl
end Go.Proofs.YtaokjpbgdehhiaaGreatDoor
