-- a closed fact of the row, alone
import Derived.Test.YtaokjpbgdehhiaaGreatDoorRows
import Derived.JoinedOf
import GoSem.ClaimSeven
import Derived.KernelRfl
namespace Go.Proofs.YtaokjpbgdehhiaaGreatDoor
open Go
theorem mendFull_number : Tryz.prog.funcNamed "larder/larderlaw13.MendFull" = some 3 := by kernel_rfl
end Go.Proofs.YtaokjpbgdehhiaaGreatDoor
