-- a closed fact of the row, alone
import Derived.Test.YtaokjpbgdehhiaaGreatDoorRows
import Derived.JoinedOf
import GoSem.ClaimSeven
import Derived.KernelRfl
namespace Go.Proofs.YtaokjpbgdehhiaaGreatDoor
open Go
theorem fact_main : Tryz.prog.mainIs = some (true, "0f56992054d35c9f7b47b3bf281018113fd8d48e44e189b179e6a1c7c54b3005".toList) := by kernel_rfl
end Go.Proofs.YtaokjpbgdehhiaaGreatDoor
