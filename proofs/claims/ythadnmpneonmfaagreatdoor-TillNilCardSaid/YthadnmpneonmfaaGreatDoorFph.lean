-- a closed fact of the row, alone
import Derived.Test.YthadnmpneonmfaaGreatDoorRows
import Derived.JoinedOf
import GoSem.ClaimSeven
import Derived.KernelRfl
namespace Go.Proofs.YthadnmpneonmfaaGreatDoor
open Go
theorem fact_main : Tryz.prog.mainIs = some (true, "4a964c1c530ffc0e8199ae296b7f50266b2c1016abce6f80f6d8de947aaca5ea".toList) := by kernel_rfl
end Go.Proofs.YthadnmpneonmfaaGreatDoor
