-- a closed fact of the row, alone
import Derived.Test.YthadnmpneonmfaaGreatDoorRows
import Derived.JoinedOf
import GoSem.ClaimSeven
import Derived.KernelRfl
namespace Go.Proofs.YthadnmpneonmfaaGreatDoor
open Go
theorem tillNil_number : Tryz.prog.funcNamed "larder/larderlaw15.TillNil" = some 3 := by kernel_rfl
end Go.Proofs.YthadnmpneonmfaaGreatDoor
