-- a closed fact of the row, alone
import Derived.Test.YthadnmpneonmfaaGreatDoorRows
import Derived.JoinedOf
import GoSem.ClaimSeven
import Derived.KernelRfl
namespace Go.Proofs.YthadnmpneonmfaaGreatDoor
open Go
theorem tillNil_unfollowed : (Rows.tillNilRow.unfollowed == Tryz.prog.unfollowed 3) = true := by kernel_rfl
end Go.Proofs.YthadnmpneonmfaaGreatDoor
