-- a closed fact of the row, alone
import Derived.Test.YthadnmpneonmfaaGreatDoorRows
import Derived.JoinedOf
import GoSem.ClaimSeven
import Derived.KernelRfl
namespace Go.Proofs.YthadnmpneonmfaaGreatDoor
open Go
theorem tillNil_goes : false = Rows.tillNilRow.goesBy Tryz.prog := by kernel_rfl
end Go.Proofs.YthadnmpneonmfaaGreatDoor
