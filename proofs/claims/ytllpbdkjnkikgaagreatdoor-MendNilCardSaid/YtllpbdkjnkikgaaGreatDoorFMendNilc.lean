-- a closed fact of the row, alone
import Derived.Test.YtllpbdkjnkikgaaGreatDoorRows
import Derived.JoinedOf
import GoSem.ClaimSeven
import Derived.KernelRfl
namespace Go.Proofs.YtllpbdkjnkikgaaGreatDoor
open Go
theorem mendNil_recurses : (Rows.mendNilRow.recurses == Tryz.prog.recurses 5) = true := by kernel_rfl
end Go.Proofs.YtllpbdkjnkikgaaGreatDoor
