-- a closed fact of the row, alone
import Derived.Test.YtllpbdkjnkikgaaGreatDoorRows
import Derived.JoinedOf
import GoSem.ClaimSeven
import Derived.KernelRfl
namespace Go.Proofs.YtllpbdkjnkikgaaGreatDoor
open Go
theorem mendNil_inPlace : (Rows.mendNilRow.inPlace == Tryz.prog.inPlace 5) = true := by kernel_rfl
end Go.Proofs.YtllpbdkjnkikgaaGreatDoor
