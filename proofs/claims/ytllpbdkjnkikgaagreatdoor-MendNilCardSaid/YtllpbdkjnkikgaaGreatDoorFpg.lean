-- a closed fact of the row, alone
import Derived.Test.YtllpbdkjnkikgaaGreatDoorRows
import Derived.JoinedOf
import GoSem.ClaimSeven
import Derived.KernelRfl
namespace Go.Proofs.YtllpbdkjnkikgaaGreatDoor
open Go
theorem fact_make : (Tryz.prog.make == some Rows.mendNilRow.make) = true := by kernel_rfl
end Go.Proofs.YtllpbdkjnkikgaaGreatDoor
