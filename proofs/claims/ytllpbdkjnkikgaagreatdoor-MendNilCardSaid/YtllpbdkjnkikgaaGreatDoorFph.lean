-- a closed fact of the row, alone
import Derived.Test.YtllpbdkjnkikgaaGreatDoorRows
import Derived.JoinedOf
import GoSem.ClaimSeven
import Derived.KernelRfl
namespace Go.Proofs.YtllpbdkjnkikgaaGreatDoor
open Go
theorem fact_main : Tryz.prog.mainIs = some (true, "d3e3d6ce0401209bc8782c35acc198fb5dac53d853aa3bd0c1d5828944c8131f".toList) := by kernel_rfl
end Go.Proofs.YtllpbdkjnkikgaaGreatDoor
