-- a closed fact of the row, alone
import Derived.Test.YtecbefokpbbahaaGreatDoorRows
import Derived.JoinedOf
import GoSem.ClaimSeven
import Derived.KernelRfl
namespace Go.Proofs.YtecbefokpbbahaaGreatDoor
open Go
theorem fact_main : Tryz.prog.mainIs = some (true, "ff09a54d98e886fee12f7cc86a093c4b905a7341d3d1e01f0ec437d700406e36".toList) := by kernel_rfl
end Go.Proofs.YtecbefokpbbahaaGreatDoor
