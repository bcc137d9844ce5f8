-- a closed fact of the row, alone
import Derived.Test.YtecbefokpbbahaaGreatDoorRows
import Derived.JoinedOf
import GoSem.ClaimSeven
import Derived.KernelRfl
namespace Go.Proofs.YtecbefokpbbahaaGreatDoor
open Go
theorem fact_mapsRowed : mapsRowed Tryz.prog = true := by kernel_rfl
end Go.Proofs.YtecbefokpbbahaaGreatDoor
