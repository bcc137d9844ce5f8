-- a closed fact of the row, alone
import Derived.Test.YtecbefokpbbahaaGreatDoorRows
import Derived.JoinedOf
import GoSem.ClaimSeven
import Derived.KernelRfl
namespace Go.Proofs.YtecbefokpbbahaaGreatDoor
open Go
theorem fact_make : (Tryz.prog.make == some Rows.mendKnownRow.make) = true := by kernel_rfl
end Go.Proofs.YtecbefokpbbahaaGreatDoor
