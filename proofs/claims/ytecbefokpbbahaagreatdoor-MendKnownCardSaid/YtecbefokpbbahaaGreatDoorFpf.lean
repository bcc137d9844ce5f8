-- a closed fact of the row, alone
import Derived.Test.YtecbefokpbbahaaGreatDoorRows
import Derived.JoinedOf
import GoSem.ClaimSeven
import Derived.KernelRfl
namespace Go.Proofs.YtecbefokpbbahaaGreatDoor
open Go
theorem fact_lifted : (Rows.mendKnownRow.lifted == Tryz.prog.liftsFinal) = true := by kernel_rfl
end Go.Proofs.YtecbefokpbbahaaGreatDoor
