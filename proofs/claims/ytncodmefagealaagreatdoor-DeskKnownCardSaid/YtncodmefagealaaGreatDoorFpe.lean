-- a closed fact of the row, alone
import Derived.Test.YtncodmefagealaaGreatDoorRows
import Derived.JoinedOf
import GoSem.ClaimSeven
import Derived.KernelRfl
namespace Go.Proofs.YtncodmefagealaaGreatDoor
open Go
theorem fact_mayEnter : Tryz.prog.mayEnter = true := by kernel_rfl
end Go.Proofs.YtncodmefagealaaGreatDoor
