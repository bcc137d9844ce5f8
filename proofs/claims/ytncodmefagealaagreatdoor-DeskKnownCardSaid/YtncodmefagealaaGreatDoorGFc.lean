/- Contracts of functions of the program, walked, and plain laws. -/
import Derived.Test.YtncodmefagealaaGreatDoorRows
import Derived.JoinedOf
import GoSem.ClaimSeven
import Derived.KernelRfl
-- a closed fact of the row, alone
namespace Go.Proofs.YtncodmefagealaaGreatDoor
open Go
theorem fact_mapsRowed : mapsRowed Tryz.prog = true := by kernel_rfl
end Go.Proofs.YtncodmefagealaaGreatDoor
-- a closed fact of the row, alone
namespace Go.Proofs.YtncodmefagealaaGreatDoor
open Go
theorem fact_plainKeys : Tryz.prog.plainKeys = true := by kernel_rfl
end Go.Proofs.YtncodmefagealaaGreatDoor
