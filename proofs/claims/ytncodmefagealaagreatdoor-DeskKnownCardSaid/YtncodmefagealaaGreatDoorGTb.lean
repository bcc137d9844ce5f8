/- Contracts of functions of the program, walked, and plain laws. -/
import Derived.Test.YtncodmefagealaaGreatDoorGTa
namespace Go.Proofs.YtncodmefagealaaGreatDoor.K
open Go
theorem tie_n0 : varsNamedLaterB Tryz.prog (varsId Tryz.prog) ((tieL.drop 0).take 5) = true := by kernel_rfl
end Go.Proofs.YtncodmefagealaaGreatDoor.K
namespace Go.Proofs.YtncodmefagealaaGreatDoor.K
open Go
theorem tie_n1 : varsNamedLaterB Tryz.prog (varsId Tryz.prog) ((tieL.drop 5).take 5) = true := by kernel_rfl
end Go.Proofs.YtncodmefagealaaGreatDoor.K
