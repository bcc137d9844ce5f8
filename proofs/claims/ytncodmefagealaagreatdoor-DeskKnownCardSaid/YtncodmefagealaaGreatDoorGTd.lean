/- Contracts of functions of the program, walked, and plain laws. -/
import Derived.Test.YtncodmefagealaaGreatDoorGTa
namespace Go.Proofs.YtncodmefagealaaGreatDoor.K
open Go
theorem tie_n4 : varsNamedLaterB Tryz.prog (varsId Tryz.prog) ((tieL.drop 20).take 5) = true := by kernel_rfl
end Go.Proofs.YtncodmefagealaaGreatDoor.K
namespace Go.Proofs.YtncodmefagealaaGreatDoor.K
open Go
theorem tie_n5 : varsNamedLaterB Tryz.prog (varsId Tryz.prog) ((tieL.drop 25).take 5) = true := by kernel_rfl
end Go.Proofs.YtncodmefagealaaGreatDoor.K
