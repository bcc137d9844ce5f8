/- Contracts of functions of the program, walked, and plain laws. -/
import Derived.Test.YtncodmefagealaaGreatDoorGTa
namespace Go.Proofs.YtncodmefagealaaGreatDoor.K
open Go
theorem tie_n2 : varsNamedLaterB Tryz.prog (varsId Tryz.prog) ((tieL.drop 10).take 5) = true := by kernel_rfl
end Go.Proofs.YtncodmefagealaaGreatDoor.K
namespace Go.Proofs.YtncodmefagealaaGreatDoor.K
open Go
theorem tie_n3 : varsNamedLaterB Tryz.prog (varsId Tryz.prog) ((tieL.drop 15).take 5) = true := by kernel_rfl
end Go.Proofs.YtncodmefagealaaGreatDoor.K
