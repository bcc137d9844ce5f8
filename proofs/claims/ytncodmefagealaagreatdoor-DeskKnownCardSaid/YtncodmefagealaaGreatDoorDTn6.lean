import Derived.Test.YtncodmefagealaaGreatDoorGTa
namespace Go.Proofs.YtncodmefagealaaGreatDoor.K
open Go
theorem tie_n6 : varsNamedLaterB Tryz.prog (varsId Tryz.prog) ((tieL.drop 30).take 5) = true := by kernel_rfl
end Go.Proofs.YtncodmefagealaaGreatDoor.K
