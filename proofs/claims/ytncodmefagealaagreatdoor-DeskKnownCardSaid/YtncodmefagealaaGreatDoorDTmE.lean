import Derived.Test.YtncodmefagealaaGreatDoorGTa
namespace Go.Proofs.YtncodmefagealaaGreatDoor.K
open Go
def psE : List MemPlace := MemPlace.row ⟨36, 0, none⟩ 64
theorem tie_mE : ∀ os tape, DataW.laidRun Tryz.prog (varsWorld Tryz.prog 2000 (varsId Tryz.prog) os tape).memory 8 (((tieP.drop 12).take 1).map (·.1)) = some ((tieP.drop 12).take 1, psE) := fun _ _ => by kernel_rfl
end Go.Proofs.YtncodmefagealaaGreatDoor.K
