import Derived.Test.YtncodmefagealaaGreatDoorGTa
namespace Go.Proofs.YtncodmefagealaaGreatDoor.K
open Go
def psB : List MemPlace := MemPlace.row ⟨26, 0, none⟩ 129
theorem tie_mB : ∀ os tape, DataW.laidRun Tryz.prog (varsWorld Tryz.prog 2000 (varsId Tryz.prog) os tape).memory 8 (((tieP.drop 2).take 1).map (·.1)) = some ((tieP.drop 2).take 1, psB) := fun _ _ => by kernel_rfl
end Go.Proofs.YtncodmefagealaaGreatDoor.K
