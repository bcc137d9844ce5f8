import Derived.Test.YtncodmefagealaaGreatDoorGTa
namespace Go.Proofs.YtncodmefagealaaGreatDoor.K
open Go
def psA : List MemPlace := MemPlace.row ⟨0, 0, none⟩ 1 ++ MemPlace.row ⟨65, 0, none⟩ 1 ++ MemPlace.row ⟨25, 0, none⟩ 16
theorem tie_mA : ∀ os tape, (DataW.laidRun Tryz.prog (varsWorld Tryz.prog 2000 (varsId Tryz.prog) os tape).memory 8 (((tieP.drop 0).take 2).map (·.1))).map (fun x => (x.1, x.2, laidRowsB Tryz.prog (varsWorld Tryz.prog 2000 (varsId Tryz.prog) os tape).memory x.2)) = some ((tieP.drop 0).take 2, psA, true) := fun _ _ => by kernel_rfl
end Go.Proofs.YtncodmefagealaaGreatDoor.K
