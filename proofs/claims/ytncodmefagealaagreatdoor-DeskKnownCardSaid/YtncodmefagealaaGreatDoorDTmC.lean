import Derived.Test.YtncodmefagealaaGreatDoorGTa
namespace Go.Proofs.YtncodmefagealaaGreatDoor.K
open Go
def psC : List MemPlace := MemPlace.row ⟨2, 0, none⟩ 1 ++ MemPlace.row ⟨63, 0, none⟩ 1 ++ MemPlace.row ⟨3, 0, none⟩ 1 ++ MemPlace.row ⟨64, 0, none⟩ 1
theorem tie_mC : ∀ os tape, (DataW.laidRun Tryz.prog (varsWorld Tryz.prog 2000 (varsId Tryz.prog) os tape).memory 8 (((tieP.drop 3).take 2).map (·.1))).map (fun x => (x.1, x.2, laidRowsB Tryz.prog (varsWorld Tryz.prog 2000 (varsId Tryz.prog) os tape).memory x.2)) = some ((tieP.drop 3).take 2, psC, true) := fun _ _ => by kernel_rfl
end Go.Proofs.YtncodmefagealaaGreatDoor.K
