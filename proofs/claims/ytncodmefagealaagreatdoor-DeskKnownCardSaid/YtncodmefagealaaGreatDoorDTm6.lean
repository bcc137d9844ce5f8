import Derived.Test.YtncodmefagealaaGreatDoorGTa
namespace Go.Proofs.YtncodmefagealaaGreatDoor.K
open Go
def ps6 : List MemPlace := MemPlace.row ⟨21, 0, none⟩ 1 ++ MemPlace.row ⟨59, 0, none⟩ 1 ++ MemPlace.row ⟨22, 0, none⟩ 1 ++ MemPlace.row ⟨60, 0, none⟩ 1 ++ MemPlace.row ⟨23, 0, none⟩ 1 ++ MemPlace.row ⟨61, 0, none⟩ 1 ++ MemPlace.row ⟨24, 0, none⟩ 1 ++ MemPlace.row ⟨62, 0, none⟩ 1
theorem tie_m6 : ∀ os tape, (DataW.laidRun Tryz.prog (varsWorld Tryz.prog 2000 (varsId Tryz.prog) os tape).memory 8 (((tieP.drop 30).take 5).map (·.1))).map (fun x => (x.1, x.2, laidRowsB Tryz.prog (varsWorld Tryz.prog 2000 (varsId Tryz.prog) os tape).memory x.2)) = some ((tieP.drop 30).take 5, ps6, true) := fun _ _ => by kernel_rfl
end Go.Proofs.YtncodmefagealaaGreatDoor.K
