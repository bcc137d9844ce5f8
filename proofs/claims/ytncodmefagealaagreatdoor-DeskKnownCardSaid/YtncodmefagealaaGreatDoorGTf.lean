/- Contracts of functions of the program, walked, and plain laws. -/
import Derived.Test.YtncodmefagealaaGreatDoorGTa
namespace Go.Proofs.YtncodmefagealaaGreatDoor.K
open Go
def ps1 : List MemPlace := MemPlace.row ⟨28, 0, none⟩ 32 ++ MemPlace.row ⟨4, 0, none⟩ 1 ++ MemPlace.row ⟨67, 0, none⟩ 1 ++ MemPlace.row ⟨5, 0, none⟩ 1 ++ MemPlace.row ⟨66, 0, none⟩ 1 ++ MemPlace.row ⟨32, 0, none⟩ 1 ++ MemPlace.row ⟨43, 0, none⟩ 1 ++ MemPlace.row ⟨33, 0, none⟩ 1 ++ MemPlace.row ⟨42, 0, none⟩ 1
theorem tie_m1 : ∀ os tape, (DataW.laidRun Tryz.prog (varsWorld Tryz.prog 2000 (varsId Tryz.prog) os tape).memory 8 (((tieP.drop 5).take 5).map (·.1))).map (fun x => (x.1, x.2, laidRowsB Tryz.prog (varsWorld Tryz.prog 2000 (varsId Tryz.prog) os tape).memory x.2)) = some ((tieP.drop 5).take 5, ps1, true) := fun _ _ => by kernel_rfl
end Go.Proofs.YtncodmefagealaaGreatDoor.K
namespace Go.Proofs.YtncodmefagealaaGreatDoor.K
open Go
theorem tie_rE : ∀ os tape, laidRowsB Tryz.prog (varsWorld Tryz.prog 2000 (varsId Tryz.prog) os tape).memory (MemPlace.row ⟨36, 0, none⟩ 64) = true := fun _ _ => by kernel_rfl
end Go.Proofs.YtncodmefagealaaGreatDoor.K
