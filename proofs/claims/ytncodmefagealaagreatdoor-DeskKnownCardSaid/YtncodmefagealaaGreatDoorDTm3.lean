import Derived.Test.YtncodmefagealaaGreatDoorGTa
namespace Go.Proofs.YtncodmefagealaaGreatDoor.K
open Go
def ps3 : List MemPlace := MemPlace.row ⟨14, 0, none⟩ 1 ++ MemPlace.row ⟨50, 0, none⟩ 1 ++ MemPlace.row ⟨18, 0, none⟩ 1 ++ MemPlace.row ⟨47, 0, none⟩ 1 ++ MemPlace.row ⟨30, 0, none⟩ 1 ++ MemPlace.row ⟨46, 0, none⟩ 1 ++ MemPlace.row ⟨31, 0, none⟩ 1 ++ MemPlace.row ⟨45, 0, none⟩ 1 ++ MemPlace.row ⟨29, 0, none⟩ 1 ++ MemPlace.row ⟨44, 0, none⟩ 1
theorem tie_m3 : ∀ os tape, (DataW.laidRun Tryz.prog (varsWorld Tryz.prog 2000 (varsId Tryz.prog) os tape).memory 8 (((tieP.drop 15).take 5).map (·.1))).map (fun x => (x.1, x.2, laidRowsB Tryz.prog (varsWorld Tryz.prog 2000 (varsId Tryz.prog) os tape).memory x.2)) = some ((tieP.drop 15).take 5, ps3, true) := fun _ _ => by kernel_rfl
end Go.Proofs.YtncodmefagealaaGreatDoor.K
