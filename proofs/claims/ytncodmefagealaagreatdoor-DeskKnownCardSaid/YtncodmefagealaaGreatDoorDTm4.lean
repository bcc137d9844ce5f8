import Derived.Test.YtncodmefagealaaGreatDoorGTa
namespace Go.Proofs.YtncodmefagealaaGreatDoor.K
open Go
def ps4 : List MemPlace := MemPlace.row ⟨17, 0, none⟩ 1 ++ MemPlace.row ⟨48, 0, none⟩ 1 ++ MemPlace.row ⟨15, 0, none⟩ 1 ++ MemPlace.row ⟨49, 0, none⟩ 1 ++ MemPlace.row ⟨16, 0, none⟩ 1 ++ MemPlace.row ⟨51, 0, none⟩ 1 ++ MemPlace.row ⟨6, 0, none⟩ 1 ++ MemPlace.row ⟨52, 0, none⟩ 1 ++ MemPlace.row ⟨7, 0, none⟩ 1 ++ MemPlace.row ⟨53, 0, none⟩ 1
theorem tie_m4 : ∀ os tape, (DataW.laidRun Tryz.prog (varsWorld Tryz.prog 2000 (varsId Tryz.prog) os tape).memory 8 (((tieP.drop 20).take 5).map (·.1))).map (fun x => (x.1, x.2, laidRowsB Tryz.prog (varsWorld Tryz.prog 2000 (varsId Tryz.prog) os tape).memory x.2)) = some ((tieP.drop 20).take 5, ps4, true) := fun _ _ => by kernel_rfl
end Go.Proofs.YtncodmefagealaaGreatDoor.K
