import Derived.Test.YtncodmefagealaaGreatDoorGTa
namespace Go.Proofs.YtncodmefagealaaGreatDoor.K
open Go
def ps5 : List MemPlace := MemPlace.row ⟨8, 0, none⟩ 1 ++ MemPlace.row ⟨54, 0, none⟩ 1 ++ MemPlace.row ⟨9, 0, none⟩ 1 ++ MemPlace.row ⟨55, 0, none⟩ 1 ++ MemPlace.row ⟨10, 0, none⟩ 1 ++ MemPlace.row ⟨56, 0, none⟩ 1 ++ MemPlace.row ⟨11, 0, none⟩ 1 ++ MemPlace.row ⟨57, 0, none⟩ 1 ++ MemPlace.row ⟨20, 0, none⟩ 1 ++ MemPlace.row ⟨58, 0, none⟩ 1
theorem tie_m5 : ∀ os tape, (DataW.laidRun Tryz.prog (varsWorld Tryz.prog 2000 (varsId Tryz.prog) os tape).memory 8 (((tieP.drop 25).take 5).map (·.1))).map (fun x => (x.1, x.2, laidRowsB Tryz.prog (varsWorld Tryz.prog 2000 (varsId Tryz.prog) os tape).memory x.2)) = some ((tieP.drop 25).take 5, ps5, true) := fun _ _ => by kernel_rfl
end Go.Proofs.YtncodmefagealaaGreatDoor.K
