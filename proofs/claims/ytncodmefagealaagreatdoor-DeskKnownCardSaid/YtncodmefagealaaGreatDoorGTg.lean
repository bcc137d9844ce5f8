/- Contracts of functions of the program, walked, and plain laws. -/
import Derived.Test.YtncodmefagealaaGreatDoorGTa
namespace Go.Proofs.YtncodmefagealaaGreatDoor.K
open Go
def ps3 : List MemPlace := MemPlace.row ⟨14, 0, none⟩ 1 ++ MemPlace.row ⟨50, 0, none⟩ 1 ++ MemPlace.row ⟨18, 0, none⟩ 1 ++ MemPlace.row ⟨47, 0, none⟩ 1 ++ MemPlace.row ⟨30, 0, none⟩ 1 ++ MemPlace.row ⟨46, 0, none⟩ 1 ++ MemPlace.row ⟨31, 0, none⟩ 1 ++ MemPlace.row ⟨45, 0, none⟩ 1 ++ MemPlace.row ⟨29, 0, none⟩ 1 ++ MemPlace.row ⟨44, 0, none⟩ 1
theorem tie_m3 : ∀ os tape, (DataW.laidRun Tryz.prog (varsWorld Tryz.prog 2000 (varsId Tryz.prog) os tape).memory 8 (((tieP.drop 15).take 5).map (·.1))).map (fun x => (x.1, x.2, laidRowsB Tryz.prog (varsWorld Tryz.prog 2000 (varsId Tryz.prog) os tape).memory x.2)) = some ((tieP.drop 15).take 5, ps3, true) := fun _ _ => by kernel_rfl
end Go.Proofs.YtncodmefagealaaGreatDoor.K
namespace Go.Proofs.YtncodmefagealaaGreatDoor.K
open Go
def ps4 : List MemPlace := MemPlace.row ⟨17, 0, none⟩ 1 ++ MemPlace.row ⟨48, 0, none⟩ 1 ++ MemPlace.row ⟨15, 0, none⟩ 1 ++ MemPlace.row ⟨49, 0, none⟩ 1 ++ MemPlace.row ⟨16, 0, none⟩ 1 ++ MemPlace.row ⟨51, 0, none⟩ 1 ++ MemPlace.row ⟨6, 0, none⟩ 1 ++ MemPlace.row ⟨52, 0, none⟩ 1 ++ MemPlace.row ⟨7, 0, none⟩ 1 ++ MemPlace.row ⟨53, 0, none⟩ 1
theorem tie_m4 : ∀ os tape, (DataW.laidRun Tryz.prog (varsWorld Tryz.prog 2000 (varsId Tryz.prog) os tape).memory 8 (((tieP.drop 20).take 5).map (·.1))).map (fun x => (x.1, x.2, laidRowsB Tryz.prog (varsWorld Tryz.prog 2000 (varsId Tryz.prog) os tape).memory x.2)) = some ((tieP.drop 20).take 5, ps4, true) := fun _ _ => by kernel_rfl
end Go.Proofs.YtncodmefagealaaGreatDoor.K
