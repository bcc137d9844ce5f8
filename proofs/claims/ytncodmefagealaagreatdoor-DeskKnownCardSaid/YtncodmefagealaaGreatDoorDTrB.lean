import Derived.Test.YtncodmefagealaaGreatDoorGTa
namespace Go.Proofs.YtncodmefagealaaGreatDoor.K
open Go
theorem tie_rB : ∀ os tape, laidRowsB Tryz.prog (varsWorld Tryz.prog 2000 (varsId Tryz.prog) os tape).memory (MemPlace.row ⟨26, 0, none⟩ 129) = true := fun _ _ => by kernel_rfl
end Go.Proofs.YtncodmefagealaaGreatDoor.K
