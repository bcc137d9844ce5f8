/- Contracts of functions of the program, walked, and plain laws. -/
import Derived.Test.YtncodmefagealaaGreatDoorRows
import Derived.JoinedOf
import Derived.KernelRfl
namespace Go.Proofs.YtncodmefagealaaGreatDoor.K
open Go
theorem laid_fine1 : (List.range' 0 200).all (rowFine Tryz.prog) = true := by kernel_rfl
end Go.Proofs.YtncodmefagealaaGreatDoor.K
namespace Go.Proofs.YtncodmefagealaaGreatDoor.K
open Go
theorem laid_fine2 : (List.range' 200 200).all (rowFine Tryz.prog) = true := by kernel_rfl
end Go.Proofs.YtncodmefagealaaGreatDoor.K
namespace Go.Proofs.YtncodmefagealaaGreatDoor.K
open Go
theorem laid_fine3 : (List.range' 400 200).all (rowFine Tryz.prog) = true := by kernel_rfl
end Go.Proofs.YtncodmefagealaaGreatDoor.K
namespace Go.Proofs.YtncodmefagealaaGreatDoor.K
open Go
theorem laid_fine4 : (List.range' 600 163).all (rowFine Tryz.prog) = true := by kernel_rfl
end Go.Proofs.YtncodmefagealaaGreatDoor.K
namespace Go.Proofs.YtncodmefagealaaGreatDoor.K
open Go
theorem laid_globs : Tryz.prog.globals.all (fun g => decide (g.type < Tryz.prog.types.size)) = true := by kernel_rfl
theorem laid_funcs : Tryz.prog.funcs.all (fun f => f.params.all fun t => decide (t < Tryz.prog.types.size)) = true := by kernel_rfl
theorem laid_range : List.range Tryz.prog.types.size = List.range' 0 200 ++ (List.range' 200 200 ++ (List.range' 400 200 ++ List.range' 600 163)) := by kernel_rfl
end Go.Proofs.YtncodmefagealaaGreatDoor.K
-- the row's first closed fact, out of its parts (as one it is more than the kernel's memory holds)
namespace Go.Proofs.YtncodmefagealaaGreatDoor
open Go
theorem fact_laidOut : laidOutB Tryz.prog = true := by
  unfold laidOutB
  rw [K.laid_globs, K.laid_funcs, K.laid_range, List.all_append, List.all_append, List.all_append, K.laid_fine1, K.laid_fine2, K.laid_fine3, K.laid_fine4]
  rfl
end Go.Proofs.YtncodmefagealaaGreatDoor
