/- Contracts of functions of the program, walked, and plain laws. -/
import Derived.Test.YtncodmefagealaaGreatDoorGL
import Derived.Lay
import Derived.LaidHandle
/- A world that meets the row's condition: the handle by its cell, all else by the kit's layer. -/
namespace Go.Proofs.YtncodmefagealaaGreatDoor.K
open Go Go.ChangeShapes Go.WideShapes Go.ChangeAt Go.WideMaps Go.WideElems Go.RowKit
noncomputable def whW (os : Os) : World :=
  let w0 := World.holding Tryz.prog os ⟨#[], #[], []⟩
  { w0 with heap := w0.heap.modify 1 fun
      | .cells _ t frozen => .cells #[.iface 173 (.agg #[.pointer (some ⟨37, 31, none⟩)])] t frozen
      | o => o }
noncomputable def wlW (os : Os) : World := (whW os).layVars Tryz.prog plainL
noncomputable def wcW (os : Os) (args : Array Value) : World := (wlW os).forCall (fun _ _ => 0) ⟨#[], args, []⟩
theorem wlW_os (os : Os) : (wlW os).os = os := World.layVars_os _ _ _
end Go.Proofs.YtncodmefagealaaGreatDoor.K
namespace Go.Proofs.YtncodmefagealaaGreatDoor.K
open Go Go.ChangeShapes Go.WideShapes Go.ChangeAt Go.WideMaps Go.WideElems Go.RowKit
theorem w_fits (os : Os) : (whW os).layFits Tryz.prog plainL [] = true := by kernel_rfl
end Go.Proofs.YtncodmefagealaaGreatDoor.K
