/- Contracts of functions of the program, walked, and plain laws. -/
import Derived.Test.YtncodmefagealaaGreatDoorGWa
namespace Go.Proofs.YtncodmefagealaaGreatDoor.K
open Go Go.ChangeShapes Go.WideShapes Go.ChangeAt Go.WideMaps Go.WideElems Go.RowKit
theorem w_zip (os : Os) : (wcW os #[]).variablesZipB Tryz.prog = true := by kernel_rfl
end Go.Proofs.YtncodmefagealaaGreatDoor.K
namespace Go.Proofs.YtncodmefagealaaGreatDoor.K
open Go Go.ChangeShapes Go.WideShapes Go.ChangeAt Go.WideMaps Go.WideElems Go.RowKit
theorem w_handle (os : Os) (args : Array Value) : (Rows.deskKnownRow.laid.filter fun x => x.2.handleName?.isSome).all (handleAtB Tryz.prog (wcW os args).memory) = true := by kernel_rfl
theorem w_ok (os : Os) : Input.okWideB Tryz.prog (wcW os #[]) 3 ⟨#[], #[], []⟩ = true := by kernel_rfl
theorem w_pre {H : Type} (enc : TypeId × Value → H) (os : Os) : Rows.deskKnownSpec.preB enc Tryz.prog Tryz.f3 [] false (wcW os #[]).memory #[] 8 = true := by kernel_rfl
theorem w_sized {H : Type} (enc : TypeId × Value → H) (os : Os) : Rows.deskKnownSpec.sizedB enc Tryz.prog Tryz.f3 false (wcW os #[]).memory #[] 8 = true := by kernel_rfl
end Go.Proofs.YtncodmefagealaaGreatDoor.K
