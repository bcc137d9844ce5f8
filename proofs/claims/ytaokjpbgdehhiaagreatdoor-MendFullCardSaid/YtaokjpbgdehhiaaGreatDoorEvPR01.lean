import Derived.Test.YtaokjpbgdehhiaaGreatDoorEvSt
namespace Go.Ev
open Go Go.Proofs
theorem pR01 (e0 e1 : Nat) : piece Tryz.prog 19854 kbR01 ktR01 (sR00 e0 e1) = some (sR01 e0 e1) := by kernel_rfl
end Go.Ev
