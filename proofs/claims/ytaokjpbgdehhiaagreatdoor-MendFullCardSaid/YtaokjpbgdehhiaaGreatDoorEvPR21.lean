import Derived.Test.YtaokjpbgdehhiaaGreatDoorEvSt
namespace Go.Ev
open Go Go.Proofs
theorem pR21 (e0 e1 : Nat) : piece Tryz.prog 20102 kbR21 ktR21 (sR20 e0 e1) = some (sR21 e0 e1) := by kernel_rfl
end Go.Ev
