import Derived.Test.YtaokjpbgdehhiaaGreatDoorEvSt
namespace Go.Ev
open Go Go.Proofs
theorem pF1 (e0 e1 : Nat) : piece Tryz.prog 8060 kbF1 ktF1 (sF0 e0 e1) = some (sF1 e0 e1) := by kernel_rfl
end Go.Ev
