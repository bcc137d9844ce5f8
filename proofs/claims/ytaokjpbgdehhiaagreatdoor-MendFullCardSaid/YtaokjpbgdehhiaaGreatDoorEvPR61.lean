import Derived.Test.YtaokjpbgdehhiaaGreatDoorEvSt
namespace Go.Ev
open Go Go.Proofs
theorem pR61 (e0 e1 : Nat) : piece Tryz.prog 20233 kbR61 ktR61 (sR60 e0 e1) = some (sR61 e0 e1) := by kernel_rfl
end Go.Ev
