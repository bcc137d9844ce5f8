import Derived.Test.YtaokjpbgdehhiaaGreatDoorEvSt
namespace Go.Ev
open Go Go.Proofs
theorem pR11 (e0 e1 : Nat) : piece Tryz.prog 19966 kbR11 ktR11 (sR10 e0 e1) = some (sR11 e0 e1) := by kernel_rfl
end Go.Ev
