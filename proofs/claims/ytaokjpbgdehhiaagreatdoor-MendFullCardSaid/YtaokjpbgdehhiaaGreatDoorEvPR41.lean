import Derived.Test.YtaokjpbgdehhiaaGreatDoorEvSt
namespace Go.Ev
open Go Go.Proofs
theorem pR41 (e0 e1 : Nat) : piece Tryz.prog 20233 kbR41 ktR41 (sR40 e0 e1) = some (sR41 e0 e1) := by kernel_rfl
end Go.Ev
