import Derived.Test.YtaokjpbgdehhiaaGreatDoorEvSt
namespace Go.Ev
open Go Go.Proofs
theorem pR51 (e0 e1 : Nat) : piece Tryz.prog 20233 kbR51 ktR51 (sR50 e0 e1) = some (sR51 e0 e1) := by kernel_rfl
end Go.Ev
