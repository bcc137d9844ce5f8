import Derived.Test.YtaokjpbgdehhiaaGreatDoorEvSt
namespace Go.Ev
open Go Go.Proofs
theorem pR31 (e0 e1 : Nat) : piece Tryz.prog 20214 kbR31 ktR31 (sR30 e0 e1) = some (sR31 e0 e1) := by kernel_rfl
end Go.Ev
