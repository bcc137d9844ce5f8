import Derived.Test.YtncodmefagealaaGreatDoorEvSu
namespace Go.Ev
open Go Go.Proofs
theorem p7 (e0 e6 e13 e19 e25 e26 e32 : Nat) : piece Tryz.prog 25500 kb7 kt7 (s6 e0 e6 e13 e19 e25 e26 e32) = some (s7 e0 e6 e13 e19 e25 e26 e32) := by kernel_rfl
end Go.Ev
