import Derived.Test.YtncodmefagealaaGreatDoorEvSu
namespace Go.Ev
open Go Go.Proofs
theorem p1 (e0 e6 e13 e19 e25 e26 e32 : Nat) : piece Tryz.prog 25204 kb1 kt1 (s0 e0 e6 e13 e19 e25 e26 e32) = some (s1 e0 e6 e13 e19 e25 e26 e32) := by kernel_rfl
end Go.Ev
