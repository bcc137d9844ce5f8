import Derived.Test.YtecbefokpbbahaaGreatDoorEvSt
namespace Go.Ev
open Go Go.Proofs
theorem p7 (e0 e1 : Nat) : piece Tryz.prog 33 kb7 kt7 (s6 e0 e1) = some (s7 e0 e1) := by kernel_rfl
end Go.Ev
