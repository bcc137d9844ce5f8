import Derived.Test.YtecbefokpbbahaaGreatDoorEvSt
namespace Go.Ev
open Go Go.Proofs
theorem p1 (e0 e1 : Nat) : piece Tryz.prog 9585 kb1 kt1 (s0 e0 e1) = some (s1 e0 e1) := by kernel_rfl
end Go.Ev
