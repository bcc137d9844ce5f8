import Derived.Test.YtecbefokpbbahaaGreatDoorEvSt
namespace Go.Ev
open Go Go.Proofs
theorem p2 (e0 e1 : Nat) : piece Tryz.prog 10296 kb2 kt2 (s1 e0 e1) = some (s2 e0 e1) := by kernel_rfl
end Go.Ev
