import Derived.Test.YtecbefokpbbahaaGreatDoorEvSt
namespace Go.Ev
open Go Go.Proofs
theorem p6 (e0 e1 : Nat) : piece Tryz.prog 29896 kb6 kt6 (s5 e0 e1) = some (s6 e0 e1) := by kernel_rfl
end Go.Ev
