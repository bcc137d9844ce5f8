import Derived.Test.YtecbefokpbbahaaGreatDoorEvSt
namespace Go.Ev
open Go Go.Proofs
theorem p4 (e0 e1 : Nat) : piece Tryz.prog 2998 kb4 kt4 (s3 e0 e1) = some (s4 e0 e1) := by kernel_rfl
end Go.Ev
