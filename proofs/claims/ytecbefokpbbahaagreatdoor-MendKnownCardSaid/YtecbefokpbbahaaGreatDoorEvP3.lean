import Derived.Test.YtecbefokpbbahaaGreatDoorEvSt
namespace Go.Ev
open Go Go.Proofs
theorem p3 (e0 e1 : Nat) : piece Tryz.prog 20276 kb3 kt3 (s2 e0 e1) = some (s3 e0 e1) := by kernel_rfl
end Go.Ev
