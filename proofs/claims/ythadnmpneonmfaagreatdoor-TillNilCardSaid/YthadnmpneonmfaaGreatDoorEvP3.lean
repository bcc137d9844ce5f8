import Derived.Test.YthadnmpneonmfaaGreatDoorEvSt
namespace Go.Ev
open Go Go.Proofs
theorem p3 (e0 e2 : Nat) : piece Tryz.prog 27995 kb3 kt3 (s2 e0 e2) = some (s3 e0 e2) := by kernel_rfl
end Go.Ev
