import Derived.Test.YthadnmpneonmfaaGreatDoorEvSt
namespace Go.Ev
open Go Go.Proofs
theorem p4 (e0 e2 : Nat) : piece Tryz.prog 2211 kb4 kt4 (s3 e0 e2) = some (s4 e0 e2) := by kernel_rfl
end Go.Ev
