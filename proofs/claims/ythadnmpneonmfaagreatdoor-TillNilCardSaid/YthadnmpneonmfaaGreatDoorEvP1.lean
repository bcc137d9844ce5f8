import Derived.Test.YthadnmpneonmfaaGreatDoorEvSt
namespace Go.Ev
open Go Go.Proofs
theorem p1 (e0 e2 : Nat) : piece Tryz.prog 8313 kb1 kt1 (s0 e0 e2) = some (s1 e0 e2) := by kernel_rfl
end Go.Ev
