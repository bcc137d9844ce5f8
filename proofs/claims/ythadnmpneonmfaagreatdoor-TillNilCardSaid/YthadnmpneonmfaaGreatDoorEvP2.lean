import Derived.Test.YthadnmpneonmfaaGreatDoorEvSt
namespace Go.Ev
open Go Go.Proofs
theorem p2 (e0 e2 : Nat) : piece Tryz.prog 25842 kb2 kt2 (s1 e0 e2) = some (s2 e0 e2) := by kernel_rfl
end Go.Ev
