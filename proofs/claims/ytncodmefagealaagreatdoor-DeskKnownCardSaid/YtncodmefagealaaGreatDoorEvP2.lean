import Derived.Test.YtncodmefagealaaGreatDoorEvSu
namespace Go.Ev
open Go Go.Proofs
theorem p2 (e0 e6 e13 e19 e25 e26 e32 : Nat) : piece Tryz.prog 24796 kb2 kt2 (s1 e0 e6 e13 e19 e25 e26 e32) = some (s2 e0 e6 e13 e19 e25 e26 e32) := by kernel_rfl
end Go.Ev
