/- Contracts of functions of the program, walked, and plain laws. -/
import Derived.Test.YtncodmefagealaaGreatDoorEvSu
namespace Go.Ev
open Go Go.Proofs
theorem p18 (e0 e6 e13 e19 e25 e26 e32 : Nat) : piece Tryz.prog 22258 kb18 kt18 (s17 e0 e6 e13 e19 e25 e26 e32) = some (s18 e0 e6 e13 e19 e25 e26 e32) := by kernel_rfl
end Go.Ev
namespace Go.Ev
open Go Go.Proofs
theorem p19 (e0 e6 e13 e19 e25 e26 e32 : Nat) : piece Tryz.prog 28000 kb19 kt19 (s18 e0 e6 e13 e19 e25 e26 e32) = some (s19 e0 e6 e13 e19 e25 e26 e32) := by kernel_rfl
end Go.Ev
