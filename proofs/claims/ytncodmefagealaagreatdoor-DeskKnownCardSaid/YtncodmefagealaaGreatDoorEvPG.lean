/- Contracts of functions of the program, walked, and plain laws. -/
import Derived.Test.YtncodmefagealaaGreatDoorEvSu
namespace Go.Ev
open Go Go.Proofs
theorem p20 (e0 e6 e13 e19 e25 e26 e32 : Nat) : piece Tryz.prog 27000 kb20 kt20 (s19 e0 e6 e13 e19 e25 e26 e32) = some (s20 e0 e6 e13 e19 e25 e26 e32) := by kernel_rfl
end Go.Ev
namespace Go.Ev
open Go Go.Proofs
theorem p21 (e0 e6 e13 e19 e25 e26 e32 : Nat) : piece Tryz.prog 16370 kb21 kt21 (s20 e0 e6 e13 e19 e25 e26 e32) = some (s21 e0 e6 e13 e19 e25 e26 e32) := by kernel_rfl
end Go.Ev
