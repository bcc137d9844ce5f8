/- Contracts of functions of the program, walked, and plain laws. -/
import Derived.Test.YtncodmefagealaaGreatDoorEvSu
namespace Go.Ev
open Go Go.Proofs
theorem p4 (e0 e6 e13 e19 e25 e26 e32 : Nat) : piece Tryz.prog 18000 kb4 kt4 (s3 e0 e6 e13 e19 e25 e26 e32) = some (s4 e0 e6 e13 e19 e25 e26 e32) := by kernel_rfl
end Go.Ev
namespace Go.Ev
open Go Go.Proofs
theorem p6 (e0 e6 e13 e19 e25 e26 e32 : Nat) : piece Tryz.prog 26000 kb6 kt6 (s5 e0 e6 e13 e19 e25 e26 e32) = some (s6 e0 e6 e13 e19 e25 e26 e32) := by kernel_rfl
end Go.Ev
