/- Contracts of functions of the program, walked, and plain laws. -/
import Derived.Test.YtncodmefagealaaGreatDoorEvSu
namespace Go.Ev
open Go Go.Proofs
theorem p3 (e0 e6 e13 e19 e25 e26 e32 : Nat) : piece Tryz.prog 25000 kb3 kt3 (s2 e0 e6 e13 e19 e25 e26 e32) = some (s3 e0 e6 e13 e19 e25 e26 e32) := by kernel_rfl
end Go.Ev
namespace Go.Ev
open Go Go.Proofs
theorem p5 (e0 e6 e13 e19 e25 e26 e32 : Nat) : piece Tryz.prog 16000 kb5 kt5 (s4 e0 e6 e13 e19 e25 e26 e32) = some (s5 e0 e6 e13 e19 e25 e26 e32) := by kernel_rfl
end Go.Ev
