/- Contracts of functions of the program, walked, and plain laws. -/
import Derived.Test.YtncodmefagealaaGreatDoorEvSu
namespace Go.Ev
open Go Go.Proofs
theorem p16 (e0 e6 e13 e19 e25 e26 e32 : Nat) : piece Tryz.prog 15767 kb16 kt16 (s15 e0 e6 e13 e19 e25 e26 e32) = some (s16 e0 e6 e13 e19 e25 e26 e32) := by kernel_rfl
end Go.Ev
namespace Go.Ev
open Go Go.Proofs
theorem p17 (e0 e6 e13 e19 e25 e26 e32 : Nat) : (hookS (s16 e0 e6 e13 e19 e25 e26 e32)).bind (cutS kb17 kt17) = some (s17 e0 e6 e13 e19 e25 e26 e32) := by kernel_rfl
end Go.Ev
