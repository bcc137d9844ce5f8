/- Contracts of functions of the program, walked, and plain laws. -/
import Derived.Test.YtncodmefagealaaGreatDoorEvSu
namespace Go.Ev
open Go Go.Proofs
theorem p8 (e0 e6 e13 e19 e25 e26 e32 : Nat) : piece Tryz.prog 19500 kb8 kt8 (s7 e0 e6 e13 e19 e25 e26 e32) = some (s8 e0 e6 e13 e19 e25 e26 e32) := by kernel_rfl
end Go.Ev
namespace Go.Ev
open Go Go.Proofs
theorem p9 (e0 e6 e13 e19 e25 e26 e32 : Nat) : piece Tryz.prog 12296 kb9 kt9 (s8 e0 e6 e13 e19 e25 e26 e32) = some (s9 e0 e6 e13 e19 e25 e26 e32) := by kernel_rfl
end Go.Ev
namespace Go.Ev
open Go Go.Proofs
theorem p10 (e0 e6 e13 e19 e25 e26 e32 : Nat) : candsP Tryz.prog (s9 e0 e6 e13 e19 e25 e26 e32) = some b10 ∧ ((b10[0]?).bind (pickP Tryz.prog (s9 e0 e6 e13 e19 e25 e26 e32))).bind (piece Tryz.prog 320 kb10 kt10) = some (s10 e0 e6 e13 e19 e25 e26 e32) ∧ ((b10[1]?).bind (pickP Tryz.prog (s9 e0 e6 e13 e19 e25 e26 e32))).bind (piece Tryz.prog 270 kb10 kt10) = some (s10 e0 e6 e13 e19 e25 e26 e32) := ⟨by kernel_rfl, by kernel_rfl, by kernel_rfl⟩
end Go.Ev
namespace Go.Ev
open Go Go.Proofs
theorem p11 (e0 e6 e13 e19 e25 e26 e32 : Nat) : piece Tryz.prog 2866 kb11 kt11 (s10 e0 e6 e13 e19 e25 e26 e32) = some (s11 e0 e6 e13 e19 e25 e26 e32) := by kernel_rfl
end Go.Ev
